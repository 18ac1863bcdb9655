/- The table of the functions that are run: printed by program. -/
import Derived.Test.YtmnffigepjgnhaaGreatDoorAxE
import Derived.Test.YtmnffigepjgnhaaGreatDoorProg
import Derived.KernelRfl
set_option linter.unusedVariables false
set_option linter.unusedSimpArgs false
namespace Go.Proofs
open Go Go.Ax
noncomputable abbrev PP : Program := Tryz.prog
theorem mixed : PP.follows .mixedOrders = true := by kernel_rfl
def plans4 : Plans := fun _ => []
noncomputable def code4 : Code := (Tryz.f4.body).getD .skip
noncomputable def ent4 : Entry := ⟨74, [.tmp 2], code4, plans4⟩
theorem good4 : ent4.Good PP 4 := ⟨Tryz.f4, ⟨Tryz.func4, by kernel_rfl, by kernel_rfl, by kernel_rfl⟩, by kernel_rfl, by kernel_rfl⟩
def plans13 : Plans := fun _ => []
noncomputable def code13 : Code := (Tryz.f13.body).getD .skip
noncomputable def ent13 : Entry := ⟨28, [.tmp 2, .tmp 3, .tmp 4], code13, plans13⟩
theorem good13 : ent13.Good PP 13 := ⟨Tryz.f13, ⟨Tryz.func13, by kernel_rfl, by kernel_rfl, by kernel_rfl⟩, by kernel_rfl, by kernel_rfl⟩
def plans7 : Plans := fun _ => []
noncomputable def code7 : Code := (Tryz.f7.body).getD .skip
noncomputable def ent7 : Entry := ⟨2, [.cell 0 31], code7, plans7⟩
theorem good7 : ent7.Good PP 7 := ⟨Tryz.f7, ⟨Tryz.func7, by kernel_rfl, by kernel_rfl, by kernel_rfl⟩, by kernel_rfl, by kernel_rfl⟩
def plans6 : Plans := fun _ => []
noncomputable def code6 : Code := (Tryz.f6.body).getD .skip
noncomputable def ent6 : Entry := ⟨9, [.tmp 2], code6, plans6⟩
theorem good6 : ent6.Good PP 6 := ⟨Tryz.f6, ⟨Tryz.func6, by kernel_rfl, by kernel_rfl, by kernel_rfl⟩, by kernel_rfl, by kernel_rfl⟩
def plans19 : Plans := fun _ => []
noncomputable def code19 : Code := (Tryz.f19.body).getD .skip
noncomputable def ent19 : Entry := ⟨8, [.cell 2 31], code19, plans19⟩
theorem good19 : ent19.Good PP 19 := ⟨Tryz.f19, ⟨Tryz.func19, by kernel_rfl, by kernel_rfl, by kernel_rfl⟩, by kernel_rfl, by kernel_rfl⟩
def plans45 : Plans := fun _ => []
noncomputable def code45 : Code := (Tryz.f45.body).getD .skip
noncomputable def ent45 : Entry := ⟨8, [.tmp 2], code45, plans45⟩
theorem good45 : ent45.Good PP 45 := ⟨Tryz.f45, ⟨Tryz.func45, by kernel_rfl, by kernel_rfl, by kernel_rfl⟩, by kernel_rfl, by kernel_rfl⟩
def plans9 : Plans := fun _ => []
noncomputable def code9 : Code := (Tryz.f9.body).getD .skip
noncomputable def ent9 : Entry := ⟨4, [.tmp 0], code9, plans9⟩
theorem good9 : ent9.Good PP 9 := ⟨Tryz.f9, ⟨Tryz.func9, by kernel_rfl, by kernel_rfl, by kernel_rfl⟩, by kernel_rfl, by kernel_rfl⟩
def plans30 : Plans := fun
  | 7 => [(.op 0, []), (.op 2, []), (.op 3, []), (.op 5, []), (.op 1, []), (.op 4, []), (.op 6, []), (.op 7, []), (.op 8, []), (.op 9, []), (.op 10, []), (.mk 11, []), (.reveal 11, []), (.op 12, []), (.op 13, []), (.op 14, [])]
  | _ => []
noncomputable def code30 : Code := (Tryz.f30.body).getD .skip
noncomputable def ent30 : Entry := ⟨52, [.cell 2 25], code30, plans30⟩
theorem good30 : ent30.Good PP 30 := ⟨Tryz.f30, ⟨Tryz.func30, by kernel_rfl, by kernel_rfl, by kernel_rfl⟩, by kernel_rfl, by kernel_rfl⟩
def plans66 : Plans := fun _ => []
noncomputable def code66 : Code := (Tryz.f66.body).getD .skip
noncomputable def ent66 : Entry := ⟨2, [.tmp 0], code66, plans66⟩
theorem good66 : ent66.Good PP 66 := ⟨Tryz.f66, ⟨Tryz.func66, by kernel_rfl, by kernel_rfl, by kernel_rfl⟩, by kernel_rfl, by kernel_rfl⟩
def plans67 : Plans := fun _ => []
noncomputable def code67 : Code := (Tryz.f67.body).getD .skip
noncomputable def ent67 : Entry := ⟨8, [.tmp 2], code67, plans67⟩
theorem good67 : ent67.Good PP 67 := ⟨Tryz.f67, ⟨Tryz.func67, by kernel_rfl, by kernel_rfl, by kernel_rfl⟩, by kernel_rfl, by kernel_rfl⟩
def plans68 : Plans := fun _ => []
noncomputable def code68 : Code := (Tryz.f68.body).getD .skip
noncomputable def ent68 : Entry := ⟨13, [.tmp 4], code68, plans68⟩
theorem good68 : ent68.Good PP 68 := ⟨Tryz.f68, ⟨Tryz.func68, by kernel_rfl, by kernel_rfl, by kernel_rfl⟩, by kernel_rfl, by kernel_rfl⟩
def plans8 : Plans := fun
  | 14 => [(.op 0, []), (.op 1, []), (.op 2, []), (.op 3, []), (.op 5, []), (.op 6, []), (.op 4, [2, 6]), (.op 7, []), (.mk 8, []), (.reveal 8, []), (.op 9, [])]
  | _ => []
noncomputable def code8 : Code := (Tryz.f8.body).getD .skip
noncomputable def ent8 : Entry := ⟨75, [.tmp 6, .tmp 7], code8, plans8⟩
theorem good8 : ent8.Good PP 8 := ⟨Tryz.f8, ⟨Tryz.func8, by kernel_rfl, by kernel_rfl, by kernel_rfl⟩, by kernel_rfl, by kernel_rfl⟩
def plans10 : Plans := fun _ => []
noncomputable def code10 : Code := (Tryz.f10.body).getD .skip
noncomputable def ent10 : Entry := ⟨42, [.tmp 2], code10, plans10⟩
theorem good10 : ent10.Good PP 10 := ⟨Tryz.f10, ⟨Tryz.func10, by kernel_rfl, by kernel_rfl, by kernel_rfl⟩, by kernel_rfl, by kernel_rfl⟩
def plans20 : Plans := fun _ => []
noncomputable def code20 : Code := (Tryz.f20.body).getD .skip
noncomputable def ent20 : Entry := ⟨8, [.tmp 2], code20, plans20⟩
theorem good20 : ent20.Good PP 20 := ⟨Tryz.f20, ⟨Tryz.func20, by kernel_rfl, by kernel_rfl, by kernel_rfl⟩, by kernel_rfl, by kernel_rfl⟩
def plans21 : Plans := fun _ => []
noncomputable def code21 : Code := (Tryz.f21.body).getD .skip
noncomputable def ent21 : Entry := ⟨74, [.cell 2 66, .tmp 3, .tmp 4], code21, plans21⟩
theorem good21 : ent21.Good PP 21 := ⟨Tryz.f21, ⟨Tryz.func21, by kernel_rfl, by kernel_rfl, by kernel_rfl⟩, by kernel_rfl, by kernel_rfl⟩
def plans47 : Plans := fun _ => []
noncomputable def code47 : Code := (Tryz.f47.body).getD .skip
noncomputable def ent47 : Entry := ⟨2, [.tmp 0], code47, plans47⟩
theorem good47 : ent47.Good PP 47 := ⟨Tryz.f47, ⟨Tryz.func47, by kernel_rfl, by kernel_rfl, by kernel_rfl⟩, by kernel_rfl, by kernel_rfl⟩
def plans53 : Plans := fun _ => []
noncomputable def code53 : Code := (Tryz.f53.body).getD .skip
noncomputable def ent53 : Entry := ⟨38, [.tmp 6], code53, plans53⟩
theorem good53 : ent53.Good PP 53 := ⟨Tryz.f53, ⟨Tryz.func53, by kernel_rfl, by kernel_rfl, by kernel_rfl⟩, by kernel_rfl, by kernel_rfl⟩
def plans93 : Plans := fun _ => []
noncomputable def code93 : Code := (Tryz.f93.body).getD .skip
noncomputable def ent93 : Entry := ⟨14, [.tmp 2], code93, plans93⟩
theorem good93 : ent93.Good PP 93 := ⟨Tryz.f93, ⟨Tryz.func93, by kernel_rfl, by kernel_rfl, by kernel_rfl⟩, by kernel_rfl, by kernel_rfl⟩
def plans91 : Plans := fun _ => []
noncomputable def code91 : Code := (Tryz.f91.body).getD .skip
noncomputable def ent91 : Entry := ⟨10, [.tmp 2], code91, plans91⟩
theorem good91 : ent91.Good PP 91 := ⟨Tryz.f91, ⟨Tryz.func91, by kernel_rfl, by kernel_rfl, by kernel_rfl⟩, by kernel_rfl, by kernel_rfl⟩
def plans46 : Plans := fun _ => []
noncomputable def code46 : Code := (Tryz.f46.body).getD .skip
noncomputable def ent46 : Entry := ⟨27, [.tmp 4, .tmp 5], code46, plans46⟩
theorem good46 : ent46.Good PP 46 := ⟨Tryz.f46, ⟨Tryz.func46, by kernel_rfl, by kernel_rfl, by kernel_rfl⟩, by kernel_rfl, by kernel_rfl⟩
def plans22 : Plans := fun _ => []
noncomputable def code22 : Code := (Tryz.f22.body).getD .skip
noncomputable def ent22 : Entry := ⟨46, [.tmp 4], code22, plans22⟩
theorem good22 : ent22.Good PP 22 := ⟨Tryz.f22, ⟨Tryz.func22, by kernel_rfl, by kernel_rfl, by kernel_rfl⟩, by kernel_rfl, by kernel_rfl⟩
def plans12 : Plans := fun
  | 8 => [(.op 0, []), (.op 1, []), (.op 2, []), (.op 7, []), (.op 3, []), (.op 4, []), (.op 5, []), (.op 6, []), (.op 8, [5, 6]), (.op 9, []), (.mk 10, []), (.reveal 10, []), (.op 11, []), (.op 12, [])]
  | _ => []
noncomputable def code12 : Code := (Tryz.f12.body).getD .skip
noncomputable def ent12 : Entry := ⟨39, [.tmp 2], code12, plans12⟩
theorem good12 : ent12.Good PP 12 := ⟨Tryz.f12, ⟨Tryz.func12, by kernel_rfl, by kernel_rfl, by kernel_rfl⟩, by kernel_rfl, by kernel_rfl⟩
def plans64 : Plans := fun _ => []
noncomputable def code64 : Code := (Tryz.f64.body).getD .skip
noncomputable def ent64 : Entry := ⟨14, [], code64, plans64⟩
theorem good64 : ent64.Good PP 64 := ⟨Tryz.f64, ⟨Tryz.func64, by kernel_rfl, by kernel_rfl, by kernel_rfl⟩, by kernel_rfl, by kernel_rfl⟩
def plans116 : Plans := fun _ => []
noncomputable def code116 : Code := (Tryz.f116.body).getD .skip
noncomputable def ent116 : Entry := ⟨8, [.tmp 2], code116, plans116⟩
theorem good116 : ent116.Good PP 116 := ⟨Tryz.f116, ⟨Tryz.func116, by kernel_rfl, by kernel_rfl, by kernel_rfl⟩, by kernel_rfl, by kernel_rfl⟩
def plans173 : Plans := fun _ => []
noncomputable def code173 : Code := (Tryz.f173.body).getD .skip
noncomputable def ent173 : Entry := ⟨25, [.tmp 2], code173, plans173⟩
theorem good173 : ent173.Good PP 173 := ⟨Tryz.f173, ⟨Tryz.func173, by kernel_rfl, by kernel_rfl, by kernel_rfl⟩, by kernel_rfl, by kernel_rfl⟩
def plans120 : Plans := fun
  | 17 => [(.op 0, []), (.op 1, []), (.op 2, []), (.op 3, []), (.op 4, []), (.op 5, []), (.op 9, []), (.op 10, []), (.op 6, []), (.op 11, []), (.op 7, []), (.op 12, []), (.op 8, []), (.op 13, []), (.op 14, []), (.op 15, []), (.op 16, [])]
  | _ => []
noncomputable def code120 : Code := (Tryz.f120.body).getD .skip
noncomputable def ent120 : Entry := ⟨148, [], code120, plans120⟩
theorem good120 : ent120.Good PP 120 := ⟨Tryz.f120, ⟨Tryz.func120, by kernel_rfl, by kernel_rfl, by kernel_rfl⟩, by kernel_rfl, by kernel_rfl⟩
def plans175 : Plans := fun
  | 4 => [(.op 0, []), (.op 1, []), (.op 2, []), (.op 3, []), (.op 4, []), (.op 5, []), (.op 6, []), (.op 9, []), (.op 10, []), (.op 11, []), (.op 7, []), (.op 8, []), (.op 12, []), (.op 13, []), (.op 14, []), (.op 15, []), (.op 16, [])]
  | 6 => [(.op 0, []), (.op 1, []), (.op 2, []), (.op 3, []), (.op 5, []), (.op 6, []), (.op 10, []), (.op 11, []), (.op 4, []), (.op 7, []), (.op 12, []), (.op 8, []), (.op 13, []), (.op 9, []), (.op 14, []), (.op 15, []), (.op 16, []), (.op 17, [])]
  | _ => []
noncomputable def code175 : Code := (Tryz.f175.body).getD .skip
noncomputable def ent175 : Entry := ⟨53, [], code175, plans175⟩
theorem good175 : ent175.Good PP 175 := ⟨Tryz.f175, ⟨Tryz.func175, by kernel_rfl, by kernel_rfl, by kernel_rfl⟩, by kernel_rfl, by kernel_rfl⟩
def plans23 : Plans := fun
  | 11 => [(.op 0, []), (.op 1, []), (.op 3, []), (.op 2, [3]), (.op 4, []), (.mk 5, []), (.reveal 5, []), (.op 6, [])]
  | _ => []
noncomputable def code23 : Code := (Tryz.f23.body).getD .skip
noncomputable def ent23 : Entry := ⟨74, [.tmp 4, .tmp 5], code23, plans23⟩
theorem good23 : ent23.Good PP 23 := ⟨Tryz.f23, ⟨Tryz.func23, by kernel_rfl, by kernel_rfl, by kernel_rfl⟩, by kernel_rfl, by kernel_rfl⟩
def plans52 : Plans := fun _ => []
noncomputable def code52 : Code := (Tryz.f52.body).getD .skip
noncomputable def ent52 : Entry := ⟨86, [.tmp 2], code52, plans52⟩
theorem good52 : ent52.Good PP 52 := ⟨Tryz.f52, ⟨Tryz.func52, by kernel_rfl, by kernel_rfl, by kernel_rfl⟩, by kernel_rfl, by kernel_rfl⟩
def plans100 : Plans := fun _ => []
noncomputable def code100 : Code := (Tryz.f100.body).getD .skip
noncomputable def ent100 : Entry := ⟨49, [.tmp 2], code100, plans100⟩
theorem good100 : ent100.Good PP 100 := ⟨Tryz.f100, ⟨Tryz.func100, by kernel_rfl, by kernel_rfl, by kernel_rfl⟩, by kernel_rfl, by kernel_rfl⟩
def plans153 : Plans := fun _ => []
noncomputable def code153 : Code := (Tryz.f153.body).getD .skip
noncomputable def ent153 : Entry := ⟨15, [.tmp 6], code153, plans153⟩
theorem good153 : ent153.Good PP 153 := ⟨Tryz.f153, ⟨Tryz.func153, by kernel_rfl, by kernel_rfl, by kernel_rfl⟩, by kernel_rfl, by kernel_rfl⟩
def plans157 : Plans := fun _ => []
noncomputable def code157 : Code := (Tryz.f157.body).getD .skip
noncomputable def ent157 : Entry := ⟨9, [.tmp 4], code157, plans157⟩
theorem good157 : ent157.Good PP 157 := ⟨Tryz.f157, ⟨Tryz.func157, by kernel_rfl, by kernel_rfl, by kernel_rfl⟩, by kernel_rfl, by kernel_rfl⟩
def plans150 : Plans := fun _ => []
noncomputable def code150 : Code := (Tryz.f150.body).getD .skip
noncomputable def ent150 : Entry := ⟨19, [.tmp 4], code150, plans150⟩
theorem good150 : ent150.Good PP 150 := ⟨Tryz.f150, ⟨Tryz.func150, by kernel_rfl, by kernel_rfl, by kernel_rfl⟩, by kernel_rfl, by kernel_rfl⟩
def plans158 : Plans := fun _ => []
noncomputable def code158 : Code := (Tryz.f158.body).getD .skip
noncomputable def ent158 : Entry := ⟨9, [.tmp 4], code158, plans158⟩
theorem good158 : ent158.Good PP 158 := ⟨Tryz.f158, ⟨Tryz.func158, by kernel_rfl, by kernel_rfl, by kernel_rfl⟩, by kernel_rfl, by kernel_rfl⟩
def plans212 : Plans := fun _ => []
noncomputable def code212 : Code := (Tryz.f212.body).getD .skip
noncomputable def ent212 : Entry := ⟨19, [.tmp 4], code212, plans212⟩
theorem good212 : ent212.Good PP 212 := ⟨Tryz.f212, ⟨Tryz.func212, by kernel_rfl, by kernel_rfl, by kernel_rfl⟩, by kernel_rfl, by kernel_rfl⟩
def plans103 : Plans := fun _ => []
noncomputable def code103 : Code := (Tryz.f103.body).getD .skip
noncomputable def ent103 : Entry := ⟨9, [.tmp 2], code103, plans103⟩
theorem good103 : ent103.Good PP 103 := ⟨Tryz.f103, ⟨Tryz.func103, by kernel_rfl, by kernel_rfl, by kernel_rfl⟩, by kernel_rfl, by kernel_rfl⟩
def plans104 : Plans := fun _ => []
noncomputable def code104 : Code := (Tryz.f104.body).getD .skip
noncomputable def ent104 : Entry := ⟨5, [.tmp 2], code104, plans104⟩
theorem good104 : ent104.Good PP 104 := ⟨Tryz.f104, ⟨Tryz.func104, by kernel_rfl, by kernel_rfl, by kernel_rfl⟩, by kernel_rfl, by kernel_rfl⟩
def plans160 : Plans := fun _ => []
noncomputable def code160 : Code := (Tryz.f160.body).getD .skip
noncomputable def ent160 : Entry := ⟨5, [.tmp 2], code160, plans160⟩
theorem good160 : ent160.Good PP 160 := ⟨Tryz.f160, ⟨Tryz.func160, by kernel_rfl, by kernel_rfl, by kernel_rfl⟩, by kernel_rfl, by kernel_rfl⟩
def plans213 : Plans := fun _ => []
noncomputable def code213 : Code := (Tryz.f213.body).getD .skip
noncomputable def ent213 : Entry := ⟨54, [.tmp 4], code213, plans213⟩
theorem good213 : ent213.Good PP 213 := ⟨Tryz.f213, ⟨Tryz.func213, by kernel_rfl, by kernel_rfl, by kernel_rfl⟩, by kernel_rfl, by kernel_rfl⟩
def plans249 : Plans := fun _ => []
noncomputable def code249 : Code := (Tryz.f249.body).getD .skip
noncomputable def ent249 : Entry := ⟨15, [.tmp 2], code249, plans249⟩
theorem good249 : ent249.Good PP 249 := ⟨Tryz.f249, ⟨Tryz.func249, by kernel_rfl, by kernel_rfl, by kernel_rfl⟩, by kernel_rfl, by kernel_rfl⟩
def plans54 : Plans := fun
  | 1 => [(.op 0, []), (.op 2, []), (.op 4, []), (.op 6, []), (.op 8, []), (.op 1, []), (.op 3, []), (.op 5, []), (.op 7, []), (.op 9, []), (.op 10, [1, 3, 5, 7]), (.op 11, []), (.op 12, [])]
  | _ => []
noncomputable def code54 : Code := (Tryz.f54.body).getD .skip
noncomputable def ent54 : Entry := ⟨15, [.cell 2 129], code54, plans54⟩
theorem good54 : ent54.Good PP 54 := ⟨Tryz.f54, ⟨Tryz.func54, by kernel_rfl, by kernel_rfl, by kernel_rfl⟩, by kernel_rfl, by kernel_rfl⟩
def plans105 : Plans := fun _ => []
noncomputable def code105 : Code := (Tryz.f105.body).getD .skip
noncomputable def ent105 : Entry := ⟨8, [.tmp 2], code105, plans105⟩
theorem good105 : ent105.Good PP 105 := ⟨Tryz.f105, ⟨Tryz.func105, by kernel_rfl, by kernel_rfl, by kernel_rfl⟩, by kernel_rfl, by kernel_rfl⟩
def plans56 : Plans := fun
  | 10 => [(.op 0, []), (.op 1, []), (.op 2, []), (.op 3, [0]), (.op 4, []), (.op 5, [])]
  | 11 => [(.op 0, []), (.op 1, []), (.op 2, []), (.op 3, [0]), (.op 4, []), (.op 5, [])]
  | 12 => [(.op 0, []), (.op 1, []), (.op 3, []), (.op 5, []), (.op 2, []), (.op 4, []), (.op 6, [2, 4]), (.mk 7, []), (.reveal 7, []), (.op 8, [])]
  | _ => []
noncomputable def code56 : Code := (Tryz.f56.body).getD .skip
noncomputable def ent56 : Entry := ⟨72, [.tmp 2], code56, plans56⟩
theorem good56 : ent56.Good PP 56 := ⟨Tryz.f56, ⟨Tryz.func56, by kernel_rfl, by kernel_rfl, by kernel_rfl⟩, by kernel_rfl, by kernel_rfl⟩
def plans109 : Plans := fun
  | 1 => [(.op 0, []), (.op 1, []), (.op 2, []), (.op 3, []), (.op 4, [0]), (.op 5, []), (.op 6, [])]
  | _ => []
noncomputable def code109 : Code := (Tryz.f109.body).getD .skip
noncomputable def ent109 : Entry := ⟨14, [], code109, plans109⟩
theorem good109 : ent109.Good PP 109 := ⟨Tryz.f109, ⟨Tryz.func109, by kernel_rfl, by kernel_rfl, by kernel_rfl⟩, by kernel_rfl, by kernel_rfl⟩
def plans110 : Plans := fun _ => []
noncomputable def code110 : Code := (Tryz.f110.body).getD .skip
noncomputable def ent110 : Entry := ⟨21, [.tmp 2], code110, plans110⟩
theorem good110 : ent110.Good PP 110 := ⟨Tryz.f110, ⟨Tryz.func110, by kernel_rfl, by kernel_rfl, by kernel_rfl⟩, by kernel_rfl, by kernel_rfl⟩
def plans55 : Plans := fun _ => []
noncomputable def code55 : Code := (Tryz.f55.body).getD .skip
noncomputable def ent55 : Entry := ⟨15, [.tmp 2], code55, plans55⟩
theorem good55 : ent55.Good PP 55 := ⟨Tryz.f55, ⟨Tryz.func55, by kernel_rfl, by kernel_rfl, by kernel_rfl⟩, by kernel_rfl, by kernel_rfl⟩
def plans107 : Plans := fun _ => []
noncomputable def code107 : Code := (Tryz.f107.body).getD .skip
noncomputable def ent107 : Entry := ⟨32, [.tmp 4], code107, plans107⟩
theorem good107 : ent107.Good PP 107 := ⟨Tryz.f107, ⟨Tryz.func107, by kernel_rfl, by kernel_rfl, by kernel_rfl⟩, by kernel_rfl, by kernel_rfl⟩
def plans108 : Plans := fun _ => []
noncomputable def code108 : Code := (Tryz.f108.body).getD .skip
noncomputable def ent108 : Entry := ⟨31, [.tmp 2], code108, plans108⟩
theorem good108 : ent108.Good PP 108 := ⟨Tryz.f108, ⟨Tryz.func108, by kernel_rfl, by kernel_rfl, by kernel_rfl⟩, by kernel_rfl, by kernel_rfl⟩
def plans106 : Plans := fun _ => []
noncomputable def code106 : Code := (Tryz.f106.body).getD .skip
noncomputable def ent106 : Entry := ⟨36, [.tmp 2], code106, plans106⟩
theorem good106 : ent106.Good PP 106 := ⟨Tryz.f106, ⟨Tryz.func106, by kernel_rfl, by kernel_rfl, by kernel_rfl⟩, by kernel_rfl, by kernel_rfl⟩
def plans161 : Plans := fun _ => []
noncomputable def code161 : Code := (Tryz.f161.body).getD .skip
noncomputable def ent161 : Entry := ⟨27, [.tmp 4], code161, plans161⟩
theorem good161 : ent161.Good PP 161 := ⟨Tryz.f161, ⟨Tryz.func161, by kernel_rfl, by kernel_rfl, by kernel_rfl⟩, by kernel_rfl, by kernel_rfl⟩
def plans57 : Plans := fun _ => []
noncomputable def code57 : Code := (Tryz.f57.body).getD .skip
noncomputable def ent57 : Entry := ⟨25, [.tmp 6], code57, plans57⟩
theorem good57 : ent57.Good PP 57 := ⟨Tryz.f57, ⟨Tryz.func57, by kernel_rfl, by kernel_rfl, by kernel_rfl⟩, by kernel_rfl, by kernel_rfl⟩
def plans79 : Plans := fun
  | 7 => [(.op 0, []), (.op 4, []), (.op 1, []), (.op 2, []), (.op 3, []), (.op 5, []), (.op 6, []), (.op 7, [])]
  | _ => []
noncomputable def code79 : Code := (Tryz.f79.body).getD .skip
noncomputable def ent79 : Entry := ⟨28, [.tmp 4], code79, plans79⟩
theorem good79 : ent79.Good PP 79 := ⟨Tryz.f79, ⟨Tryz.func79, by kernel_rfl, by kernel_rfl, by kernel_rfl⟩, by kernel_rfl, by kernel_rfl⟩
def plans137 : Plans := fun _ => []
noncomputable def code137 : Code := (Tryz.f137.body).getD .skip
noncomputable def ent137 : Entry := ⟨45, [.tmp 2], code137, plans137⟩
theorem good137 : ent137.Good PP 137 := ⟨Tryz.f137, ⟨Tryz.func137, by kernel_rfl, by kernel_rfl, by kernel_rfl⟩, by kernel_rfl, by kernel_rfl⟩
def plans82 : Plans := fun
  | 2 => [(.op 0, []), (.op 1, []), (.op 2, []), (.op 3, []), (.op 4, []), (.op 5, []), (.op 6, []), (.op 7, []), (.op 11, []), (.op 8, []), (.op 12, []), (.op 9, []), (.op 13, []), (.op 10, []), (.op 14, []), (.op 15, []), (.op 16, []), (.op 17, [])]
  | _ => []
noncomputable def code82 : Code := (Tryz.f82.body).getD .skip
noncomputable def ent82 : Entry := ⟨42, [.tmp 4], code82, plans82⟩
theorem good82 : ent82.Good PP 82 := ⟨Tryz.f82, ⟨Tryz.func82, by kernel_rfl, by kernel_rfl, by kernel_rfl⟩, by kernel_rfl, by kernel_rfl⟩
def plans138 : Plans := fun _ => []
noncomputable def code138 : Code := (Tryz.f138.body).getD .skip
noncomputable def ent138 : Entry := ⟨8, [], code138, plans138⟩
theorem good138 : ent138.Good PP 138 := ⟨Tryz.f138, ⟨Tryz.func138, by kernel_rfl, by kernel_rfl, by kernel_rfl⟩, by kernel_rfl, by kernel_rfl⟩
def plans139 : Plans := fun
  | 1 => [(.op 0, []), (.op 4, []), (.op 1, []), (.op 2, []), (.op 3, []), (.op 5, [])]
  | 2 => [(.op 0, []), (.op 1, []), (.op 5, []), (.op 2, []), (.mk 6, []), (.op 3, []), (.op 4, []), (.reveal 6, []), (.op 7, []), (.op 8, []), (.op 9, []), (.op 10, [])]
  | _ => []
noncomputable def code139 : Code := (Tryz.f139.body).getD .skip
noncomputable def ent139 : Entry := ⟨20, [], code139, plans139⟩
theorem good139 : ent139.Good PP 139 := ⟨Tryz.f139, ⟨Tryz.func139, by kernel_rfl, by kernel_rfl, by kernel_rfl⟩, by kernel_rfl, by kernel_rfl⟩
def plans204 : Plans := fun _ => []
noncomputable def code204 : Code := (Tryz.f204.body).getD .skip
noncomputable def ent204 : Entry := ⟨44, [], code204, plans204⟩
theorem good204 : ent204.Good PP 204 := ⟨Tryz.f204, ⟨Tryz.func204, by kernel_rfl, by kernel_rfl, by kernel_rfl⟩, by kernel_rfl, by kernel_rfl⟩
def plans41 : Plans := fun
  | 12 => [(.op 0, []), (.op 2, []), (.op 3, []), (.op 6, []), (.op 14, []), (.op 4, []), (.op 7, []), (.op 15, []), (.op 8, []), (.op 16, []), (.op 5, []), (.op 9, []), (.op 17, []), (.op 10, []), (.op 18, []), (.op 11, []), (.op 12, []), (.op 1, [6, 9, 18]), (.op 13, []), (.op 19, []), (.op 20, [])]
  | _ => []
noncomputable def code41 : Code := (Tryz.f41.body).getD .skip
noncomputable def ent41 : Entry := ⟨73, [.tmp 8], code41, plans41⟩
theorem good41 : ent41.Good PP 41 := ⟨Tryz.f41, ⟨Tryz.func41, by kernel_rfl, by kernel_rfl, by kernel_rfl⟩, by kernel_rfl, by kernel_rfl⟩
def plans81 : Plans := fun _ => []
noncomputable def code81 : Code := (Tryz.f81.body).getD .skip
noncomputable def ent81 : Entry := ⟨8, [.tmp 2], code81, plans81⟩
theorem good81 : ent81.Good PP 81 := ⟨Tryz.f81, ⟨Tryz.func81, by kernel_rfl, by kernel_rfl, by kernel_rfl⟩, by kernel_rfl, by kernel_rfl⟩
def plans83 : Plans := fun
  | 0 => [(.op 0, []), (.op 1, []), (.op 5, []), (.op 2, []), (.mk 6, []), (.op 3, []), (.op 4, []), (.reveal 6, []), (.op 7, [0]), (.op 8, []), (.op 9, []), (.op 10, [])]
  | 1 => [(.op 0, []), (.op 1, []), (.op 5, []), (.op 2, []), (.op 3, []), (.op 4, []), (.op 6, [0]), (.op 7, []), (.op 8, []), (.op 9, [])]
  | _ => []
noncomputable def code83 : Code := (Tryz.f83.body).getD .skip
noncomputable def ent83 : Entry := ⟨21, [], code83, plans83⟩
theorem good83 : ent83.Good PP 83 := ⟨Tryz.f83, ⟨Tryz.func83, by kernel_rfl, by kernel_rfl, by kernel_rfl⟩, by kernel_rfl, by kernel_rfl⟩
def plans84 : Plans := fun
  | 1 => [(.op 0, []), (.op 1, []), (.op 4, []), (.op 2, []), (.op 5, []), (.op 3, []), (.op 6, []), (.op 7, [])]
  | _ => []
noncomputable def code84 : Code := (Tryz.f84.body).getD .skip
noncomputable def ent84 : Entry := ⟨19, [.tmp 4], code84, plans84⟩
theorem good84 : ent84.Good PP 84 := ⟨Tryz.f84, ⟨Tryz.func84, by kernel_rfl, by kernel_rfl, by kernel_rfl⟩, by kernel_rfl, by kernel_rfl⟩
def plans51 : Plans := fun _ => []
noncomputable def code51 : Code := (Tryz.f51.body).getD .skip
noncomputable def ent51 : Entry := ⟨26, [.tmp 4], code51, plans51⟩
theorem good51 : ent51.Good PP 51 := ⟨Tryz.f51, ⟨Tryz.func51, by kernel_rfl, by kernel_rfl, by kernel_rfl⟩, by kernel_rfl, by kernel_rfl⟩
def plans99 : Plans := fun _ => []
noncomputable def code99 : Code := (Tryz.f99.body).getD .skip
noncomputable def ent99 : Entry := ⟨13, [], code99, plans99⟩
theorem good99 : ent99.Good PP 99 := ⟨Tryz.f99, ⟨Tryz.func99, by kernel_rfl, by kernel_rfl, by kernel_rfl⟩, by kernel_rfl, by kernel_rfl⟩
def plans58 : Plans := fun _ => []
noncomputable def code58 : Code := (Tryz.f58.body).getD .skip
noncomputable def ent58 : Entry := ⟨48, [.tmp 4], code58, plans58⟩
theorem good58 : ent58.Good PP 58 := ⟨Tryz.f58, ⟨Tryz.func58, by kernel_rfl, by kernel_rfl, by kernel_rfl⟩, by kernel_rfl, by kernel_rfl⟩
def plans85 : Plans := fun _ => []
noncomputable def code85 : Code := (Tryz.f85.body).getD .skip
noncomputable def ent85 : Entry := ⟨14, [.tmp 2], code85, plans85⟩
theorem good85 : ent85.Good PP 85 := ⟨Tryz.f85, ⟨Tryz.func85, by kernel_rfl, by kernel_rfl, by kernel_rfl⟩, by kernel_rfl, by kernel_rfl⟩
def plans140 : Plans := fun
  | 0 => [(.op 0, []), (.op 1, []), (.op 2, []), (.op 3, []), (.op 4, []), (.op 5, []), (.op 6, [0, 1]), (.op 7, []), (.op 8, []), (.op 9, [1]), (.op 10, []), (.op 11, []), (.op 12, [])]
  | _ => []
noncomputable def code140 : Code := (Tryz.f140.body).getD .skip
noncomputable def ent140 : Entry := ⟨12, [], code140, plans140⟩
theorem good140 : ent140.Good PP 140 := ⟨Tryz.f140, ⟨Tryz.func140, by kernel_rfl, by kernel_rfl, by kernel_rfl⟩, by kernel_rfl, by kernel_rfl⟩
def plans114 : Plans := fun
  | 7 => [(.op 0, []), (.op 4, []), (.op 1, []), (.op 2, []), (.op 3, []), (.op 5, []), (.op 6, []), (.op 7, [])]
  | _ => []
noncomputable def code114 : Code := (Tryz.f114.body).getD .skip
noncomputable def ent114 : Entry := ⟨30, [.tmp 6], code114, plans114⟩
theorem good114 : ent114.Good PP 114 := ⟨Tryz.f114, ⟨Tryz.func114, by kernel_rfl, by kernel_rfl, by kernel_rfl⟩, by kernel_rfl, by kernel_rfl⟩
def plans163 : Plans := fun _ => []
noncomputable def code163 : Code := (Tryz.f163.body).getD .skip
noncomputable def ent163 : Entry := ⟨8, [], code163, plans163⟩
theorem good163 : ent163.Good PP 163 := ⟨Tryz.f163, ⟨Tryz.func163, by kernel_rfl, by kernel_rfl, by kernel_rfl⟩, by kernel_rfl, by kernel_rfl⟩
def plans24 : Plans := fun _ => []
noncomputable def code24 : Code := (Tryz.f24.body).getD .skip
noncomputable def ent24 : Entry := ⟨6, [.tmp 0], code24, plans24⟩
theorem good24 : ent24.Good PP 24 := ⟨Tryz.f24, ⟨Tryz.func24, by kernel_rfl, by kernel_rfl, by kernel_rfl⟩, by kernel_rfl, by kernel_rfl⟩
def plans25 : Plans := fun _ => []
noncomputable def code25 : Code := (Tryz.f25.body).getD .skip
noncomputable def ent25 : Entry := ⟨91, [], code25, plans25⟩
theorem good25 : ent25.Good PP 25 := ⟨Tryz.f25, ⟨Tryz.func25, by kernel_rfl, by kernel_rfl, by kernel_rfl⟩, by kernel_rfl, by kernel_rfl⟩
def plans65 : Plans := fun _ => []
noncomputable def code65 : Code := (Tryz.f65.body).getD .skip
noncomputable def ent65 : Entry := ⟨8, [.tmp 4], code65, plans65⟩
theorem good65 : ent65.Good PP 65 := ⟨Tryz.f65, ⟨Tryz.func65, by kernel_rfl, by kernel_rfl, by kernel_rfl⟩, by kernel_rfl, by kernel_rfl⟩
def plans121 : Plans := fun _ => []
noncomputable def code121 : Code := (Tryz.f121.body).getD .skip
noncomputable def ent121 : Entry := ⟨8, [.tmp 4], code121, plans121⟩
theorem good121 : ent121.Good PP 121 := ⟨Tryz.f121, ⟨Tryz.func121, by kernel_rfl, by kernel_rfl, by kernel_rfl⟩, by kernel_rfl, by kernel_rfl⟩
def plans29 : Plans := fun _ => []
noncomputable def code29 : Code := (Tryz.f29.body).getD .skip
noncomputable def ent29 : Entry := ⟨22, [.tmp 2], code29, plans29⟩
theorem good29 : ent29.Good PP 29 := ⟨Tryz.f29, ⟨Tryz.func29, by kernel_rfl, by kernel_rfl, by kernel_rfl⟩, by kernel_rfl, by kernel_rfl⟩
def plans49 : Plans := fun _ => []
noncomputable def code49 : Code := (Tryz.f49.body).getD .skip
noncomputable def ent49 : Entry := ⟨67, [.tmp 2, .tmp 3, .tmp 4], code49, plans49⟩
theorem good49 : ent49.Good PP 49 := ⟨Tryz.f49, ⟨Tryz.func49, by kernel_rfl, by kernel_rfl, by kernel_rfl⟩, by kernel_rfl, by kernel_rfl⟩
def plans92 : Plans := fun _ => []
noncomputable def code92 : Code := (Tryz.f92.body).getD .skip
noncomputable def ent92 : Entry := ⟨11, [.tmp 4, .tmp 5], code92, plans92⟩
theorem good92 : ent92.Good PP 92 := ⟨Tryz.f92, ⟨Tryz.func92, by kernel_rfl, by kernel_rfl, by kernel_rfl⟩, by kernel_rfl, by kernel_rfl⟩
def plans143 : Plans := fun _ => []
noncomputable def code143 : Code := (Tryz.f143.body).getD .skip
noncomputable def ent143 : Entry := ⟨15, [.tmp 4, .tmp 5], code143, plans143⟩
theorem good143 : ent143.Good PP 143 := ⟨Tryz.f143, ⟨Tryz.func143, by kernel_rfl, by kernel_rfl, by kernel_rfl⟩, by kernel_rfl, by kernel_rfl⟩
def plans206 : Plans := fun _ => []
noncomputable def code206 : Code := (Tryz.f206.body).getD .skip
noncomputable def ent206 : Entry := ⟨18, [.tmp 4], code206, plans206⟩
theorem good206 : ent206.Good PP 206 := ⟨Tryz.f206, ⟨Tryz.func206, by kernel_rfl, by kernel_rfl, by kernel_rfl⟩, by kernel_rfl, by kernel_rfl⟩
def plans95 : Plans := fun _ => []
noncomputable def code95 : Code := (Tryz.f95.body).getD .skip
noncomputable def ent95 : Entry := ⟨24, [.tmp 2, .tmp 3], code95, plans95⟩
theorem good95 : ent95.Good PP 95 := ⟨Tryz.f95, ⟨Tryz.func95, by kernel_rfl, by kernel_rfl, by kernel_rfl⟩, by kernel_rfl, by kernel_rfl⟩
def plans145 : Plans := fun _ => []
noncomputable def code145 : Code := (Tryz.f145.body).getD .skip
noncomputable def ent145 : Entry := ⟨18, [.tmp 2, .tmp 3], code145, plans145⟩
theorem good145 : ent145.Good PP 145 := ⟨Tryz.f145, ⟨Tryz.func145, by kernel_rfl, by kernel_rfl, by kernel_rfl⟩, by kernel_rfl, by kernel_rfl⟩
def plans208 : Plans := fun _ => []
noncomputable def code208 : Code := (Tryz.f208.body).getD .skip
noncomputable def ent208 : Entry := ⟨77, [.tmp 2, .tmp 3], code208, plans208⟩
theorem good208 : ent208.Good PP 208 := ⟨Tryz.f208, ⟨Tryz.func208, by kernel_rfl, by kernel_rfl, by kernel_rfl⟩, by kernel_rfl, by kernel_rfl⟩
def plans59 : Plans := fun _ => []
noncomputable def code59 : Code := (Tryz.f59.body).getD .skip
noncomputable def ent59 : Entry := ⟨14, [], code59, plans59⟩
theorem good59 : ent59.Good PP 59 := ⟨Tryz.f59, ⟨Tryz.func59, by kernel_rfl, by kernel_rfl, by kernel_rfl⟩, by kernel_rfl, by kernel_rfl⟩
def plans115 : Plans := fun
  | 17 => [(.op 0, []), (.op 1, []), (.op 2, []), (.op 3, []), (.op 4, []), (.op 5, []), (.op 9, []), (.op 10, []), (.op 6, []), (.op 11, []), (.op 7, []), (.op 12, []), (.op 8, []), (.op 13, []), (.op 14, []), (.op 15, []), (.op 16, [])]
  | _ => []
noncomputable def code115 : Code := (Tryz.f115.body).getD .skip
noncomputable def ent115 : Entry := ⟨148, [], code115, plans115⟩
theorem good115 : ent115.Good PP 115 := ⟨Tryz.f115, ⟨Tryz.func115, by kernel_rfl, by kernel_rfl, by kernel_rfl⟩, by kernel_rfl, by kernel_rfl⟩
def plans164 : Plans := fun
  | 4 => [(.op 0, []), (.op 1, []), (.op 2, []), (.op 3, []), (.op 4, []), (.op 5, []), (.op 6, []), (.op 9, []), (.op 10, []), (.op 11, []), (.op 7, []), (.op 8, []), (.op 12, []), (.op 13, []), (.op 14, []), (.op 15, []), (.op 16, [])]
  | 6 => [(.op 0, []), (.op 1, []), (.op 2, []), (.op 3, []), (.op 5, []), (.op 6, []), (.op 10, []), (.op 11, []), (.op 4, []), (.op 7, []), (.op 12, []), (.op 8, []), (.op 13, []), (.op 9, []), (.op 14, []), (.op 15, []), (.op 16, []), (.op 17, [])]
  | _ => []
noncomputable def code164 : Code := (Tryz.f164.body).getD .skip
noncomputable def ent164 : Entry := ⟨53, [], code164, plans164⟩
theorem good164 : ent164.Good PP 164 := ⟨Tryz.f164, ⟨Tryz.func164, by kernel_rfl, by kernel_rfl, by kernel_rfl⟩, by kernel_rfl, by kernel_rfl⟩
def plans61 : Plans := fun
  | 11 => [(.op 0, []), (.op 1, []), (.op 4, []), (.mk 2, []), (.op 5, []), (.reveal 2, []), (.op 3, [5]), (.op 6, []), (.op 7, [])]
  | _ => []
noncomputable def code61 : Code := (Tryz.f61.body).getD .skip
noncomputable def ent61 : Entry := ⟨49, [.tmp 4], code61, plans61⟩
theorem good61 : ent61.Good PP 61 := ⟨Tryz.f61, ⟨Tryz.func61, by kernel_rfl, by kernel_rfl, by kernel_rfl⟩, by kernel_rfl, by kernel_rfl⟩
def plans26 : Plans := fun
  | 2 => [(.op 0, []), (.op 1, []), (.op 3, []), (.mk 2, []), (.mk 4, []), (.reveal 2, []), (.reveal 4, []), (.op 5, []), (.mk 6, []), (.reveal 6, []), (.op 7, [])]
  | 7 => [(.op 0, []), (.op 1, []), (.op 2, []), (.op 3, []), (.op 7, []), (.op 4, []), (.op 5, []), (.op 6, []), (.op 8, []), (.op 9, [])]
  | 8 => [(.op 0, []), (.op 4, []), (.op 5, []), (.op 1, []), (.op 2, []), (.op 3, []), (.op 6, []), (.op 7, [])]
  | _ => []
noncomputable def code26 : Code := (Tryz.f26.body).getD .skip
noncomputable def ent26 : Entry := ⟨51, [.tmp 4], code26, plans26⟩
theorem good26 : ent26.Good PP 26 := ⟨Tryz.f26, ⟨Tryz.func26, by kernel_rfl, by kernel_rfl, by kernel_rfl⟩, by kernel_rfl, by kernel_rfl⟩
def plans62 : Plans := fun
  | 9 => [(.op 0, []), (.op 1, []), (.op 5, []), (.op 7, []), (.op 8, []), (.op 2, []), (.op 9, []), (.op 3, []), (.op 10, []), (.op 4, []), (.op 6, []), (.op 11, [3, 4]), (.op 12, []), (.op 13, []), (.op 14, [])]
  | _ => []
noncomputable def code62 : Code := (Tryz.f62.body).getD .skip
noncomputable def ent62 : Entry := ⟨75, [.cell 4 155, .tmp 5, .tmp 6], code62, plans62⟩
theorem good62 : ent62.Good PP 62 := ⟨Tryz.f62, ⟨Tryz.func62, by kernel_rfl, by kernel_rfl, by kernel_rfl⟩, by kernel_rfl, by kernel_rfl⟩
def plans90 : Plans := fun
  | 10 => [(.op 0, []), (.op 4, []), (.op 5, []), (.op 6, []), (.op 7, []), (.op 12, []), (.op 1, []), (.op 8, []), (.op 2, []), (.op 9, []), (.op 3, []), (.op 10, []), (.op 11, []), (.op 13, []), (.op 14, []), (.op 15, []), (.op 16, []), (.op 17, []), (.op 18, []), (.op 19, [])]
  | _ => []
noncomputable def code90 : Code := (Tryz.f90.body).getD .skip
noncomputable def ent90 : Entry := ⟨61, [.tmp 8, .tmp 9], code90, plans90⟩
theorem good90 : ent90.Good PP 90 := ⟨Tryz.f90, ⟨Tryz.func90, by kernel_rfl, by kernel_rfl, by kernel_rfl⟩, by kernel_rfl, by kernel_rfl⟩
def plans27 : Plans := fun _ => []
noncomputable def code27 : Code := (Tryz.f27.body).getD .skip
noncomputable def ent27 : Entry := ⟨11, [.tmp 2], code27, plans27⟩
theorem good27 : ent27.Good PP 27 := ⟨Tryz.f27, ⟨Tryz.func27, by kernel_rfl, by kernel_rfl, by kernel_rfl⟩, by kernel_rfl, by kernel_rfl⟩
def plans11 : Plans := fun _ => []
noncomputable def code11 : Code := (Tryz.f11.body).getD .skip
noncomputable def ent11 : Entry := ⟨4, [.tmp 2], code11, plans11⟩
theorem good11 : ent11.Good PP 11 := ⟨Tryz.f11, ⟨Tryz.func11, by kernel_rfl, by kernel_rfl, by kernel_rfl⟩, by kernel_rfl, by kernel_rfl⟩
def plans14 : Plans := fun
  | 6 => [(.op 0, []), (.op 1, []), (.op 5, []), (.op 9, []), (.op 2, []), (.op 6, []), (.op 10, []), (.op 3, []), (.op 7, []), (.op 11, []), (.op 4, []), (.op 8, []), (.op 12, []), (.op 13, []), (.mk 14, []), (.reveal 14, []), (.op 15, []), (.op 16, []), (.op 17, []), (.op 18, [])]
  | _ => []
noncomputable def code14 : Code := (Tryz.f14.body).getD .skip
noncomputable def ent14 : Entry := ⟨43, [.tmp 2, .tmp 3], code14, plans14⟩
theorem good14 : ent14.Good PP 14 := ⟨Tryz.f14, ⟨Tryz.func14, by kernel_rfl, by kernel_rfl, by kernel_rfl⟩, by kernel_rfl, by kernel_rfl⟩
def plans15 : Plans := fun _ => []
noncomputable def code15 : Code := (Tryz.f15.body).getD .skip
noncomputable def ent15 : Entry := ⟨27, [.tmp 4], code15, plans15⟩
theorem good15 : ent15.Good PP 15 := ⟨Tryz.f15, ⟨Tryz.func15, by kernel_rfl, by kernel_rfl, by kernel_rfl⟩, by kernel_rfl, by kernel_rfl⟩
def plans31 : Plans := fun _ => []
noncomputable def code31 : Code := (Tryz.f31.body).getD .skip
noncomputable def ent31 : Entry := ⟨19, [.tmp 4], code31, plans31⟩
theorem good31 : ent31.Good PP 31 := ⟨Tryz.f31, ⟨Tryz.func31, by kernel_rfl, by kernel_rfl, by kernel_rfl⟩, by kernel_rfl, by kernel_rfl⟩
def plans32 : Plans := fun _ => []
noncomputable def code32 : Code := (Tryz.f32.body).getD .skip
noncomputable def ent32 : Entry := ⟨8, [.tmp 3], code32, plans32⟩
theorem good32 : ent32.Good PP 32 := ⟨Tryz.f32, ⟨Tryz.func32, by kernel_rfl, by kernel_rfl, by kernel_rfl⟩, by kernel_rfl, by kernel_rfl⟩
def plans5 : Plans := fun _ => []
noncomputable def code5 : Code := (Tryz.f5.body).getD .skip
noncomputable def ent5 : Entry := ⟨63, [.tmp 0], code5, plans5⟩
theorem good5 : ent5.Good PP 5 := ⟨Tryz.f5, ⟨Tryz.func5, by kernel_rfl, by kernel_rfl, by kernel_rfl⟩, by kernel_rfl, by kernel_rfl⟩
def plans16 : Plans := fun _ => []
noncomputable def code16 : Code := (Tryz.f16.body).getD .skip
noncomputable def ent16 : Entry := ⟨45, [.tmp 6, .tmp 7, .tmp 8], code16, plans16⟩
theorem good16 : ent16.Good PP 16 := ⟨Tryz.f16, ⟨Tryz.func16, by kernel_rfl, by kernel_rfl, by kernel_rfl⟩, by kernel_rfl, by kernel_rfl⟩
def plans34 : Plans := fun _ => []
noncomputable def code34 : Code := (Tryz.f34.body).getD .skip
noncomputable def ent34 : Entry := ⟨30, [.tmp 4, .tmp 5], code34, plans34⟩
theorem good34 : ent34.Good PP 34 := ⟨Tryz.f34, ⟨Tryz.func34, by kernel_rfl, by kernel_rfl, by kernel_rfl⟩, by kernel_rfl, by kernel_rfl⟩
def plans35 : Plans := fun _ => []
noncomputable def code35 : Code := (Tryz.f35.body).getD .skip
noncomputable def ent35 : Entry := ⟨69, [.cell 6 104, .tmp 7, .tmp 8], code35, plans35⟩
theorem good35 : ent35.Good PP 35 := ⟨Tryz.f35, ⟨Tryz.func35, by kernel_rfl, by kernel_rfl, by kernel_rfl⟩, by kernel_rfl, by kernel_rfl⟩
def plans69 : Plans := fun
  | 3 => [(.op 0, []), (.op 4, []), (.op 5, []), (.op 6, []), (.op 1, []), (.op 2, []), (.op 7, []), (.op 3, []), (.op 8, [3]), (.op 9, []), (.op 10, []), (.op 11, []), (.op 12, []), (.op 13, []), (.op 14, []), (.op 15, [])]
  | _ => []
noncomputable def code69 : Code := (Tryz.f69.body).getD .skip
noncomputable def ent69 : Entry := ⟨52, [.cell 6 104, .tmp 7], code69, plans69⟩
theorem good69 : ent69.Good PP 69 := ⟨Tryz.f69, ⟨Tryz.func69, by kernel_rfl, by kernel_rfl, by kernel_rfl⟩, by kernel_rfl, by kernel_rfl⟩
def plans124 : Plans := fun
  | 7 => [(.op 0, []), (.op 1, []), (.op 2, []), (.op 3, []), (.op 7, []), (.op 12, []), (.op 4, []), (.op 5, []), (.op 6, []), (.op 8, []), (.op 9, []), (.op 10, []), (.op 11, []), (.op 13, []), (.op 14, []), (.op 15, [])]
  | _ => []
noncomputable def code124 : Code := (Tryz.f124.body).getD .skip
noncomputable def ent124 : Entry := ⟨45, [.cell 4 220], code124, plans124⟩
theorem good124 : ent124.Good PP 124 := ⟨Tryz.f124, ⟨Tryz.func124, by kernel_rfl, by kernel_rfl, by kernel_rfl⟩, by kernel_rfl, by kernel_rfl⟩
def plans71 : Plans := fun _ => []
noncomputable def code71 : Code := (Tryz.f71.body).getD .skip
noncomputable def ent71 : Entry := ⟨16, [.cell 2 66], code71, plans71⟩
theorem good71 : ent71.Good PP 71 := ⟨Tryz.f71, ⟨Tryz.func71, by kernel_rfl, by kernel_rfl, by kernel_rfl⟩, by kernel_rfl, by kernel_rfl⟩
def plans70 : Plans := fun _ => []
noncomputable def code70 : Code := (Tryz.f70.body).getD .skip
noncomputable def ent70 : Entry := ⟨33, [.tmp 4], code70, plans70⟩
theorem good70 : ent70.Good PP 70 := ⟨Tryz.f70, ⟨Tryz.func70, by kernel_rfl, by kernel_rfl, by kernel_rfl⟩, by kernel_rfl, by kernel_rfl⟩
def plans125 : Plans := fun _ => []
noncomputable def code125 : Code := (Tryz.f125.body).getD .skip
noncomputable def ent125 : Entry := ⟨9, [], code125, plans125⟩
theorem good125 : ent125.Good PP 125 := ⟨Tryz.f125, ⟨Tryz.func125, by kernel_rfl, by kernel_rfl, by kernel_rfl⟩, by kernel_rfl, by kernel_rfl⟩
def plans184 : Plans := fun _ => []
noncomputable def code184 : Code := (Tryz.f184.body).getD .skip
noncomputable def ent184 : Entry := ⟨63, [], code184, plans184⟩
theorem good184 : ent184.Good PP 184 := ⟨Tryz.f184, ⟨Tryz.func184, by kernel_rfl, by kernel_rfl, by kernel_rfl⟩, by kernel_rfl, by kernel_rfl⟩
def plans223 : Plans := fun
  | 4 => [(.op 0, []), (.op 1, []), (.op 2, []), (.op 3, []), (.op 4, []), (.op 5, []), (.op 6, []), (.op 9, []), (.op 10, []), (.op 11, []), (.op 7, []), (.op 8, []), (.op 12, []), (.op 13, []), (.op 14, []), (.op 15, []), (.op 16, [])]
  | 6 => [(.op 0, []), (.op 1, []), (.op 2, []), (.op 3, []), (.op 5, []), (.op 6, []), (.op 10, []), (.op 11, []), (.op 4, []), (.op 7, []), (.op 12, []), (.op 8, []), (.op 13, []), (.op 9, []), (.op 14, []), (.op 15, []), (.op 16, []), (.op 17, [])]
  | _ => []
noncomputable def code223 : Code := (Tryz.f223.body).getD .skip
noncomputable def ent223 : Entry := ⟨53, [], code223, plans223⟩
theorem good223 : ent223.Good PP 223 := ⟨Tryz.f223, ⟨Tryz.func223, by kernel_rfl, by kernel_rfl, by kernel_rfl⟩, by kernel_rfl, by kernel_rfl⟩
def plans17 : Plans := fun
  | 8 => [(.op 0, []), (.op 5, []), (.mk 8, []), (.op 1, []), (.op 2, []), (.op 3, []), (.op 4, []), (.op 6, [3]), (.op 7, []), (.reveal 8, []), (.op 9, [])]
  | 13 => [(.op 0, []), (.op 4, []), (.op 6, []), (.op 10, []), (.op 1, []), (.op 7, []), (.op 2, []), (.op 8, []), (.op 3, []), (.op 9, []), (.op 5, [3, 9]), (.op 11, []), (.op 12, [])]
  | _ => []
noncomputable def code17 : Code := (Tryz.f17.body).getD .skip
noncomputable def ent17 : Entry := ⟨80, [.tmp 6], code17, plans17⟩
theorem good17 : ent17.Good PP 17 := ⟨Tryz.f17, ⟨Tryz.func17, by kernel_rfl, by kernel_rfl, by kernel_rfl⟩, by kernel_rfl, by kernel_rfl⟩
def plans36 : Plans := fun _ => []
noncomputable def code36 : Code := (Tryz.f36.body).getD .skip
noncomputable def ent36 : Entry := ⟨26, [.tmp 2], code36, plans36⟩
theorem good36 : ent36.Good PP 36 := ⟨Tryz.f36, ⟨Tryz.func36, by kernel_rfl, by kernel_rfl, by kernel_rfl⟩, by kernel_rfl, by kernel_rfl⟩
def plans74 : Plans := fun _ => []
noncomputable def code74 : Code := (Tryz.f74.body).getD .skip
noncomputable def ent74 : Entry := ⟨32, [.tmp 2], code74, plans74⟩
theorem good74 : ent74.Good PP 74 := ⟨Tryz.f74, ⟨Tryz.func74, by kernel_rfl, by kernel_rfl, by kernel_rfl⟩, by kernel_rfl, by kernel_rfl⟩
def plans37 : Plans := fun _ => []
noncomputable def code37 : Code := (Tryz.f37.body).getD .skip
noncomputable def ent37 : Entry := ⟨37, [.tmp 2], code37, plans37⟩
theorem good37 : ent37.Good PP 37 := ⟨Tryz.f37, ⟨Tryz.func37, by kernel_rfl, by kernel_rfl, by kernel_rfl⟩, by kernel_rfl, by kernel_rfl⟩
def plans75 : Plans := fun _ => []
noncomputable def code75 : Code := (Tryz.f75.body).getD .skip
noncomputable def ent75 : Entry := ⟨14, [], code75, plans75⟩
theorem good75 : ent75.Good PP 75 := ⟨Tryz.f75, ⟨Tryz.func75, by kernel_rfl, by kernel_rfl, by kernel_rfl⟩, by kernel_rfl, by kernel_rfl⟩
def plans134 : Plans := fun
  | 17 => [(.op 0, []), (.op 1, []), (.op 2, []), (.op 3, []), (.op 4, []), (.op 5, []), (.op 9, []), (.op 10, []), (.op 6, []), (.op 11, []), (.op 7, []), (.op 12, []), (.op 8, []), (.op 13, []), (.op 14, []), (.op 15, []), (.op 16, [])]
  | _ => []
noncomputable def code134 : Code := (Tryz.f134.body).getD .skip
noncomputable def ent134 : Entry := ⟨148, [], code134, plans134⟩
theorem good134 : ent134.Good PP 134 := ⟨Tryz.f134, ⟨Tryz.func134, by kernel_rfl, by kernel_rfl, by kernel_rfl⟩, by kernel_rfl, by kernel_rfl⟩
def plans196 : Plans := fun
  | 4 => [(.op 0, []), (.op 1, []), (.op 2, []), (.op 3, []), (.op 4, []), (.op 5, []), (.op 6, []), (.op 9, []), (.op 10, []), (.op 11, []), (.op 7, []), (.op 8, []), (.op 12, []), (.op 13, []), (.op 14, []), (.op 15, []), (.op 16, [])]
  | 6 => [(.op 0, []), (.op 1, []), (.op 2, []), (.op 3, []), (.op 5, []), (.op 6, []), (.op 10, []), (.op 11, []), (.op 4, []), (.op 7, []), (.op 12, []), (.op 8, []), (.op 13, []), (.op 9, []), (.op 14, []), (.op 15, []), (.op 16, []), (.op 17, [])]
  | _ => []
noncomputable def code196 : Code := (Tryz.f196.body).getD .skip
noncomputable def ent196 : Entry := ⟨53, [], code196, plans196⟩
theorem good196 : ent196.Good PP 196 := ⟨Tryz.f196, ⟨Tryz.func196, by kernel_rfl, by kernel_rfl, by kernel_rfl⟩, by kernel_rfl, by kernel_rfl⟩
def plans38 : Plans := fun _ => []
noncomputable def code38 : Code := (Tryz.f38.body).getD .skip
noncomputable def ent38 : Entry := ⟨11, [.tmp 2], code38, plans38⟩
theorem good38 : ent38.Good PP 38 := ⟨Tryz.f38, ⟨Tryz.func38, by kernel_rfl, by kernel_rfl, by kernel_rfl⟩, by kernel_rfl, by kernel_rfl⟩
def plans78 : Plans := fun
  | 1 => [(.op 0, []), (.op 1, []), (.op 2, []), (.op 3, []), (.op 4, []), (.op 5, []), (.op 6, []), (.op 7, []), (.op 8, []), (.op 9, []), (.op 10, []), (.op 11, []), (.op 12, []), (.op 13, []), (.op 14, []), (.op 15, []), (.op 18, []), (.op 16, []), (.op 19, []), (.op 17, [19]), (.op 20, []), (.op 21, []), (.op 22, [])]
  | 3 => [(.op 0, []), (.op 3, []), (.op 1, []), (.op 4, []), (.op 5, []), (.op 2, [4]), (.op 6, []), (.op 7, []), (.op 8, [])]
  | _ => []
noncomputable def code78 : Code := (Tryz.f78.body).getD .skip
noncomputable def ent78 : Entry := ⟨64, [.tmp 2], code78, plans78⟩
theorem good78 : ent78.Good PP 78 := ⟨Tryz.f78, ⟨Tryz.func78, by kernel_rfl, by kernel_rfl, by kernel_rfl⟩, by kernel_rfl, by kernel_rfl⟩
def plans136 : Plans := fun
  | 6 => [(.op 0, []), (.op 1, []), (.op 4, []), (.op 5, []), (.op 2, []), (.op 6, []), (.op 3, []), (.op 7, []), (.op 8, [])]
  | _ => []
noncomputable def code136 : Code := (Tryz.f136.body).getD .skip
noncomputable def ent136 : Entry := ⟨26, [.tmp 4], code136, plans136⟩
theorem good136 : ent136.Good PP 136 := ⟨Tryz.f136, ⟨Tryz.func136, by kernel_rfl, by kernel_rfl, by kernel_rfl⟩, by kernel_rfl, by kernel_rfl⟩
def plans111 : Plans := fun _ => []
noncomputable def code111 : Code := (Tryz.f111.body).getD .skip
noncomputable def ent111 : Entry := ⟨8, [.tmp 2], code111, plans111⟩
theorem good111 : ent111.Good PP 111 := ⟨Tryz.f111, ⟨Tryz.func111, by kernel_rfl, by kernel_rfl, by kernel_rfl⟩, by kernel_rfl, by kernel_rfl⟩
def plans39 : Plans := fun
  | 2 => [(.op 0, []), (.op 4, []), (.op 1, []), (.op 2, []), (.op 3, []), (.op 5, [3]), (.op 6, []), (.op 7, [])]
  | 9 => [(.op 0, []), (.op 4, []), (.op 1, []), (.op 2, []), (.op 3, []), (.op 5, [3]), (.op 6, []), (.op 7, [])]
  | _ => []
noncomputable def code39 : Code := (Tryz.f39.body).getD .skip
noncomputable def ent39 : Entry := ⟨70, [.tmp 4], code39, plans39⟩
theorem good39 : ent39.Good PP 39 := ⟨Tryz.f39, ⟨Tryz.func39, by kernel_rfl, by kernel_rfl, by kernel_rfl⟩, by kernel_rfl, by kernel_rfl⟩
def plans42 : Plans := fun _ => []
noncomputable def code42 : Code := (Tryz.f42.body).getD .skip
noncomputable def ent42 : Entry := ⟨8, [.tmp 2], code42, plans42⟩
theorem good42 : ent42.Good PP 42 := ⟨Tryz.f42, ⟨Tryz.func42, by kernel_rfl, by kernel_rfl, by kernel_rfl⟩, by kernel_rfl, by kernel_rfl⟩
def plans43 : Plans := fun
  | 1 => [(.op 0, []), (.op 4, []), (.op 1, []), (.op 2, []), (.op 3, []), (.op 5, [3]), (.op 6, []), (.op 7, [])]
  | _ => []
noncomputable def code43 : Code := (Tryz.f43.body).getD .skip
noncomputable def ent43 : Entry := ⟨32, [.tmp 2], code43, plans43⟩
theorem good43 : ent43.Good PP 43 := ⟨Tryz.f43, ⟨Tryz.func43, by kernel_rfl, by kernel_rfl, by kernel_rfl⟩, by kernel_rfl, by kernel_rfl⟩
def plans44 : Plans := fun
  | 4 => [(.op 0, []), (.op 4, []), (.op 5, []), (.op 1, []), (.op 6, []), (.op 2, []), (.op 7, []), (.op 3, []), (.op 8, []), (.op 9, [4, 3]), (.op 10, []), (.op 11, [4, 3]), (.op 12, [])]
  | _ => []
noncomputable def code44 : Code := (Tryz.f44.body).getD .skip
noncomputable def ent44 : Entry := ⟨32, [], code44, plans44⟩
theorem good44 : ent44.Good PP 44 := ⟨Tryz.f44, ⟨Tryz.func44, by kernel_rfl, by kernel_rfl, by kernel_rfl⟩, by kernel_rfl, by kernel_rfl⟩
def plans86 : Plans := fun _ => []
noncomputable def code86 : Code := (Tryz.f86.body).getD .skip
noncomputable def ent86 : Entry := ⟨29, [.tmp 2], code86, plans86⟩
theorem good86 : ent86.Good PP 86 := ⟨Tryz.f86, ⟨Tryz.func86, by kernel_rfl, by kernel_rfl, by kernel_rfl⟩, by kernel_rfl, by kernel_rfl⟩
def plans89 : Plans := fun _ => []
noncomputable def code89 : Code := (Tryz.f89.body).getD .skip
noncomputable def ent89 : Entry := ⟨11, [.tmp 2], code89, plans89⟩
theorem good89 : ent89.Good PP 89 := ⟨Tryz.f89, ⟨Tryz.func89, by kernel_rfl, by kernel_rfl, by kernel_rfl⟩, by kernel_rfl, by kernel_rfl⟩
def plans88 : Plans := fun _ => []
noncomputable def code88 : Code := (Tryz.f88.body).getD .skip
noncomputable def ent88 : Entry := ⟨12, [.tmp 2], code88, plans88⟩
theorem good88 : ent88.Good PP 88 := ⟨Tryz.f88, ⟨Tryz.func88, by kernel_rfl, by kernel_rfl, by kernel_rfl⟩, by kernel_rfl, by kernel_rfl⟩
def plans87 : Plans := fun
  | 4 => [(.op 0, []), (.op 4, []), (.op 1, []), (.op 5, []), (.op 2, []), (.op 3, []), (.op 6, []), (.op 7, []), (.op 8, []), (.op 9, []), (.op 10, []), (.op 11, [])]
  | 5 => [(.op 0, []), (.op 1, []), (.op 2, []), (.op 3, []), (.op 7, []), (.op 12, []), (.op 4, []), (.op 13, []), (.op 5, []), (.op 6, []), (.op 8, []), (.op 9, []), (.op 10, []), (.op 11, []), (.op 14, []), (.op 15, [])]
  | 8 => [(.op 0, []), (.op 1, []), (.mk 4, []), (.mk 2, []), (.reveal 2, []), (.op 3, []), (.reveal 4, []), (.op 5, [])]
  | 12 => [(.op 0, []), (.op 2, []), (.op 3, []), (.op 7, []), (.op 13, []), (.op 1, []), (.op 4, []), (.op 8, []), (.op 5, []), (.op 9, []), (.op 6, []), (.op 10, []), (.op 11, []), (.op 12, []), (.op 14, []), (.op 15, []), (.op 16, []), (.op 17, [])]
  | 13 => [(.op 0, []), (.op 4, []), (.op 10, []), (.op 11, []), (.op 1, []), (.op 5, []), (.op 12, []), (.op 2, []), (.op 6, []), (.op 13, []), (.op 3, []), (.op 14, []), (.op 15, []), (.op 7, []), (.op 8, []), (.op 9, []), (.op 16, []), (.op 17, [])]
  | 15 => [(.op 0, []), (.op 1, []), (.op 5, []), (.op 2, []), (.mk 6, []), (.op 3, []), (.op 4, []), (.reveal 6, []), (.op 7, []), (.op 8, []), (.op 9, []), (.op 10, [])]
  | 16 => [(.op 0, []), (.op 4, []), (.op 8, []), (.op 1, []), (.op 5, []), (.op 9, []), (.op 2, []), (.op 6, []), (.op 10, []), (.op 3, []), (.op 7, []), (.op 11, []), (.op 12, []), (.op 13, []), (.op 14, []), (.op 15, [])]
  | _ => []
noncomputable def code87 : Code := (Tryz.f87.body).getD .skip
noncomputable def ent87 : Entry := ⟨120, [.tmp 6], code87, plans87⟩
theorem good87 : ent87.Good PP 87 := ⟨Tryz.f87, ⟨Tryz.func87, by kernel_rfl, by kernel_rfl, by kernel_rfl⟩, by kernel_rfl, by kernel_rfl⟩
def plans142 : Plans := fun _ => []
noncomputable def code142 : Code := (Tryz.f142.body).getD .skip
noncomputable def ent142 : Entry := ⟨23, [.tmp 2], code142, plans142⟩
theorem good142 : ent142.Good PP 142 := ⟨Tryz.f142, ⟨Tryz.func142, by kernel_rfl, by kernel_rfl, by kernel_rfl⟩, by kernel_rfl, by kernel_rfl⟩
def plans205 : Plans := fun _ => []
noncomputable def code205 : Code := (Tryz.f205.body).getD .skip
noncomputable def ent205 : Entry := ⟨27, [.tmp 2], code205, plans205⟩
theorem good205 : ent205.Good PP 205 := ⟨Tryz.f205, ⟨Tryz.func205, by kernel_rfl, by kernel_rfl, by kernel_rfl⟩, by kernel_rfl, by kernel_rfl⟩
def plans133 : Plans := fun
  | 1 => [(.op 0, []), (.op 2, []), (.op 5, []), (.op 7, []), (.op 10, []), (.op 12, []), (.op 1, []), (.op 3, []), (.op 6, []), (.op 8, []), (.op 11, []), (.op 13, []), (.op 4, [6, 8, 11, 13]), (.op 9, [11, 13]), (.op 14, []), (.mk 15, []), (.reveal 15, []), (.op 16, []), (.op 17, [])]
  | _ => []
noncomputable def code133 : Code := (Tryz.f133.body).getD .skip
noncomputable def ent133 : Entry := ⟨22, [.tmp 4], code133, plans133⟩
theorem good133 : ent133.Good PP 133 := ⟨Tryz.f133, ⟨Tryz.func133, by kernel_rfl, by kernel_rfl, by kernel_rfl⟩, by kernel_rfl, by kernel_rfl⟩
def plans77 : Plans := fun _ => []
noncomputable def code77 : Code := (Tryz.f77.body).getD .skip
noncomputable def ent77 : Entry := ⟨20, [.tmp 4], code77, plans77⟩
theorem good77 : ent77.Good PP 77 := ⟨Tryz.f77, ⟨Tryz.func77, by kernel_rfl, by kernel_rfl, by kernel_rfl⟩, by kernel_rfl, by kernel_rfl⟩
def plans135 : Plans := fun _ => []
noncomputable def code135 : Code := (Tryz.f135.body).getD .skip
noncomputable def ent135 : Entry := ⟨6, [.tmp 2], code135, plans135⟩
theorem good135 : ent135.Good PP 135 := ⟨Tryz.f135, ⟨Tryz.func135, by kernel_rfl, by kernel_rfl, by kernel_rfl⟩, by kernel_rfl, by kernel_rfl⟩
def plans127 : Plans := fun _ => []
noncomputable def code127 : Code := (Tryz.f127.body).getD .skip
noncomputable def ent127 : Entry := ⟨20, [.tmp 4], code127, plans127⟩
theorem good127 : ent127.Good PP 127 := ⟨Tryz.f127, ⟨Tryz.func127, by kernel_rfl, by kernel_rfl, by kernel_rfl⟩, by kernel_rfl, by kernel_rfl⟩
def plans185 : Plans := fun _ => []
noncomputable def code185 : Code := (Tryz.f185.body).getD .skip
noncomputable def ent185 : Entry := ⟨6, [.tmp 2], code185, plans185⟩
theorem good185 : ent185.Good PP 185 := ⟨Tryz.f185, ⟨Tryz.func185, by kernel_rfl, by kernel_rfl, by kernel_rfl⟩, by kernel_rfl, by kernel_rfl⟩
def plans159 : Plans := fun _ => []
noncomputable def code159 : Code := (Tryz.f159.body).getD .skip
noncomputable def ent159 : Entry := ⟨18, [.tmp 2], code159, plans159⟩
theorem good159 : ent159.Good PP 159 := ⟨Tryz.f159, ⟨Tryz.func159, by kernel_rfl, by kernel_rfl, by kernel_rfl⟩, by kernel_rfl, by kernel_rfl⟩
def plans18 : Plans := fun _ => []
noncomputable def code18 : Code := (Tryz.f18.body).getD .skip
noncomputable def ent18 : Entry := ⟨9, [.tmp 2], code18, plans18⟩
theorem good18 : ent18.Good PP 18 := ⟨Tryz.f18, ⟨Tryz.func18, by kernel_rfl, by kernel_rfl, by kernel_rfl⟩, by kernel_rfl, by kernel_rfl⟩
noncomputable def tabL : List (Nat × Entry) := [(4, ent4), (13, ent13), (7, ent7), (6, ent6), (19, ent19), (45, ent45), (9, ent9), (30, ent30), (66, ent66), (67, ent67), (68, ent68), (8, ent8), (10, ent10), (20, ent20), (21, ent21), (47, ent47), (53, ent53), (93, ent93), (91, ent91), (46, ent46), (22, ent22), (12, ent12), (64, ent64), (116, ent116), (173, ent173), (120, ent120), (175, ent175), (23, ent23), (52, ent52), (100, ent100), (153, ent153), (157, ent157), (150, ent150), (158, ent158), (212, ent212), (103, ent103), (104, ent104), (160, ent160), (213, ent213), (249, ent249), (54, ent54), (105, ent105), (56, ent56), (109, ent109), (110, ent110), (55, ent55), (107, ent107), (108, ent108), (106, ent106), (161, ent161), (57, ent57), (79, ent79), (137, ent137), (82, ent82), (138, ent138), (139, ent139), (204, ent204), (41, ent41), (81, ent81), (83, ent83), (84, ent84), (51, ent51), (99, ent99), (58, ent58), (85, ent85), (140, ent140), (114, ent114), (163, ent163), (24, ent24), (25, ent25), (65, ent65), (121, ent121), (29, ent29), (49, ent49), (92, ent92), (143, ent143), (206, ent206), (95, ent95), (145, ent145), (208, ent208), (59, ent59), (115, ent115), (164, ent164), (61, ent61), (26, ent26), (62, ent62), (90, ent90), (27, ent27), (11, ent11), (14, ent14), (15, ent15), (31, ent31), (32, ent32), (5, ent5), (16, ent16), (34, ent34), (35, ent35), (69, ent69), (124, ent124), (71, ent71), (70, ent70), (125, ent125), (184, ent184), (223, ent223), (17, ent17), (36, ent36), (74, ent74), (37, ent37), (75, ent75), (134, ent134), (196, ent196), (38, ent38), (78, ent78), (136, ent136), (111, ent111), (39, ent39), (42, ent42), (43, ent43), (44, ent44), (86, ent86), (89, ent89), (88, ent88), (87, ent87), (142, ent142), (205, ent205), (133, ent133), (77, ent77), (135, ent135), (127, ent127), (185, ent185), (159, ent159), (18, ent18)]
noncomputable def tab : Tr Entry := Tr.ofList tabL
theorem tab_good : ∀ f en, tab.get f = some en → en.Good PP f := by
  intro f en h
  have h := Tr.ofList_get tabL f en h
  simp only [tabL, List.mem_cons, Prod.mk.injEq, List.not_mem_nil, or_false] at h
  rcases h with ⟨rfl, rfl⟩ | ⟨rfl, rfl⟩ | ⟨rfl, rfl⟩ | ⟨rfl, rfl⟩ | ⟨rfl, rfl⟩ | ⟨rfl, rfl⟩ | ⟨rfl, rfl⟩ | ⟨rfl, rfl⟩ | ⟨rfl, rfl⟩ | ⟨rfl, rfl⟩ | ⟨rfl, rfl⟩ | ⟨rfl, rfl⟩ | ⟨rfl, rfl⟩ | ⟨rfl, rfl⟩ | ⟨rfl, rfl⟩ | ⟨rfl, rfl⟩ | ⟨rfl, rfl⟩ | ⟨rfl, rfl⟩ | ⟨rfl, rfl⟩ | ⟨rfl, rfl⟩ | ⟨rfl, rfl⟩ | ⟨rfl, rfl⟩ | ⟨rfl, rfl⟩ | ⟨rfl, rfl⟩ | ⟨rfl, rfl⟩ | ⟨rfl, rfl⟩ | ⟨rfl, rfl⟩ | ⟨rfl, rfl⟩ | ⟨rfl, rfl⟩ | ⟨rfl, rfl⟩ | ⟨rfl, rfl⟩ | ⟨rfl, rfl⟩ | ⟨rfl, rfl⟩ | ⟨rfl, rfl⟩ | ⟨rfl, rfl⟩ | ⟨rfl, rfl⟩ | ⟨rfl, rfl⟩ | ⟨rfl, rfl⟩ | ⟨rfl, rfl⟩ | ⟨rfl, rfl⟩ | ⟨rfl, rfl⟩ | ⟨rfl, rfl⟩ | ⟨rfl, rfl⟩ | ⟨rfl, rfl⟩ | ⟨rfl, rfl⟩ | ⟨rfl, rfl⟩ | ⟨rfl, rfl⟩ | ⟨rfl, rfl⟩ | ⟨rfl, rfl⟩ | ⟨rfl, rfl⟩ | ⟨rfl, rfl⟩ | ⟨rfl, rfl⟩ | ⟨rfl, rfl⟩ | ⟨rfl, rfl⟩ | ⟨rfl, rfl⟩ | ⟨rfl, rfl⟩ | ⟨rfl, rfl⟩ | ⟨rfl, rfl⟩ | ⟨rfl, rfl⟩ | ⟨rfl, rfl⟩ | ⟨rfl, rfl⟩ | ⟨rfl, rfl⟩ | ⟨rfl, rfl⟩ | ⟨rfl, rfl⟩ | ⟨rfl, rfl⟩ | ⟨rfl, rfl⟩ | ⟨rfl, rfl⟩ | ⟨rfl, rfl⟩ | ⟨rfl, rfl⟩ | ⟨rfl, rfl⟩ | ⟨rfl, rfl⟩ | ⟨rfl, rfl⟩ | ⟨rfl, rfl⟩ | ⟨rfl, rfl⟩ | ⟨rfl, rfl⟩ | ⟨rfl, rfl⟩ | ⟨rfl, rfl⟩ | ⟨rfl, rfl⟩ | ⟨rfl, rfl⟩ | ⟨rfl, rfl⟩ | ⟨rfl, rfl⟩ | ⟨rfl, rfl⟩ | ⟨rfl, rfl⟩ | ⟨rfl, rfl⟩ | ⟨rfl, rfl⟩ | ⟨rfl, rfl⟩ | ⟨rfl, rfl⟩ | ⟨rfl, rfl⟩ | ⟨rfl, rfl⟩ | ⟨rfl, rfl⟩ | ⟨rfl, rfl⟩ | ⟨rfl, rfl⟩ | ⟨rfl, rfl⟩ | ⟨rfl, rfl⟩ | ⟨rfl, rfl⟩ | ⟨rfl, rfl⟩ | ⟨rfl, rfl⟩ | ⟨rfl, rfl⟩ | ⟨rfl, rfl⟩ | ⟨rfl, rfl⟩ | ⟨rfl, rfl⟩ | ⟨rfl, rfl⟩ | ⟨rfl, rfl⟩ | ⟨rfl, rfl⟩ | ⟨rfl, rfl⟩ | ⟨rfl, rfl⟩ | ⟨rfl, rfl⟩ | ⟨rfl, rfl⟩ | ⟨rfl, rfl⟩ | ⟨rfl, rfl⟩ | ⟨rfl, rfl⟩ | ⟨rfl, rfl⟩ | ⟨rfl, rfl⟩ | ⟨rfl, rfl⟩ | ⟨rfl, rfl⟩ | ⟨rfl, rfl⟩ | ⟨rfl, rfl⟩ | ⟨rfl, rfl⟩ | ⟨rfl, rfl⟩ | ⟨rfl, rfl⟩ | ⟨rfl, rfl⟩ | ⟨rfl, rfl⟩ | ⟨rfl, rfl⟩ | ⟨rfl, rfl⟩ | ⟨rfl, rfl⟩ | ⟨rfl, rfl⟩ | ⟨rfl, rfl⟩ | ⟨rfl, rfl⟩ | ⟨rfl, rfl⟩ | ⟨rfl, rfl⟩ | ⟨rfl, rfl⟩ | ⟨rfl, rfl⟩
  · exact good4
  · exact good13
  · exact good7
  · exact good6
  · exact good19
  · exact good45
  · exact good9
  · exact good30
  · exact good66
  · exact good67
  · exact good68
  · exact good8
  · exact good10
  · exact good20
  · exact good21
  · exact good47
  · exact good53
  · exact good93
  · exact good91
  · exact good46
  · exact good22
  · exact good12
  · exact good64
  · exact good116
  · exact good173
  · exact good120
  · exact good175
  · exact good23
  · exact good52
  · exact good100
  · exact good153
  · exact good157
  · exact good150
  · exact good158
  · exact good212
  · exact good103
  · exact good104
  · exact good160
  · exact good213
  · exact good249
  · exact good54
  · exact good105
  · exact good56
  · exact good109
  · exact good110
  · exact good55
  · exact good107
  · exact good108
  · exact good106
  · exact good161
  · exact good57
  · exact good79
  · exact good137
  · exact good82
  · exact good138
  · exact good139
  · exact good204
  · exact good41
  · exact good81
  · exact good83
  · exact good84
  · exact good51
  · exact good99
  · exact good58
  · exact good85
  · exact good140
  · exact good114
  · exact good163
  · exact good24
  · exact good25
  · exact good65
  · exact good121
  · exact good29
  · exact good49
  · exact good92
  · exact good143
  · exact good206
  · exact good95
  · exact good145
  · exact good208
  · exact good59
  · exact good115
  · exact good164
  · exact good61
  · exact good26
  · exact good62
  · exact good90
  · exact good27
  · exact good11
  · exact good14
  · exact good15
  · exact good31
  · exact good32
  · exact good5
  · exact good16
  · exact good34
  · exact good35
  · exact good69
  · exact good124
  · exact good71
  · exact good70
  · exact good125
  · exact good184
  · exact good223
  · exact good17
  · exact good36
  · exact good74
  · exact good37
  · exact good75
  · exact good134
  · exact good196
  · exact good38
  · exact good78
  · exact good136
  · exact good111
  · exact good39
  · exact good42
  · exact good43
  · exact good44
  · exact good86
  · exact good89
  · exact good88
  · exact good87
  · exact good142
  · exact good205
  · exact good133
  · exact good77
  · exact good135
  · exact good127
  · exact good185
  · exact good159
  · exact good18
end Go.Proofs
