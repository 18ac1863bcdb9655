/- The table of the functions that are run: printed by program. -/
import Derived.Test.YtaeoiohcalonkaaGreatDoorAxConc3
import Derived.Test.YtaeoiohcalonkaaGreatDoorProg
import Derived.KernelRfl
set_option linter.unusedVariables false
set_option linter.unusedSimpArgs false
namespace Go.Proofs
open Go Go.Ax
noncomputable abbrev PP : Program := Tryz.prog
theorem mixed : PP.follows .mixedOrders = true := by kernel_rfl
def plans3 : Plans := fun _ => []
noncomputable def code3 : Code := (Tryz.f3.body).getD .skip
noncomputable def ent3 : Entry := ⟨145, [.tmp 6], code3, plans3⟩
theorem good3 : ent3.Good PP 3 := ⟨Tryz.f3, ⟨Tryz.func3, by kernel_rfl, by kernel_rfl, by kernel_rfl⟩, by kernel_rfl, by kernel_rfl⟩
def plans4 : Plans := fun _ => []
noncomputable def code4 : Code := (Tryz.f4.body).getD .skip
noncomputable def ent4 : Entry := ⟨45, [.tmp 6, .tmp 7, .tmp 8], code4, plans4⟩
theorem good4 : ent4.Good PP 4 := ⟨Tryz.f4, ⟨Tryz.func4, by kernel_rfl, by kernel_rfl, by kernel_rfl⟩, by kernel_rfl, by kernel_rfl⟩
def plans5 : Plans := fun _ => []
noncomputable def code5 : Code := (Tryz.f5.body).getD .skip
noncomputable def ent5 : Entry := ⟨88, [.tmp 12, .tmp 13], code5, plans5⟩
theorem good5 : ent5.Good PP 5 := ⟨Tryz.f5, ⟨Tryz.func5, by kernel_rfl, by kernel_rfl, by kernel_rfl⟩, by kernel_rfl, by kernel_rfl⟩
def plans6 : Plans := fun
  | 6 => [(.op 0, []), (.op 1, []), (.op 5, []), (.op 9, []), (.op 2, []), (.op 6, []), (.op 10, []), (.op 3, []), (.op 7, []), (.op 11, []), (.op 4, []), (.op 8, []), (.op 12, []), (.op 13, []), (.mk 14, []), (.reveal 14, []), (.op 15, []), (.op 16, []), (.op 17, []), (.op 18, [])]
  | _ => []
noncomputable def code6 : Code := (Tryz.f6.body).getD .skip
noncomputable def ent6 : Entry := ⟨43, [.tmp 2, .tmp 3], code6, plans6⟩
theorem good6 : ent6.Good PP 6 := ⟨Tryz.f6, ⟨Tryz.func6, by kernel_rfl, by kernel_rfl, by kernel_rfl⟩, by kernel_rfl, by kernel_rfl⟩
def plans7 : Plans := fun
  | 5 => [(.op 0, []), (.op 5, []), (.op 1, []), (.op 6, []), (.op 2, []), (.op 7, []), (.op 3, []), (.op 8, []), (.op 9, []), (.op 4, [9]), (.op 10, []), (.op 11, [])]
  | 9 => [(.op 0, []), (.op 5, []), (.op 1, []), (.op 6, []), (.op 2, []), (.op 7, []), (.op 3, []), (.op 8, []), (.op 9, []), (.op 4, [9]), (.op 10, []), (.op 11, []), (.op 12, []), (.op 13, []), (.op 14, []), (.op 15, [])]
  | _ => []
noncomputable def code7 : Code := (Tryz.f7.body).getD .skip
noncomputable def ent7 : Entry := ⟨58, [.tmp 2, .tmp 3], code7, plans7⟩
theorem good7 : ent7.Good PP 7 := ⟨Tryz.f7, ⟨Tryz.func7, by kernel_rfl, by kernel_rfl, by kernel_rfl⟩, by kernel_rfl, by kernel_rfl⟩
def plans8 : Plans := fun
  | 5 => [(.op 0, []), (.op 5, []), (.op 1, []), (.op 6, []), (.op 2, []), (.op 7, []), (.op 3, []), (.op 8, []), (.op 4, [8]), (.op 9, []), (.op 10, []), (.op 11, []), (.op 12, []), (.op 13, []), (.op 14, []), (.op 15, [])]
  | 10 => [(.op 0, []), (.op 1, []), (.op 5, []), (.op 2, []), (.op 6, []), (.op 3, []), (.op 4, []), (.op 7, []), (.op 8, []), (.op 9, [])]
  | _ => []
noncomputable def code8 : Code := (Tryz.f8.body).getD .skip
noncomputable def ent8 : Entry := ⟨63, [.tmp 2, .tmp 3], code8, plans8⟩
theorem good8 : ent8.Good PP 8 := ⟨Tryz.f8, ⟨Tryz.func8, by kernel_rfl, by kernel_rfl, by kernel_rfl⟩, by kernel_rfl, by kernel_rfl⟩
def plans9 : Plans := fun _ => []
noncomputable def code9 : Code := (Tryz.f9.body).getD .skip
noncomputable def ent9 : Entry := ⟨4, [.tmp 2], code9, plans9⟩
theorem good9 : ent9.Good PP 9 := ⟨Tryz.f9, ⟨Tryz.func9, by kernel_rfl, by kernel_rfl, by kernel_rfl⟩, by kernel_rfl, by kernel_rfl⟩
def plans10 : Plans := fun
  | 8 => [(.op 0, []), (.op 5, []), (.mk 8, []), (.op 1, []), (.op 2, []), (.op 3, []), (.op 4, []), (.op 6, [3]), (.op 7, []), (.reveal 8, []), (.op 9, [])]
  | 13 => [(.op 0, []), (.op 4, []), (.op 6, []), (.op 10, []), (.op 1, []), (.op 7, []), (.op 2, []), (.op 8, []), (.op 3, []), (.op 9, []), (.op 5, [3, 9]), (.op 11, []), (.op 12, [])]
  | _ => []
noncomputable def code10 : Code := (Tryz.f10.body).getD .skip
noncomputable def ent10 : Entry := ⟨80, [.tmp 6], code10, plans10⟩
theorem good10 : ent10.Good PP 10 := ⟨Tryz.f10, ⟨Tryz.func10, by kernel_rfl, by kernel_rfl, by kernel_rfl⟩, by kernel_rfl, by kernel_rfl⟩
def plans11 : Plans := fun _ => []
noncomputable def code11 : Code := (Tryz.f11.body).getD .skip
noncomputable def ent11 : Entry := ⟨27, [.tmp 4], code11, plans11⟩
theorem good11 : ent11.Good PP 11 := ⟨Tryz.f11, ⟨Tryz.func11, by kernel_rfl, by kernel_rfl, by kernel_rfl⟩, by kernel_rfl, by kernel_rfl⟩
def plans12 : Plans := fun _ => []
noncomputable def code12 : Code := (Tryz.f12.body).getD .skip
noncomputable def ent12 : Entry := ⟨13, [.tmp 2], code12, plans12⟩
theorem good12 : ent12.Good PP 12 := ⟨Tryz.f12, ⟨Tryz.func12, by kernel_rfl, by kernel_rfl, by kernel_rfl⟩, by kernel_rfl, by kernel_rfl⟩
def plans13 : Plans := fun
  | 22 => [(.op 0, []), (.op 4, []), (.op 1, []), (.op 5, []), (.op 2, []), (.op 6, []), (.op 3, []), (.op 7, []), (.op 8, [3]), (.op 9, []), (.op 10, []), (.op 11, []), (.op 12, []), (.op 13, []), (.op 14, [])]
  | _ => []
noncomputable def code13 : Code := (Tryz.f13.body).getD .skip
noncomputable def ent13 : Entry := ⟨69, [.tmp 2], code13, plans13⟩
theorem good13 : ent13.Good PP 13 := ⟨Tryz.f13, ⟨Tryz.func13, by kernel_rfl, by kernel_rfl, by kernel_rfl⟩, by kernel_rfl, by kernel_rfl⟩
def plans14 : Plans := fun _ => []
noncomputable def code14 : Code := (Tryz.f14.body).getD .skip
noncomputable def ent14 : Entry := ⟨9, [.tmp 2], code14, plans14⟩
theorem good14 : ent14.Good PP 14 := ⟨Tryz.f14, ⟨Tryz.func14, by kernel_rfl, by kernel_rfl, by kernel_rfl⟩, by kernel_rfl, by kernel_rfl⟩
def plans15 : Plans := fun _ => []
noncomputable def code15 : Code := (Tryz.f15.body).getD .skip
noncomputable def ent15 : Entry := ⟨11, [.tmp 2], code15, plans15⟩
theorem good15 : ent15.Good PP 15 := ⟨Tryz.f15, ⟨Tryz.func15, by kernel_rfl, by kernel_rfl, by kernel_rfl⟩, by kernel_rfl, by kernel_rfl⟩
def plans16 : Plans := fun _ => []
noncomputable def code16 : Code := (Tryz.f16.body).getD .skip
noncomputable def ent16 : Entry := ⟨11, [.cell 2 42], code16, plans16⟩
theorem good16 : ent16.Good PP 16 := ⟨Tryz.f16, ⟨Tryz.func16, by kernel_rfl, by kernel_rfl, by kernel_rfl⟩, by kernel_rfl, by kernel_rfl⟩
def plans17 : Plans := fun _ => []
noncomputable def code17 : Code := (Tryz.f17.body).getD .skip
noncomputable def ent17 : Entry := ⟨63, [.tmp 0], code17, plans17⟩
theorem good17 : ent17.Good PP 17 := ⟨Tryz.f17, ⟨Tryz.func17, by kernel_rfl, by kernel_rfl, by kernel_rfl⟩, by kernel_rfl, by kernel_rfl⟩
def plans51 : Plans := fun _ => []
noncomputable def code51 : Code := (Tryz.f51.body).getD .skip
noncomputable def ent51 : Entry := ⟨28, [.tmp 2, .tmp 3, .tmp 4], code51, plans51⟩
theorem good51 : ent51.Good PP 51 := ⟨Tryz.f51, ⟨Tryz.func51, by kernel_rfl, by kernel_rfl, by kernel_rfl⟩, by kernel_rfl, by kernel_rfl⟩
def plans109 : Plans := fun _ => []
noncomputable def code109 : Code := (Tryz.f109.body).getD .skip
noncomputable def ent109 : Entry := ⟨2, [.cell 0 144], code109, plans109⟩
theorem good109 : ent109.Good PP 109 := ⟨Tryz.f109, ⟨Tryz.func109, by kernel_rfl, by kernel_rfl, by kernel_rfl⟩, by kernel_rfl, by kernel_rfl⟩
def plans108 : Plans := fun _ => []
noncomputable def code108 : Code := (Tryz.f108.body).getD .skip
noncomputable def ent108 : Entry := ⟨9, [.tmp 2], code108, plans108⟩
theorem good108 : ent108.Good PP 108 := ⟨Tryz.f108, ⟨Tryz.func108, by kernel_rfl, by kernel_rfl, by kernel_rfl⟩, by kernel_rfl, by kernel_rfl⟩
def plans183 : Plans := fun _ => []
noncomputable def code183 : Code := (Tryz.f183.body).getD .skip
noncomputable def ent183 : Entry := ⟨8, [.cell 2 144], code183, plans183⟩
theorem good183 : ent183.Good PP 183 := ⟨Tryz.f183, ⟨Tryz.func183, by kernel_rfl, by kernel_rfl, by kernel_rfl⟩, by kernel_rfl, by kernel_rfl⟩
def plans255 : Plans := fun _ => []
noncomputable def code255 : Code := (Tryz.f255.body).getD .skip
noncomputable def ent255 : Entry := ⟨8, [.tmp 2], code255, plans255⟩
theorem good255 : ent255.Good PP 255 := ⟨Tryz.f255, ⟨Tryz.func255, by kernel_rfl, by kernel_rfl, by kernel_rfl⟩, by kernel_rfl, by kernel_rfl⟩
def plans110 : Plans := fun _ => []
noncomputable def code110 : Code := (Tryz.f110.body).getD .skip
noncomputable def ent110 : Entry := ⟨4, [.tmp 0], code110, plans110⟩
theorem good110 : ent110.Good PP 110 := ⟨Tryz.f110, ⟨Tryz.func110, by kernel_rfl, by kernel_rfl, by kernel_rfl⟩, by kernel_rfl, by kernel_rfl⟩
def plans112 : Plans := fun
  | 7 => [(.op 0, []), (.op 2, []), (.op 3, []), (.op 5, []), (.op 1, []), (.op 4, []), (.op 6, []), (.op 7, []), (.op 8, []), (.op 9, []), (.op 10, []), (.mk 11, []), (.reveal 11, []), (.op 12, []), (.op 13, []), (.op 14, [])]
  | _ => []
noncomputable def code112 : Code := (Tryz.f112.body).getD .skip
noncomputable def ent112 : Entry := ⟨52, [.cell 2 59], code112, plans112⟩
theorem good112 : ent112.Good PP 112 := ⟨Tryz.f112, ⟨Tryz.func112, by kernel_rfl, by kernel_rfl, by kernel_rfl⟩, by kernel_rfl, by kernel_rfl⟩
def plans191 : Plans := fun _ => []
noncomputable def code191 : Code := (Tryz.f191.body).getD .skip
noncomputable def ent191 : Entry := ⟨2, [.tmp 0], code191, plans191⟩
theorem good191 : ent191.Good PP 191 := ⟨Tryz.f191, ⟨Tryz.func191, by kernel_rfl, by kernel_rfl, by kernel_rfl⟩, by kernel_rfl, by kernel_rfl⟩
def plans134 : Plans := fun _ => []
noncomputable def code134 : Code := (Tryz.f134.body).getD .skip
noncomputable def ent134 : Entry := ⟨8, [.tmp 2], code134, plans134⟩
theorem good134 : ent134.Good PP 134 := ⟨Tryz.f134, ⟨Tryz.func134, by kernel_rfl, by kernel_rfl, by kernel_rfl⟩, by kernel_rfl, by kernel_rfl⟩
def plans192 : Plans := fun _ => []
noncomputable def code192 : Code := (Tryz.f192.body).getD .skip
noncomputable def ent192 : Entry := ⟨13, [.tmp 4], code192, plans192⟩
theorem good192 : ent192.Good PP 192 := ⟨Tryz.f192, ⟨Tryz.func192, by kernel_rfl, by kernel_rfl, by kernel_rfl⟩, by kernel_rfl, by kernel_rfl⟩
def plans111 : Plans := fun
  | 14 => [(.op 0, []), (.op 1, []), (.op 2, []), (.op 3, []), (.op 5, []), (.op 6, []), (.op 4, [2, 6]), (.op 7, []), (.mk 8, []), (.reveal 8, []), (.op 9, [])]
  | _ => []
noncomputable def code111 : Code := (Tryz.f111.body).getD .skip
noncomputable def ent111 : Entry := ⟨75, [.tmp 6, .tmp 7], code111, plans111⟩
theorem good111 : ent111.Good PP 111 := ⟨Tryz.f111, ⟨Tryz.func111, by kernel_rfl, by kernel_rfl, by kernel_rfl⟩, by kernel_rfl, by kernel_rfl⟩
def plans184 : Plans := fun _ => []
noncomputable def code184 : Code := (Tryz.f184.body).getD .skip
noncomputable def ent184 : Entry := ⟨42, [.tmp 2], code184, plans184⟩
theorem good184 : ent184.Good PP 184 := ⟨Tryz.f184, ⟨Tryz.func184, by kernel_rfl, by kernel_rfl, by kernel_rfl⟩, by kernel_rfl, by kernel_rfl⟩
def plans185 : Plans := fun _ => []
noncomputable def code185 : Code := (Tryz.f185.body).getD .skip
noncomputable def ent185 : Entry := ⟨8, [.tmp 2], code185, plans185⟩
theorem good185 : ent185.Good PP 185 := ⟨Tryz.f185, ⟨Tryz.func185, by kernel_rfl, by kernel_rfl, by kernel_rfl⟩, by kernel_rfl, by kernel_rfl⟩
def plans186 : Plans := fun _ => []
noncomputable def code186 : Code := (Tryz.f186.body).getD .skip
noncomputable def ent186 : Entry := ⟨74, [.cell 2 42, .tmp 3, .tmp 4], code186, plans186⟩
theorem good186 : ent186.Good PP 186 := ⟨Tryz.f186, ⟨Tryz.func186, by kernel_rfl, by kernel_rfl, by kernel_rfl⟩, by kernel_rfl, by kernel_rfl⟩
def plans256 : Plans := fun _ => []
noncomputable def code256 : Code := (Tryz.f256.body).getD .skip
noncomputable def ent256 : Entry := ⟨2, [.tmp 0], code256, plans256⟩
theorem good256 : ent256.Good PP 256 := ⟨Tryz.f256, ⟨Tryz.func256, by kernel_rfl, by kernel_rfl, by kernel_rfl⟩, by kernel_rfl, by kernel_rfl⟩
def plans73 : Plans := fun _ => []
noncomputable def code73 : Code := (Tryz.f73.body).getD .skip
noncomputable def ent73 : Entry := ⟨38, [.tmp 6], code73, plans73⟩
theorem good73 : ent73.Good PP 73 := ⟨Tryz.f73, ⟨Tryz.func73, by kernel_rfl, by kernel_rfl, by kernel_rfl⟩, by kernel_rfl, by kernel_rfl⟩
def plans135 : Plans := fun _ => []
noncomputable def code135 : Code := (Tryz.f135.body).getD .skip
noncomputable def ent135 : Entry := ⟨14, [.tmp 2], code135, plans135⟩
theorem good135 : ent135.Good PP 135 := ⟨Tryz.f135, ⟨Tryz.func135, by kernel_rfl, by kernel_rfl, by kernel_rfl⟩, by kernel_rfl, by kernel_rfl⟩
def plans136 : Plans := fun _ => []
noncomputable def code136 : Code := (Tryz.f136.body).getD .skip
noncomputable def ent136 : Entry := ⟨10, [.tmp 2], code136, plans136⟩
theorem good136 : ent136.Good PP 136 := ⟨Tryz.f136, ⟨Tryz.func136, by kernel_rfl, by kernel_rfl, by kernel_rfl⟩, by kernel_rfl, by kernel_rfl⟩
def plans210 : Plans := fun _ => []
noncomputable def code210 : Code := (Tryz.f210.body).getD .skip
noncomputable def ent210 : Entry := ⟨27, [.tmp 4, .tmp 5], code210, plans210⟩
theorem good210 : ent210.Good PP 210 := ⟨Tryz.f210, ⟨Tryz.func210, by kernel_rfl, by kernel_rfl, by kernel_rfl⟩, by kernel_rfl, by kernel_rfl⟩
def plans187 : Plans := fun _ => []
noncomputable def code187 : Code := (Tryz.f187.body).getD .skip
noncomputable def ent187 : Entry := ⟨46, [.tmp 4], code187, plans187⟩
theorem good187 : ent187.Good PP 187 := ⟨Tryz.f187, ⟨Tryz.func187, by kernel_rfl, by kernel_rfl, by kernel_rfl⟩, by kernel_rfl, by kernel_rfl⟩
def plans32 : Plans := fun
  | 8 => [(.op 0, []), (.op 1, []), (.op 2, []), (.op 7, []), (.op 3, []), (.op 4, []), (.op 5, []), (.op 6, []), (.op 8, [5, 6]), (.op 9, []), (.mk 10, []), (.reveal 10, []), (.op 11, []), (.op 12, [])]
  | _ => []
noncomputable def code32 : Code := (Tryz.f32.body).getD .skip
noncomputable def ent32 : Entry := ⟨39, [.tmp 2], code32, plans32⟩
theorem good32 : ent32.Good PP 32 := ⟨Tryz.f32, ⟨Tryz.func32, by kernel_rfl, by kernel_rfl, by kernel_rfl⟩, by kernel_rfl, by kernel_rfl⟩
def plans142 : Plans := fun _ => []
noncomputable def code142 : Code := (Tryz.f142.body).getD .skip
noncomputable def ent142 : Entry := ⟨14, [], code142, plans142⟩
theorem good142 : ent142.Good PP 142 := ⟨Tryz.f142, ⟨Tryz.func142, by kernel_rfl, by kernel_rfl, by kernel_rfl⟩, by kernel_rfl, by kernel_rfl⟩
def plans157 : Plans := fun _ => []
noncomputable def code157 : Code := (Tryz.f157.body).getD .skip
noncomputable def ent157 : Entry := ⟨8, [.tmp 2], code157, plans157⟩
theorem good157 : ent157.Good PP 157 := ⟨Tryz.f157, ⟨Tryz.func157, by kernel_rfl, by kernel_rfl, by kernel_rfl⟩, by kernel_rfl, by kernel_rfl⟩
def plans238 : Plans := fun _ => []
noncomputable def code238 : Code := (Tryz.f238.body).getD .skip
noncomputable def ent238 : Entry := ⟨25, [.tmp 2], code238, plans238⟩
theorem good238 : ent238.Good PP 238 := ⟨Tryz.f238, ⟨Tryz.func238, by kernel_rfl, by kernel_rfl, by kernel_rfl⟩, by kernel_rfl, by kernel_rfl⟩
def plans218 : Plans := fun
  | 17 => [(.op 0, []), (.op 1, []), (.op 2, []), (.op 3, []), (.op 4, []), (.op 5, []), (.op 9, []), (.op 10, []), (.op 6, []), (.op 11, []), (.op 7, []), (.op 12, []), (.op 8, []), (.op 13, []), (.op 14, []), (.op 15, []), (.op 16, [])]
  | _ => []
noncomputable def code218 : Code := (Tryz.f218.body).getD .skip
noncomputable def ent218 : Entry := ⟨148, [], code218, plans218⟩
theorem good218 : ent218.Good PP 218 := ⟨Tryz.f218, ⟨Tryz.func218, by kernel_rfl, by kernel_rfl, by kernel_rfl⟩, by kernel_rfl, by kernel_rfl⟩
def plans292 : Plans := fun
  | 4 => [(.op 0, []), (.op 1, []), (.op 2, []), (.op 3, []), (.op 4, []), (.op 5, []), (.op 6, []), (.op 9, []), (.op 10, []), (.op 11, []), (.op 7, []), (.op 8, []), (.op 12, []), (.op 13, []), (.op 14, []), (.op 15, []), (.op 16, [])]
  | 6 => [(.op 0, []), (.op 1, []), (.op 2, []), (.op 3, []), (.op 5, []), (.op 6, []), (.op 10, []), (.op 11, []), (.op 4, []), (.op 7, []), (.op 12, []), (.op 8, []), (.op 13, []), (.op 9, []), (.op 14, []), (.op 15, []), (.op 16, []), (.op 17, [])]
  | _ => []
noncomputable def code292 : Code := (Tryz.f292.body).getD .skip
noncomputable def ent292 : Entry := ⟨53, [], code292, plans292⟩
theorem good292 : ent292.Good PP 292 := ⟨Tryz.f292, ⟨Tryz.func292, by kernel_rfl, by kernel_rfl, by kernel_rfl⟩, by kernel_rfl, by kernel_rfl⟩
def plans175 : Plans := fun
  | 11 => [(.op 0, []), (.op 1, []), (.op 3, []), (.op 2, [3]), (.op 4, []), (.mk 5, []), (.reveal 5, []), (.op 6, [])]
  | _ => []
noncomputable def code175 : Code := (Tryz.f175.body).getD .skip
noncomputable def ent175 : Entry := ⟨74, [.tmp 4, .tmp 5], code175, plans175⟩
theorem good175 : ent175.Good PP 175 := ⟨Tryz.f175, ⟨Tryz.func175, by kernel_rfl, by kernel_rfl, by kernel_rfl⟩, by kernel_rfl, by kernel_rfl⟩
def plans105 : Plans := fun _ => []
noncomputable def code105 : Code := (Tryz.f105.body).getD .skip
noncomputable def ent105 : Entry := ⟨86, [.tmp 2], code105, plans105⟩
theorem good105 : ent105.Good PP 105 := ⟨Tryz.f105, ⟨Tryz.func105, by kernel_rfl, by kernel_rfl, by kernel_rfl⟩, by kernel_rfl, by kernel_rfl⟩
def plans177 : Plans := fun _ => []
noncomputable def code177 : Code := (Tryz.f177.body).getD .skip
noncomputable def ent177 : Entry := ⟨49, [.tmp 2], code177, plans177⟩
theorem good177 : ent177.Good PP 177 := ⟨Tryz.f177, ⟨Tryz.func177, by kernel_rfl, by kernel_rfl, by kernel_rfl⟩, by kernel_rfl, by kernel_rfl⟩
def plans248 : Plans := fun _ => []
noncomputable def code248 : Code := (Tryz.f248.body).getD .skip
noncomputable def ent248 : Entry := ⟨15, [.tmp 6], code248, plans248⟩
theorem good248 : ent248.Good PP 248 := ⟨Tryz.f248, ⟨Tryz.func248, by kernel_rfl, by kernel_rfl, by kernel_rfl⟩, by kernel_rfl, by kernel_rfl⟩
def plans252 : Plans := fun _ => []
noncomputable def code252 : Code := (Tryz.f252.body).getD .skip
noncomputable def ent252 : Entry := ⟨9, [.tmp 4], code252, plans252⟩
theorem good252 : ent252.Good PP 252 := ⟨Tryz.f252, ⟨Tryz.func252, by kernel_rfl, by kernel_rfl, by kernel_rfl⟩, by kernel_rfl, by kernel_rfl⟩
def plans245 : Plans := fun _ => []
noncomputable def code245 : Code := (Tryz.f245.body).getD .skip
noncomputable def ent245 : Entry := ⟨19, [.tmp 4], code245, plans245⟩
theorem good245 : ent245.Good PP 245 := ⟨Tryz.f245, ⟨Tryz.func245, by kernel_rfl, by kernel_rfl, by kernel_rfl⟩, by kernel_rfl, by kernel_rfl⟩
def plans253 : Plans := fun _ => []
noncomputable def code253 : Code := (Tryz.f253.body).getD .skip
noncomputable def ent253 : Entry := ⟨9, [.tmp 4], code253, plans253⟩
theorem good253 : ent253.Good PP 253 := ⟨Tryz.f253, ⟨Tryz.func253, by kernel_rfl, by kernel_rfl, by kernel_rfl⟩, by kernel_rfl, by kernel_rfl⟩
def plans315 : Plans := fun _ => []
noncomputable def code315 : Code := (Tryz.f315.body).getD .skip
noncomputable def ent315 : Entry := ⟨19, [.tmp 4], code315, plans315⟩
theorem good315 : ent315.Good PP 315 := ⟨Tryz.f315, ⟨Tryz.func315, by kernel_rfl, by kernel_rfl, by kernel_rfl⟩, by kernel_rfl, by kernel_rfl⟩
def plans137 : Plans := fun _ => []
noncomputable def code137 : Code := (Tryz.f137.body).getD .skip
noncomputable def ent137 : Entry := ⟨9, [.tmp 2], code137, plans137⟩
theorem good137 : ent137.Good PP 137 := ⟨Tryz.f137, ⟨Tryz.func137, by kernel_rfl, by kernel_rfl, by kernel_rfl⟩, by kernel_rfl, by kernel_rfl⟩
def plans138 : Plans := fun _ => []
noncomputable def code138 : Code := (Tryz.f138.body).getD .skip
noncomputable def ent138 : Entry := ⟨5, [.tmp 2], code138, plans138⟩
theorem good138 : ent138.Good PP 138 := ⟨Tryz.f138, ⟨Tryz.func138, by kernel_rfl, by kernel_rfl, by kernel_rfl⟩, by kernel_rfl, by kernel_rfl⟩
def plans216 : Plans := fun _ => []
noncomputable def code216 : Code := (Tryz.f216.body).getD .skip
noncomputable def ent216 : Entry := ⟨5, [.tmp 2], code216, plans216⟩
theorem good216 : ent216.Good PP 216 := ⟨Tryz.f216, ⟨Tryz.func216, by kernel_rfl, by kernel_rfl, by kernel_rfl⟩, by kernel_rfl, by kernel_rfl⟩
def plans282 : Plans := fun _ => []
noncomputable def code282 : Code := (Tryz.f282.body).getD .skip
noncomputable def ent282 : Entry := ⟨54, [.tmp 4], code282, plans282⟩
theorem good282 : ent282.Good PP 282 := ⟨Tryz.f282, ⟨Tryz.func282, by kernel_rfl, by kernel_rfl, by kernel_rfl⟩, by kernel_rfl, by kernel_rfl⟩
def plans338 : Plans := fun _ => []
noncomputable def code338 : Code := (Tryz.f338.body).getD .skip
noncomputable def ent338 : Entry := ⟨15, [.tmp 2], code338, plans338⟩
theorem good338 : ent338.Good PP 338 := ⟨Tryz.f338, ⟨Tryz.func338, by kernel_rfl, by kernel_rfl, by kernel_rfl⟩, by kernel_rfl, by kernel_rfl⟩
def plans56 : Plans := fun
  | 1 => [(.op 0, []), (.op 2, []), (.op 4, []), (.op 6, []), (.op 8, []), (.op 1, []), (.op 3, []), (.op 5, []), (.op 7, []), (.op 9, []), (.op 10, [1, 3, 5, 7]), (.op 11, []), (.op 12, [])]
  | _ => []
noncomputable def code56 : Code := (Tryz.f56.body).getD .skip
noncomputable def ent56 : Entry := ⟨15, [.cell 2 122], code56, plans56⟩
theorem good56 : ent56.Good PP 56 := ⟨Tryz.f56, ⟨Tryz.func56, by kernel_rfl, by kernel_rfl, by kernel_rfl⟩, by kernel_rfl, by kernel_rfl⟩
def plans124 : Plans := fun _ => []
noncomputable def code124 : Code := (Tryz.f124.body).getD .skip
noncomputable def ent124 : Entry := ⟨8, [.tmp 2], code124, plans124⟩
theorem good124 : ent124.Good PP 124 := ⟨Tryz.f124, ⟨Tryz.func124, by kernel_rfl, by kernel_rfl, by kernel_rfl⟩, by kernel_rfl, by kernel_rfl⟩
def plans107 : Plans := fun
  | 10 => [(.op 0, []), (.op 1, []), (.op 2, []), (.op 3, [0]), (.op 4, []), (.op 5, [])]
  | 11 => [(.op 0, []), (.op 1, []), (.op 2, []), (.op 3, [0]), (.op 4, []), (.op 5, [])]
  | 12 => [(.op 0, []), (.op 1, []), (.op 3, []), (.op 5, []), (.op 2, []), (.op 4, []), (.op 6, [2, 4]), (.mk 7, []), (.reveal 7, []), (.op 8, [])]
  | _ => []
noncomputable def code107 : Code := (Tryz.f107.body).getD .skip
noncomputable def ent107 : Entry := ⟨72, [.tmp 2], code107, plans107⟩
theorem good107 : ent107.Good PP 107 := ⟨Tryz.f107, ⟨Tryz.func107, by kernel_rfl, by kernel_rfl, by kernel_rfl⟩, by kernel_rfl, by kernel_rfl⟩
def plans181 : Plans := fun
  | 1 => [(.op 0, []), (.op 1, []), (.op 2, []), (.op 3, []), (.op 4, [0]), (.op 5, []), (.op 6, [])]
  | _ => []
noncomputable def code181 : Code := (Tryz.f181.body).getD .skip
noncomputable def ent181 : Entry := ⟨14, [], code181, plans181⟩
theorem good181 : ent181.Good PP 181 := ⟨Tryz.f181, ⟨Tryz.func181, by kernel_rfl, by kernel_rfl, by kernel_rfl⟩, by kernel_rfl, by kernel_rfl⟩
def plans160 : Plans := fun _ => []
noncomputable def code160 : Code := (Tryz.f160.body).getD .skip
noncomputable def ent160 : Entry := ⟨21, [.tmp 2], code160, plans160⟩
theorem good160 : ent160.Good PP 160 := ⟨Tryz.f160, ⟨Tryz.func160, by kernel_rfl, by kernel_rfl, by kernel_rfl⟩, by kernel_rfl, by kernel_rfl⟩
def plans91 : Plans := fun _ => []
noncomputable def code91 : Code := (Tryz.f91.body).getD .skip
noncomputable def ent91 : Entry := ⟨15, [.tmp 2], code91, plans91⟩
theorem good91 : ent91.Good PP 91 := ⟨Tryz.f91, ⟨Tryz.func91, by kernel_rfl, by kernel_rfl, by kernel_rfl⟩, by kernel_rfl, by kernel_rfl⟩
def plans163 : Plans := fun _ => []
noncomputable def code163 : Code := (Tryz.f163.body).getD .skip
noncomputable def ent163 : Entry := ⟨32, [.tmp 4], code163, plans163⟩
theorem good163 : ent163.Good PP 163 := ⟨Tryz.f163, ⟨Tryz.func163, by kernel_rfl, by kernel_rfl, by kernel_rfl⟩, by kernel_rfl, by kernel_rfl⟩
def plans164 : Plans := fun _ => []
noncomputable def code164 : Code := (Tryz.f164.body).getD .skip
noncomputable def ent164 : Entry := ⟨31, [.tmp 2], code164, plans164⟩
theorem good164 : ent164.Good PP 164 := ⟨Tryz.f164, ⟨Tryz.func164, by kernel_rfl, by kernel_rfl, by kernel_rfl⟩, by kernel_rfl, by kernel_rfl⟩
def plans162 : Plans := fun _ => []
noncomputable def code162 : Code := (Tryz.f162.body).getD .skip
noncomputable def ent162 : Entry := ⟨36, [.tmp 2], code162, plans162⟩
theorem good162 : ent162.Good PP 162 := ⟨Tryz.f162, ⟨Tryz.func162, by kernel_rfl, by kernel_rfl, by kernel_rfl⟩, by kernel_rfl, by kernel_rfl⟩
def plans239 : Plans := fun _ => []
noncomputable def code239 : Code := (Tryz.f239.body).getD .skip
noncomputable def ent239 : Entry := ⟨27, [.tmp 4], code239, plans239⟩
theorem good239 : ent239.Good PP 239 := ⟨Tryz.f239, ⟨Tryz.func239, by kernel_rfl, by kernel_rfl, by kernel_rfl⟩, by kernel_rfl, by kernel_rfl⟩
def plans242 : Plans := fun _ => []
noncomputable def code242 : Code := (Tryz.f242.body).getD .skip
noncomputable def ent242 : Entry := ⟨25, [.tmp 6], code242, plans242⟩
theorem good242 : ent242.Good PP 242 := ⟨Tryz.f242, ⟨Tryz.func242, by kernel_rfl, by kernel_rfl, by kernel_rfl⟩, by kernel_rfl, by kernel_rfl⟩
def plans93 : Plans := fun
  | 7 => [(.op 0, []), (.op 4, []), (.op 1, []), (.op 2, []), (.op 3, []), (.op 5, []), (.op 6, []), (.op 7, [])]
  | _ => []
noncomputable def code93 : Code := (Tryz.f93.body).getD .skip
noncomputable def ent93 : Entry := ⟨28, [.tmp 4], code93, plans93⟩
theorem good93 : ent93.Good PP 93 := ⟨Tryz.f93, ⟨Tryz.func93, by kernel_rfl, by kernel_rfl, by kernel_rfl⟩, by kernel_rfl, by kernel_rfl⟩
def plans166 : Plans := fun _ => []
noncomputable def code166 : Code := (Tryz.f166.body).getD .skip
noncomputable def ent166 : Entry := ⟨45, [.tmp 2], code166, plans166⟩
theorem good166 : ent166.Good PP 166 := ⟨Tryz.f166, ⟨Tryz.func166, by kernel_rfl, by kernel_rfl, by kernel_rfl⟩, by kernel_rfl, by kernel_rfl⟩
def plans79 : Plans := fun
  | 2 => [(.op 0, []), (.op 1, []), (.op 2, []), (.op 3, []), (.op 4, []), (.op 5, []), (.op 6, []), (.op 7, []), (.op 11, []), (.op 8, []), (.op 12, []), (.op 9, []), (.op 13, []), (.op 10, []), (.op 14, []), (.op 15, []), (.op 16, []), (.op 17, [])]
  | _ => []
noncomputable def code79 : Code := (Tryz.f79.body).getD .skip
noncomputable def ent79 : Entry := ⟨42, [.tmp 4], code79, plans79⟩
theorem good79 : ent79.Good PP 79 := ⟨Tryz.f79, ⟨Tryz.func79, by kernel_rfl, by kernel_rfl, by kernel_rfl⟩, by kernel_rfl, by kernel_rfl⟩
def plans167 : Plans := fun _ => []
noncomputable def code167 : Code := (Tryz.f167.body).getD .skip
noncomputable def ent167 : Entry := ⟨8, [], code167, plans167⟩
theorem good167 : ent167.Good PP 167 := ⟨Tryz.f167, ⟨Tryz.func167, by kernel_rfl, by kernel_rfl, by kernel_rfl⟩, by kernel_rfl, by kernel_rfl⟩
def plans81 : Plans := fun
  | 1 => [(.op 0, []), (.op 4, []), (.op 1, []), (.op 2, []), (.op 3, []), (.op 5, [])]
  | 2 => [(.op 0, []), (.op 1, []), (.op 5, []), (.op 2, []), (.mk 6, []), (.op 3, []), (.op 4, []), (.reveal 6, []), (.op 7, []), (.op 8, []), (.op 9, []), (.op 10, [])]
  | _ => []
noncomputable def code81 : Code := (Tryz.f81.body).getD .skip
noncomputable def ent81 : Entry := ⟨20, [], code81, plans81⟩
theorem good81 : ent81.Good PP 81 := ⟨Tryz.f81, ⟨Tryz.func81, by kernel_rfl, by kernel_rfl, by kernel_rfl⟩, by kernel_rfl, by kernel_rfl⟩
def plans148 : Plans := fun _ => []
noncomputable def code148 : Code := (Tryz.f148.body).getD .skip
noncomputable def ent148 : Entry := ⟨44, [], code148, plans148⟩
theorem good148 : ent148.Good PP 148 := ⟨Tryz.f148, ⟨Tryz.func148, by kernel_rfl, by kernel_rfl, by kernel_rfl⟩, by kernel_rfl, by kernel_rfl⟩
def plans41 : Plans := fun
  | 12 => [(.op 0, []), (.op 2, []), (.op 3, []), (.op 6, []), (.op 14, []), (.op 4, []), (.op 7, []), (.op 15, []), (.op 8, []), (.op 16, []), (.op 5, []), (.op 9, []), (.op 17, []), (.op 10, []), (.op 18, []), (.op 11, []), (.op 12, []), (.op 1, [6, 9, 18]), (.op 13, []), (.op 19, []), (.op 20, [])]
  | _ => []
noncomputable def code41 : Code := (Tryz.f41.body).getD .skip
noncomputable def ent41 : Entry := ⟨73, [.tmp 8], code41, plans41⟩
theorem good41 : ent41.Good PP 41 := ⟨Tryz.f41, ⟨Tryz.func41, by kernel_rfl, by kernel_rfl, by kernel_rfl⟩, by kernel_rfl, by kernel_rfl⟩
def plans95 : Plans := fun _ => []
noncomputable def code95 : Code := (Tryz.f95.body).getD .skip
noncomputable def ent95 : Entry := ⟨8, [.tmp 2], code95, plans95⟩
theorem good95 : ent95.Good PP 95 := ⟨Tryz.f95, ⟨Tryz.func95, by kernel_rfl, by kernel_rfl, by kernel_rfl⟩, by kernel_rfl, by kernel_rfl⟩
def plans96 : Plans := fun
  | 0 => [(.op 0, []), (.op 1, []), (.op 5, []), (.op 2, []), (.mk 6, []), (.op 3, []), (.op 4, []), (.reveal 6, []), (.op 7, [0]), (.op 8, []), (.op 9, []), (.op 10, [])]
  | 1 => [(.op 0, []), (.op 1, []), (.op 5, []), (.op 2, []), (.op 3, []), (.op 4, []), (.op 6, [0]), (.op 7, []), (.op 8, []), (.op 9, [])]
  | _ => []
noncomputable def code96 : Code := (Tryz.f96.body).getD .skip
noncomputable def ent96 : Entry := ⟨21, [], code96, plans96⟩
theorem good96 : ent96.Good PP 96 := ⟨Tryz.f96, ⟨Tryz.func96, by kernel_rfl, by kernel_rfl, by kernel_rfl⟩, by kernel_rfl, by kernel_rfl⟩
def plans97 : Plans := fun
  | 1 => [(.op 0, []), (.op 1, []), (.op 4, []), (.op 2, []), (.op 5, []), (.op 3, []), (.op 6, []), (.op 7, [])]
  | _ => []
noncomputable def code97 : Code := (Tryz.f97.body).getD .skip
noncomputable def ent97 : Entry := ⟨19, [.tmp 4], code97, plans97⟩
theorem good97 : ent97.Good PP 97 := ⟨Tryz.f97, ⟨Tryz.func97, by kernel_rfl, by kernel_rfl, by kernel_rfl⟩, by kernel_rfl, by kernel_rfl⟩
def plans92 : Plans := fun _ => []
noncomputable def code92 : Code := (Tryz.f92.body).getD .skip
noncomputable def ent92 : Entry := ⟨26, [.tmp 4], code92, plans92⟩
theorem good92 : ent92.Good PP 92 := ⟨Tryz.f92, ⟨Tryz.func92, by kernel_rfl, by kernel_rfl, by kernel_rfl⟩, by kernel_rfl, by kernel_rfl⟩
def plans165 : Plans := fun _ => []
noncomputable def code165 : Code := (Tryz.f165.body).getD .skip
noncomputable def ent165 : Entry := ⟨13, [], code165, plans165⟩
theorem good165 : ent165.Good PP 165 := ⟨Tryz.f165, ⟨Tryz.func165, by kernel_rfl, by kernel_rfl, by kernel_rfl⟩, by kernel_rfl, by kernel_rfl⟩
def plans243 : Plans := fun _ => []
noncomputable def code243 : Code := (Tryz.f243.body).getD .skip
noncomputable def ent243 : Entry := ⟨48, [.tmp 4], code243, plans243⟩
theorem good243 : ent243.Good PP 243 := ⟨Tryz.f243, ⟨Tryz.func243, by kernel_rfl, by kernel_rfl, by kernel_rfl⟩, by kernel_rfl, by kernel_rfl⟩
def plans98 : Plans := fun _ => []
noncomputable def code98 : Code := (Tryz.f98.body).getD .skip
noncomputable def ent98 : Entry := ⟨14, [.tmp 2], code98, plans98⟩
theorem good98 : ent98.Good PP 98 := ⟨Tryz.f98, ⟨Tryz.func98, by kernel_rfl, by kernel_rfl, by kernel_rfl⟩, by kernel_rfl, by kernel_rfl⟩
def plans168 : Plans := fun
  | 0 => [(.op 0, []), (.op 1, []), (.op 2, []), (.op 3, []), (.op 4, []), (.op 5, []), (.op 6, [0, 1]), (.op 7, []), (.op 8, []), (.op 9, [1]), (.op 10, []), (.op 11, []), (.op 12, [])]
  | _ => []
noncomputable def code168 : Code := (Tryz.f168.body).getD .skip
noncomputable def ent168 : Entry := ⟨12, [], code168, plans168⟩
theorem good168 : ent168.Good PP 168 := ⟨Tryz.f168, ⟨Tryz.func168, by kernel_rfl, by kernel_rfl, by kernel_rfl⟩, by kernel_rfl, by kernel_rfl⟩
def plans314 : Plans := fun
  | 7 => [(.op 0, []), (.op 4, []), (.op 1, []), (.op 2, []), (.op 3, []), (.op 5, []), (.op 6, []), (.op 7, [])]
  | _ => []
noncomputable def code314 : Code := (Tryz.f314.body).getD .skip
noncomputable def ent314 : Entry := ⟨30, [.tmp 6], code314, plans314⟩
theorem good314 : ent314.Good PP 314 := ⟨Tryz.f314, ⟨Tryz.func314, by kernel_rfl, by kernel_rfl, by kernel_rfl⟩, by kernel_rfl, by kernel_rfl⟩
def plans360 : Plans := fun _ => []
noncomputable def code360 : Code := (Tryz.f360.body).getD .skip
noncomputable def ent360 : Entry := ⟨8, [], code360, plans360⟩
theorem good360 : ent360.Good PP 360 := ⟨Tryz.f360, ⟨Tryz.func360, by kernel_rfl, by kernel_rfl, by kernel_rfl⟩, by kernel_rfl, by kernel_rfl⟩
def plans67 : Plans := fun _ => []
noncomputable def code67 : Code := (Tryz.f67.body).getD .skip
noncomputable def ent67 : Entry := ⟨6, [.tmp 0], code67, plans67⟩
theorem good67 : ent67.Good PP 67 := ⟨Tryz.f67, ⟨Tryz.func67, by kernel_rfl, by kernel_rfl, by kernel_rfl⟩, by kernel_rfl, by kernel_rfl⟩
def plans188 : Plans := fun _ => []
noncomputable def code188 : Code := (Tryz.f188.body).getD .skip
noncomputable def ent188 : Entry := ⟨91, [], code188, plans188⟩
theorem good188 : ent188.Good PP 188 := ⟨Tryz.f188, ⟨Tryz.func188, by kernel_rfl, by kernel_rfl, by kernel_rfl⟩, by kernel_rfl, by kernel_rfl⟩
def plans143 : Plans := fun _ => []
noncomputable def code143 : Code := (Tryz.f143.body).getD .skip
noncomputable def ent143 : Entry := ⟨8, [.tmp 4], code143, plans143⟩
theorem good143 : ent143.Good PP 143 := ⟨Tryz.f143, ⟨Tryz.func143, by kernel_rfl, by kernel_rfl, by kernel_rfl⟩, by kernel_rfl, by kernel_rfl⟩
def plans219 : Plans := fun _ => []
noncomputable def code219 : Code := (Tryz.f219.body).getD .skip
noncomputable def ent219 : Entry := ⟨8, [.tmp 4], code219, plans219⟩
theorem good219 : ent219.Good PP 219 := ⟨Tryz.f219, ⟨Tryz.func219, by kernel_rfl, by kernel_rfl, by kernel_rfl⟩, by kernel_rfl, by kernel_rfl⟩
def plans76 : Plans := fun _ => []
noncomputable def code76 : Code := (Tryz.f76.body).getD .skip
noncomputable def ent76 : Entry := ⟨22, [.tmp 2], code76, plans76⟩
theorem good76 : ent76.Good PP 76 := ⟨Tryz.f76, ⟨Tryz.func76, by kernel_rfl, by kernel_rfl, by kernel_rfl⟩, by kernel_rfl, by kernel_rfl⟩
def plans77 : Plans := fun _ => []
noncomputable def code77 : Code := (Tryz.f77.body).getD .skip
noncomputable def ent77 : Entry := ⟨67, [.tmp 2, .tmp 3, .tmp 4], code77, plans77⟩
theorem good77 : ent77.Good PP 77 := ⟨Tryz.f77, ⟨Tryz.func77, by kernel_rfl, by kernel_rfl, by kernel_rfl⟩, by kernel_rfl, by kernel_rfl⟩
def plans144 : Plans := fun _ => []
noncomputable def code144 : Code := (Tryz.f144.body).getD .skip
noncomputable def ent144 : Entry := ⟨11, [.tmp 4, .tmp 5], code144, plans144⟩
theorem good144 : ent144.Good PP 144 := ⟨Tryz.f144, ⟨Tryz.func144, by kernel_rfl, by kernel_rfl, by kernel_rfl⟩, by kernel_rfl, by kernel_rfl⟩
def plans220 : Plans := fun _ => []
noncomputable def code220 : Code := (Tryz.f220.body).getD .skip
noncomputable def ent220 : Entry := ⟨15, [.tmp 4, .tmp 5], code220, plans220⟩
theorem good220 : ent220.Good PP 220 := ⟨Tryz.f220, ⟨Tryz.func220, by kernel_rfl, by kernel_rfl, by kernel_rfl⟩, by kernel_rfl, by kernel_rfl⟩
def plans301 : Plans := fun _ => []
noncomputable def code301 : Code := (Tryz.f301.body).getD .skip
noncomputable def ent301 : Entry := ⟨18, [.tmp 4], code301, plans301⟩
theorem good301 : ent301.Good PP 301 := ⟨Tryz.f301, ⟨Tryz.func301, by kernel_rfl, by kernel_rfl, by kernel_rfl⟩, by kernel_rfl, by kernel_rfl⟩
def plans146 : Plans := fun _ => []
noncomputable def code146 : Code := (Tryz.f146.body).getD .skip
noncomputable def ent146 : Entry := ⟨24, [.tmp 2, .tmp 3], code146, plans146⟩
theorem good146 : ent146.Good PP 146 := ⟨Tryz.f146, ⟨Tryz.func146, by kernel_rfl, by kernel_rfl, by kernel_rfl⟩, by kernel_rfl, by kernel_rfl⟩
def plans222 : Plans := fun _ => []
noncomputable def code222 : Code := (Tryz.f222.body).getD .skip
noncomputable def ent222 : Entry := ⟨18, [.tmp 2, .tmp 3], code222, plans222⟩
theorem good222 : ent222.Good PP 222 := ⟨Tryz.f222, ⟨Tryz.func222, by kernel_rfl, by kernel_rfl, by kernel_rfl⟩, by kernel_rfl, by kernel_rfl⟩
def plans303 : Plans := fun _ => []
noncomputable def code303 : Code := (Tryz.f303.body).getD .skip
noncomputable def ent303 : Entry := ⟨77, [.tmp 2, .tmp 3], code303, plans303⟩
theorem good303 : ent303.Good PP 303 := ⟨Tryz.f303, ⟨Tryz.func303, by kernel_rfl, by kernel_rfl, by kernel_rfl⟩, by kernel_rfl, by kernel_rfl⟩
def plans259 : Plans := fun _ => []
noncomputable def code259 : Code := (Tryz.f259.body).getD .skip
noncomputable def ent259 : Entry := ⟨14, [], code259, plans259⟩
theorem good259 : ent259.Good PP 259 := ⟨Tryz.f259, ⟨Tryz.func259, by kernel_rfl, by kernel_rfl, by kernel_rfl⟩, by kernel_rfl, by kernel_rfl⟩
def plans325 : Plans := fun
  | 17 => [(.op 0, []), (.op 1, []), (.op 2, []), (.op 3, []), (.op 4, []), (.op 5, []), (.op 9, []), (.op 10, []), (.op 6, []), (.op 11, []), (.op 7, []), (.op 12, []), (.op 8, []), (.op 13, []), (.op 14, []), (.op 15, []), (.op 16, [])]
  | _ => []
noncomputable def code325 : Code := (Tryz.f325.body).getD .skip
noncomputable def ent325 : Entry := ⟨148, [], code325, plans325⟩
theorem good325 : ent325.Good PP 325 := ⟨Tryz.f325, ⟨Tryz.func325, by kernel_rfl, by kernel_rfl, by kernel_rfl⟩, by kernel_rfl, by kernel_rfl⟩
def plans364 : Plans := fun
  | 4 => [(.op 0, []), (.op 1, []), (.op 2, []), (.op 3, []), (.op 4, []), (.op 5, []), (.op 6, []), (.op 9, []), (.op 10, []), (.op 11, []), (.op 7, []), (.op 8, []), (.op 12, []), (.op 13, []), (.op 14, []), (.op 15, []), (.op 16, [])]
  | 6 => [(.op 0, []), (.op 1, []), (.op 2, []), (.op 3, []), (.op 5, []), (.op 6, []), (.op 10, []), (.op 11, []), (.op 4, []), (.op 7, []), (.op 12, []), (.op 8, []), (.op 13, []), (.op 9, []), (.op 14, []), (.op 15, []), (.op 16, []), (.op 17, [])]
  | _ => []
noncomputable def code364 : Code := (Tryz.f364.body).getD .skip
noncomputable def ent364 : Entry := ⟨53, [], code364, plans364⟩
theorem good364 : ent364.Good PP 364 := ⟨Tryz.f364, ⟨Tryz.func364, by kernel_rfl, by kernel_rfl, by kernel_rfl⟩, by kernel_rfl, by kernel_rfl⟩
def plans261 : Plans := fun
  | 11 => [(.op 0, []), (.op 1, []), (.op 4, []), (.mk 2, []), (.op 5, []), (.reveal 2, []), (.op 3, [5]), (.op 6, []), (.op 7, [])]
  | _ => []
noncomputable def code261 : Code := (Tryz.f261.body).getD .skip
noncomputable def ent261 : Entry := ⟨49, [.tmp 4], code261, plans261⟩
theorem good261 : ent261.Good PP 261 := ⟨Tryz.f261, ⟨Tryz.func261, by kernel_rfl, by kernel_rfl, by kernel_rfl⟩, by kernel_rfl, by kernel_rfl⟩
def plans189 : Plans := fun
  | 2 => [(.op 0, []), (.op 1, []), (.op 3, []), (.mk 2, []), (.mk 4, []), (.reveal 2, []), (.reveal 4, []), (.op 5, []), (.mk 6, []), (.reveal 6, []), (.op 7, [])]
  | 7 => [(.op 0, []), (.op 1, []), (.op 2, []), (.op 3, []), (.op 7, []), (.op 4, []), (.op 5, []), (.op 6, []), (.op 8, []), (.op 9, [])]
  | 8 => [(.op 0, []), (.op 4, []), (.op 5, []), (.op 1, []), (.op 2, []), (.op 3, []), (.op 6, []), (.op 7, [])]
  | _ => []
noncomputable def code189 : Code := (Tryz.f189.body).getD .skip
noncomputable def ent189 : Entry := ⟨51, [.tmp 4], code189, plans189⟩
theorem good189 : ent189.Good PP 189 := ⟨Tryz.f189, ⟨Tryz.func189, by kernel_rfl, by kernel_rfl, by kernel_rfl⟩, by kernel_rfl, by kernel_rfl⟩
def plans262 : Plans := fun
  | 9 => [(.op 0, []), (.op 1, []), (.op 5, []), (.op 7, []), (.op 8, []), (.op 2, []), (.op 9, []), (.op 3, []), (.op 10, []), (.op 4, []), (.op 6, []), (.op 11, [3, 4]), (.op 12, []), (.op 13, []), (.op 14, [])]
  | _ => []
noncomputable def code262 : Code := (Tryz.f262.body).getD .skip
noncomputable def ent262 : Entry := ⟨75, [.cell 4 334, .tmp 5, .tmp 6], code262, plans262⟩
theorem good262 : ent262.Good PP 262 := ⟨Tryz.f262, ⟨Tryz.func262, by kernel_rfl, by kernel_rfl, by kernel_rfl⟩, by kernel_rfl, by kernel_rfl⟩
def plans118 : Plans := fun
  | 10 => [(.op 0, []), (.op 4, []), (.op 5, []), (.op 6, []), (.op 7, []), (.op 12, []), (.op 1, []), (.op 8, []), (.op 2, []), (.op 9, []), (.op 3, []), (.op 10, []), (.op 11, []), (.op 13, []), (.op 14, []), (.op 15, []), (.op 16, []), (.op 17, []), (.op 18, []), (.op 19, [])]
  | _ => []
noncomputable def code118 : Code := (Tryz.f118.body).getD .skip
noncomputable def ent118 : Entry := ⟨61, [.tmp 8, .tmp 9], code118, plans118⟩
theorem good118 : ent118.Good PP 118 := ⟨Tryz.f118, ⟨Tryz.func118, by kernel_rfl, by kernel_rfl, by kernel_rfl⟩, by kernel_rfl, by kernel_rfl⟩
def plans190 : Plans := fun _ => []
noncomputable def code190 : Code := (Tryz.f190.body).getD .skip
noncomputable def ent190 : Entry := ⟨11, [.tmp 2], code190, plans190⟩
theorem good190 : ent190.Good PP 190 := ⟨Tryz.f190, ⟨Tryz.func190, by kernel_rfl, by kernel_rfl, by kernel_rfl⟩, by kernel_rfl, by kernel_rfl⟩
def plans18 : Plans := fun _ => []
noncomputable def code18 : Code := (Tryz.f18.body).getD .skip
noncomputable def ent18 : Entry := ⟨30, [.tmp 4, .tmp 5], code18, plans18⟩
theorem good18 : ent18.Good PP 18 := ⟨Tryz.f18, ⟨Tryz.func18, by kernel_rfl, by kernel_rfl, by kernel_rfl⟩, by kernel_rfl, by kernel_rfl⟩
def plans19 : Plans := fun _ => []
noncomputable def code19 : Code := (Tryz.f19.body).getD .skip
noncomputable def ent19 : Entry := ⟨69, [.cell 6 50, .tmp 7, .tmp 8], code19, plans19⟩
theorem good19 : ent19.Good PP 19 := ⟨Tryz.f19, ⟨Tryz.func19, by kernel_rfl, by kernel_rfl, by kernel_rfl⟩, by kernel_rfl, by kernel_rfl⟩
def plans52 : Plans := fun
  | 3 => [(.op 0, []), (.op 4, []), (.op 5, []), (.op 6, []), (.op 1, []), (.op 2, []), (.op 7, []), (.op 3, []), (.op 8, [3]), (.op 9, []), (.op 10, []), (.op 11, []), (.op 12, []), (.op 13, []), (.op 14, []), (.op 15, [])]
  | _ => []
noncomputable def code52 : Code := (Tryz.f52.body).getD .skip
noncomputable def ent52 : Entry := ⟨52, [.cell 6 50, .tmp 7], code52, plans52⟩
theorem good52 : ent52.Good PP 52 := ⟨Tryz.f52, ⟨Tryz.func52, by kernel_rfl, by kernel_rfl, by kernel_rfl⟩, by kernel_rfl, by kernel_rfl⟩
def plans113 : Plans := fun
  | 7 => [(.op 0, []), (.op 1, []), (.op 2, []), (.op 3, []), (.op 7, []), (.op 12, []), (.op 4, []), (.op 5, []), (.op 6, []), (.op 8, []), (.op 9, []), (.op 10, []), (.op 11, []), (.op 13, []), (.op 14, []), (.op 15, [])]
  | _ => []
noncomputable def code113 : Code := (Tryz.f113.body).getD .skip
noncomputable def ent113 : Entry := ⟨45, [.cell 4 192], code113, plans113⟩
theorem good113 : ent113.Good PP 113 := ⟨Tryz.f113, ⟨Tryz.func113, by kernel_rfl, by kernel_rfl, by kernel_rfl⟩, by kernel_rfl, by kernel_rfl⟩
def plans21 : Plans := fun _ => []
noncomputable def code21 : Code := (Tryz.f21.body).getD .skip
noncomputable def ent21 : Entry := ⟨16, [.cell 2 42], code21, plans21⟩
theorem good21 : ent21.Good PP 21 := ⟨Tryz.f21, ⟨Tryz.func21, by kernel_rfl, by kernel_rfl, by kernel_rfl⟩, by kernel_rfl, by kernel_rfl⟩
def plans53 : Plans := fun _ => []
noncomputable def code53 : Code := (Tryz.f53.body).getD .skip
noncomputable def ent53 : Entry := ⟨33, [.tmp 4], code53, plans53⟩
theorem good53 : ent53.Good PP 53 := ⟨Tryz.f53, ⟨Tryz.func53, by kernel_rfl, by kernel_rfl, by kernel_rfl⟩, by kernel_rfl, by kernel_rfl⟩
def plans114 : Plans := fun _ => []
noncomputable def code114 : Code := (Tryz.f114.body).getD .skip
noncomputable def ent114 : Entry := ⟨9, [], code114, plans114⟩
theorem good114 : ent114.Good PP 114 := ⟨Tryz.f114, ⟨Tryz.func114, by kernel_rfl, by kernel_rfl, by kernel_rfl⟩, by kernel_rfl, by kernel_rfl⟩
def plans193 : Plans := fun _ => []
noncomputable def code193 : Code := (Tryz.f193.body).getD .skip
noncomputable def ent193 : Entry := ⟨63, [], code193, plans193⟩
theorem good193 : ent193.Good PP 193 := ⟨Tryz.f193, ⟨Tryz.func193, by kernel_rfl, by kernel_rfl, by kernel_rfl⟩, by kernel_rfl, by kernel_rfl⟩
def plans265 : Plans := fun
  | 4 => [(.op 0, []), (.op 1, []), (.op 2, []), (.op 3, []), (.op 4, []), (.op 5, []), (.op 6, []), (.op 9, []), (.op 10, []), (.op 11, []), (.op 7, []), (.op 8, []), (.op 12, []), (.op 13, []), (.op 14, []), (.op 15, []), (.op 16, [])]
  | 6 => [(.op 0, []), (.op 1, []), (.op 2, []), (.op 3, []), (.op 5, []), (.op 6, []), (.op 10, []), (.op 11, []), (.op 4, []), (.op 7, []), (.op 12, []), (.op 8, []), (.op 13, []), (.op 9, []), (.op 14, []), (.op 15, []), (.op 16, []), (.op 17, [])]
  | _ => []
noncomputable def code265 : Code := (Tryz.f265.body).getD .skip
noncomputable def ent265 : Entry := ⟨53, [], code265, plans265⟩
theorem good265 : ent265.Good PP 265 := ⟨Tryz.f265, ⟨Tryz.func265, by kernel_rfl, by kernel_rfl, by kernel_rfl⟩, by kernel_rfl, by kernel_rfl⟩
def plans37 : Plans := fun _ => []
noncomputable def code37 : Code := (Tryz.f37.body).getD .skip
noncomputable def ent37 : Entry := ⟨26, [.tmp 2], code37, plans37⟩
theorem good37 : ent37.Good PP 37 := ⟨Tryz.f37, ⟨Tryz.func37, by kernel_rfl, by kernel_rfl, by kernel_rfl⟩, by kernel_rfl, by kernel_rfl⟩
def plans86 : Plans := fun _ => []
noncomputable def code86 : Code := (Tryz.f86.body).getD .skip
noncomputable def ent86 : Entry := ⟨32, [.tmp 2], code86, plans86⟩
theorem good86 : ent86.Good PP 86 := ⟨Tryz.f86, ⟨Tryz.func86, by kernel_rfl, by kernel_rfl, by kernel_rfl⟩, by kernel_rfl, by kernel_rfl⟩
def plans38 : Plans := fun _ => []
noncomputable def code38 : Code := (Tryz.f38.body).getD .skip
noncomputable def ent38 : Entry := ⟨37, [.tmp 2], code38, plans38⟩
theorem good38 : ent38.Good PP 38 := ⟨Tryz.f38, ⟨Tryz.func38, by kernel_rfl, by kernel_rfl, by kernel_rfl⟩, by kernel_rfl, by kernel_rfl⟩
def plans87 : Plans := fun _ => []
noncomputable def code87 : Code := (Tryz.f87.body).getD .skip
noncomputable def ent87 : Entry := ⟨14, [], code87, plans87⟩
theorem good87 : ent87.Good PP 87 := ⟨Tryz.f87, ⟨Tryz.func87, by kernel_rfl, by kernel_rfl, by kernel_rfl⟩, by kernel_rfl, by kernel_rfl⟩
def plans156 : Plans := fun
  | 17 => [(.op 0, []), (.op 1, []), (.op 2, []), (.op 3, []), (.op 4, []), (.op 5, []), (.op 9, []), (.op 10, []), (.op 6, []), (.op 11, []), (.op 7, []), (.op 12, []), (.op 8, []), (.op 13, []), (.op 14, []), (.op 15, []), (.op 16, [])]
  | _ => []
noncomputable def code156 : Code := (Tryz.f156.body).getD .skip
noncomputable def ent156 : Entry := ⟨148, [], code156, plans156⟩
theorem good156 : ent156.Good PP 156 := ⟨Tryz.f156, ⟨Tryz.func156, by kernel_rfl, by kernel_rfl, by kernel_rfl⟩, by kernel_rfl, by kernel_rfl⟩
def plans229 : Plans := fun
  | 4 => [(.op 0, []), (.op 1, []), (.op 2, []), (.op 3, []), (.op 4, []), (.op 5, []), (.op 6, []), (.op 9, []), (.op 10, []), (.op 11, []), (.op 7, []), (.op 8, []), (.op 12, []), (.op 13, []), (.op 14, []), (.op 15, []), (.op 16, [])]
  | 6 => [(.op 0, []), (.op 1, []), (.op 2, []), (.op 3, []), (.op 5, []), (.op 6, []), (.op 10, []), (.op 11, []), (.op 4, []), (.op 7, []), (.op 12, []), (.op 8, []), (.op 13, []), (.op 9, []), (.op 14, []), (.op 15, []), (.op 16, []), (.op 17, [])]
  | _ => []
noncomputable def code229 : Code := (Tryz.f229.body).getD .skip
noncomputable def ent229 : Entry := ⟨53, [], code229, plans229⟩
theorem good229 : ent229.Good PP 229 := ⟨Tryz.f229, ⟨Tryz.func229, by kernel_rfl, by kernel_rfl, by kernel_rfl⟩, by kernel_rfl, by kernel_rfl⟩
def plans39 : Plans := fun _ => []
noncomputable def code39 : Code := (Tryz.f39.body).getD .skip
noncomputable def ent39 : Entry := ⟨11, [.tmp 2], code39, plans39⟩
theorem good39 : ent39.Good PP 39 := ⟨Tryz.f39, ⟨Tryz.func39, by kernel_rfl, by kernel_rfl, by kernel_rfl⟩, by kernel_rfl, by kernel_rfl⟩
def plans90 : Plans := fun
  | 1 => [(.op 0, []), (.op 1, []), (.op 2, []), (.op 3, []), (.op 4, []), (.op 5, []), (.op 6, []), (.op 7, []), (.op 8, []), (.op 9, []), (.op 10, []), (.op 11, []), (.op 12, []), (.op 13, []), (.op 14, []), (.op 15, []), (.op 18, []), (.op 16, []), (.op 19, []), (.op 17, [19]), (.op 20, []), (.op 21, []), (.op 22, [])]
  | 3 => [(.op 0, []), (.op 3, []), (.op 1, []), (.op 4, []), (.op 5, []), (.op 2, [4]), (.op 6, []), (.op 7, []), (.op 8, [])]
  | _ => []
noncomputable def code90 : Code := (Tryz.f90.body).getD .skip
noncomputable def ent90 : Entry := ⟨64, [.tmp 2], code90, plans90⟩
theorem good90 : ent90.Good PP 90 := ⟨Tryz.f90, ⟨Tryz.func90, by kernel_rfl, by kernel_rfl, by kernel_rfl⟩, by kernel_rfl, by kernel_rfl⟩
def plans159 : Plans := fun
  | 6 => [(.op 0, []), (.op 1, []), (.op 4, []), (.op 5, []), (.op 2, []), (.op 6, []), (.op 3, []), (.op 7, []), (.op 8, [])]
  | _ => []
noncomputable def code159 : Code := (Tryz.f159.body).getD .skip
noncomputable def ent159 : Entry := ⟨26, [.tmp 4], code159, plans159⟩
theorem good159 : ent159.Good PP 159 := ⟨Tryz.f159, ⟨Tryz.func159, by kernel_rfl, by kernel_rfl, by kernel_rfl⟩, by kernel_rfl, by kernel_rfl⟩
def plans161 : Plans := fun _ => []
noncomputable def code161 : Code := (Tryz.f161.body).getD .skip
noncomputable def ent161 : Entry := ⟨8, [.tmp 2], code161, plans161⟩
theorem good161 : ent161.Good PP 161 := ⟨Tryz.f161, ⟨Tryz.func161, by kernel_rfl, by kernel_rfl, by kernel_rfl⟩, by kernel_rfl, by kernel_rfl⟩
def plans40 : Plans := fun
  | 2 => [(.op 0, []), (.op 4, []), (.op 1, []), (.op 2, []), (.op 3, []), (.op 5, [3]), (.op 6, []), (.op 7, [])]
  | 9 => [(.op 0, []), (.op 4, []), (.op 1, []), (.op 2, []), (.op 3, []), (.op 5, [3]), (.op 6, []), (.op 7, [])]
  | _ => []
noncomputable def code40 : Code := (Tryz.f40.body).getD .skip
noncomputable def ent40 : Entry := ⟨70, [.tmp 4], code40, plans40⟩
theorem good40 : ent40.Good PP 40 := ⟨Tryz.f40, ⟨Tryz.func40, by kernel_rfl, by kernel_rfl, by kernel_rfl⟩, by kernel_rfl, by kernel_rfl⟩
def plans42 : Plans := fun _ => []
noncomputable def code42 : Code := (Tryz.f42.body).getD .skip
noncomputable def ent42 : Entry := ⟨8, [.tmp 2], code42, plans42⟩
theorem good42 : ent42.Good PP 42 := ⟨Tryz.f42, ⟨Tryz.func42, by kernel_rfl, by kernel_rfl, by kernel_rfl⟩, by kernel_rfl, by kernel_rfl⟩
def plans43 : Plans := fun
  | 1 => [(.op 0, []), (.op 4, []), (.op 1, []), (.op 2, []), (.op 3, []), (.op 5, [3]), (.op 6, []), (.op 7, [])]
  | _ => []
noncomputable def code43 : Code := (Tryz.f43.body).getD .skip
noncomputable def ent43 : Entry := ⟨32, [.tmp 2], code43, plans43⟩
theorem good43 : ent43.Good PP 43 := ⟨Tryz.f43, ⟨Tryz.func43, by kernel_rfl, by kernel_rfl, by kernel_rfl⟩, by kernel_rfl, by kernel_rfl⟩
def plans44 : Plans := fun
  | 4 => [(.op 0, []), (.op 4, []), (.op 5, []), (.op 1, []), (.op 6, []), (.op 2, []), (.op 7, []), (.op 3, []), (.op 8, []), (.op 9, [4, 3]), (.op 10, []), (.op 11, [4, 3]), (.op 12, [])]
  | _ => []
noncomputable def code44 : Code := (Tryz.f44.body).getD .skip
noncomputable def ent44 : Entry := ⟨32, [], code44, plans44⟩
theorem good44 : ent44.Good PP 44 := ⟨Tryz.f44, ⟨Tryz.func44, by kernel_rfl, by kernel_rfl, by kernel_rfl⟩, by kernel_rfl, by kernel_rfl⟩
def plans99 : Plans := fun _ => []
noncomputable def code99 : Code := (Tryz.f99.body).getD .skip
noncomputable def ent99 : Entry := ⟨29, [.tmp 2], code99, plans99⟩
theorem good99 : ent99.Good PP 99 := ⟨Tryz.f99, ⟨Tryz.func99, by kernel_rfl, by kernel_rfl, by kernel_rfl⟩, by kernel_rfl, by kernel_rfl⟩
def plans62 : Plans := fun _ => []
noncomputable def code62 : Code := (Tryz.f62.body).getD .skip
noncomputable def ent62 : Entry := ⟨11, [.tmp 2], code62, plans62⟩
theorem good62 : ent62.Good PP 62 := ⟨Tryz.f62, ⟨Tryz.func62, by kernel_rfl, by kernel_rfl, by kernel_rfl⟩, by kernel_rfl, by kernel_rfl⟩
def plans101 : Plans := fun _ => []
noncomputable def code101 : Code := (Tryz.f101.body).getD .skip
noncomputable def ent101 : Entry := ⟨12, [.tmp 2], code101, plans101⟩
theorem good101 : ent101.Good PP 101 := ⟨Tryz.f101, ⟨Tryz.func101, by kernel_rfl, by kernel_rfl, by kernel_rfl⟩, by kernel_rfl, by kernel_rfl⟩
def plans100 : Plans := fun
  | 4 => [(.op 0, []), (.op 4, []), (.op 1, []), (.op 5, []), (.op 2, []), (.op 3, []), (.op 6, []), (.op 7, []), (.op 8, []), (.op 9, []), (.op 10, []), (.op 11, [])]
  | 5 => [(.op 0, []), (.op 1, []), (.op 2, []), (.op 3, []), (.op 7, []), (.op 12, []), (.op 4, []), (.op 13, []), (.op 5, []), (.op 6, []), (.op 8, []), (.op 9, []), (.op 10, []), (.op 11, []), (.op 14, []), (.op 15, [])]
  | 8 => [(.op 0, []), (.op 1, []), (.mk 4, []), (.mk 2, []), (.reveal 2, []), (.op 3, []), (.reveal 4, []), (.op 5, [])]
  | 12 => [(.op 0, []), (.op 2, []), (.op 3, []), (.op 7, []), (.op 13, []), (.op 1, []), (.op 4, []), (.op 8, []), (.op 5, []), (.op 9, []), (.op 6, []), (.op 10, []), (.op 11, []), (.op 12, []), (.op 14, []), (.op 15, []), (.op 16, []), (.op 17, [])]
  | 13 => [(.op 0, []), (.op 4, []), (.op 10, []), (.op 11, []), (.op 1, []), (.op 5, []), (.op 12, []), (.op 2, []), (.op 6, []), (.op 13, []), (.op 3, []), (.op 14, []), (.op 15, []), (.op 7, []), (.op 8, []), (.op 9, []), (.op 16, []), (.op 17, [])]
  | 15 => [(.op 0, []), (.op 1, []), (.op 5, []), (.op 2, []), (.mk 6, []), (.op 3, []), (.op 4, []), (.reveal 6, []), (.op 7, []), (.op 8, []), (.op 9, []), (.op 10, [])]
  | 16 => [(.op 0, []), (.op 4, []), (.op 8, []), (.op 1, []), (.op 5, []), (.op 9, []), (.op 2, []), (.op 6, []), (.op 10, []), (.op 3, []), (.op 7, []), (.op 11, []), (.op 12, []), (.op 13, []), (.op 14, []), (.op 15, [])]
  | _ => []
noncomputable def code100 : Code := (Tryz.f100.body).getD .skip
noncomputable def ent100 : Entry := ⟨120, [.tmp 6], code100, plans100⟩
theorem good100 : ent100.Good PP 100 := ⟨Tryz.f100, ⟨Tryz.func100, by kernel_rfl, by kernel_rfl, by kernel_rfl⟩, by kernel_rfl, by kernel_rfl⟩
def plans170 : Plans := fun _ => []
noncomputable def code170 : Code := (Tryz.f170.body).getD .skip
noncomputable def ent170 : Entry := ⟨23, [.tmp 2], code170, plans170⟩
theorem good170 : ent170.Good PP 170 := ⟨Tryz.f170, ⟨Tryz.func170, by kernel_rfl, by kernel_rfl, by kernel_rfl⟩, by kernel_rfl, by kernel_rfl⟩
def plans240 : Plans := fun _ => []
noncomputable def code240 : Code := (Tryz.f240.body).getD .skip
noncomputable def ent240 : Entry := ⟨27, [.tmp 2], code240, plans240⟩
theorem good240 : ent240.Good PP 240 := ⟨Tryz.f240, ⟨Tryz.func240, by kernel_rfl, by kernel_rfl, by kernel_rfl⟩, by kernel_rfl, by kernel_rfl⟩
def plans61 : Plans := fun
  | 1 => [(.op 0, []), (.op 2, []), (.op 5, []), (.op 7, []), (.op 10, []), (.op 12, []), (.op 1, []), (.op 3, []), (.op 6, []), (.op 8, []), (.op 11, []), (.op 13, []), (.op 4, [6, 8, 11, 13]), (.op 9, [11, 13]), (.op 14, []), (.mk 15, []), (.reveal 15, []), (.op 16, []), (.op 17, [])]
  | _ => []
noncomputable def code61 : Code := (Tryz.f61.body).getD .skip
noncomputable def ent61 : Entry := ⟨22, [.tmp 4], code61, plans61⟩
theorem good61 : ent61.Good PP 61 := ⟨Tryz.f61, ⟨Tryz.func61, by kernel_rfl, by kernel_rfl, by kernel_rfl⟩, by kernel_rfl, by kernel_rfl⟩
def plans89 : Plans := fun _ => []
noncomputable def code89 : Code := (Tryz.f89.body).getD .skip
noncomputable def ent89 : Entry := ⟨20, [.tmp 4], code89, plans89⟩
theorem good89 : ent89.Good PP 89 := ⟨Tryz.f89, ⟨Tryz.func89, by kernel_rfl, by kernel_rfl, by kernel_rfl⟩, by kernel_rfl, by kernel_rfl⟩
def plans158 : Plans := fun _ => []
noncomputable def code158 : Code := (Tryz.f158.body).getD .skip
noncomputable def ent158 : Entry := ⟨6, [.tmp 2], code158, plans158⟩
theorem good158 : ent158.Good PP 158 := ⟨Tryz.f158, ⟨Tryz.func158, by kernel_rfl, by kernel_rfl, by kernel_rfl⟩, by kernel_rfl, by kernel_rfl⟩
def plans116 : Plans := fun _ => []
noncomputable def code116 : Code := (Tryz.f116.body).getD .skip
noncomputable def ent116 : Entry := ⟨20, [.tmp 4], code116, plans116⟩
theorem good116 : ent116.Good PP 116 := ⟨Tryz.f116, ⟨Tryz.func116, by kernel_rfl, by kernel_rfl, by kernel_rfl⟩, by kernel_rfl, by kernel_rfl⟩
def plans194 : Plans := fun _ => []
noncomputable def code194 : Code := (Tryz.f194.body).getD .skip
noncomputable def ent194 : Entry := ⟨6, [.tmp 2], code194, plans194⟩
theorem good194 : ent194.Good PP 194 := ⟨Tryz.f194, ⟨Tryz.func194, by kernel_rfl, by kernel_rfl, by kernel_rfl⟩, by kernel_rfl, by kernel_rfl⟩
def plans128 : Plans := fun _ => []
noncomputable def code128 : Code := (Tryz.f128.body).getD .skip
noncomputable def ent128 : Entry := ⟨18, [.tmp 2], code128, plans128⟩
theorem good128 : ent128.Good PP 128 := ⟨Tryz.f128, ⟨Tryz.func128, by kernel_rfl, by kernel_rfl, by kernel_rfl⟩, by kernel_rfl, by kernel_rfl⟩
noncomputable def tabL : List (Nat × Entry) := [(3, ent3), (4, ent4), (5, ent5), (6, ent6), (7, ent7), (8, ent8), (9, ent9), (10, ent10), (11, ent11), (12, ent12), (13, ent13), (14, ent14), (15, ent15), (16, ent16), (17, ent17), (51, ent51), (109, ent109), (108, ent108), (183, ent183), (255, ent255), (110, ent110), (112, ent112), (191, ent191), (134, ent134), (192, ent192), (111, ent111), (184, ent184), (185, ent185), (186, ent186), (256, ent256), (73, ent73), (135, ent135), (136, ent136), (210, ent210), (187, ent187), (32, ent32), (142, ent142), (157, ent157), (238, ent238), (218, ent218), (292, ent292), (175, ent175), (105, ent105), (177, ent177), (248, ent248), (252, ent252), (245, ent245), (253, ent253), (315, ent315), (137, ent137), (138, ent138), (216, ent216), (282, ent282), (338, ent338), (56, ent56), (124, ent124), (107, ent107), (181, ent181), (160, ent160), (91, ent91), (163, ent163), (164, ent164), (162, ent162), (239, ent239), (242, ent242), (93, ent93), (166, ent166), (79, ent79), (167, ent167), (81, ent81), (148, ent148), (41, ent41), (95, ent95), (96, ent96), (97, ent97), (92, ent92), (165, ent165), (243, ent243), (98, ent98), (168, ent168), (314, ent314), (360, ent360), (67, ent67), (188, ent188), (143, ent143), (219, ent219), (76, ent76), (77, ent77), (144, ent144), (220, ent220), (301, ent301), (146, ent146), (222, ent222), (303, ent303), (259, ent259), (325, ent325), (364, ent364), (261, ent261), (189, ent189), (262, ent262), (118, ent118), (190, ent190), (18, ent18), (19, ent19), (52, ent52), (113, ent113), (21, ent21), (53, ent53), (114, ent114), (193, ent193), (265, ent265), (37, ent37), (86, ent86), (38, ent38), (87, ent87), (156, ent156), (229, ent229), (39, ent39), (90, ent90), (159, ent159), (161, ent161), (40, ent40), (42, ent42), (43, ent43), (44, ent44), (99, ent99), (62, ent62), (101, ent101), (100, ent100), (170, ent170), (240, ent240), (61, ent61), (89, ent89), (158, ent158), (116, ent116), (194, ent194), (128, ent128)]
noncomputable def tab : Tr Entry := Tr.ofList tabL
theorem tab_good : ∀ f en, tab.get f = some en → en.Good PP f := by
  intro f en h
  have h := Tr.ofList_get tabL f en h
  simp only [tabL, List.mem_cons, Prod.mk.injEq, List.not_mem_nil, or_false] at h
  rcases h with ⟨rfl, rfl⟩ | ⟨rfl, rfl⟩ | ⟨rfl, rfl⟩ | ⟨rfl, rfl⟩ | ⟨rfl, rfl⟩ | ⟨rfl, rfl⟩ | ⟨rfl, rfl⟩ | ⟨rfl, rfl⟩ | ⟨rfl, rfl⟩ | ⟨rfl, rfl⟩ | ⟨rfl, rfl⟩ | ⟨rfl, rfl⟩ | ⟨rfl, rfl⟩ | ⟨rfl, rfl⟩ | ⟨rfl, rfl⟩ | ⟨rfl, rfl⟩ | ⟨rfl, rfl⟩ | ⟨rfl, rfl⟩ | ⟨rfl, rfl⟩ | ⟨rfl, rfl⟩ | ⟨rfl, rfl⟩ | ⟨rfl, rfl⟩ | ⟨rfl, rfl⟩ | ⟨rfl, rfl⟩ | ⟨rfl, rfl⟩ | ⟨rfl, rfl⟩ | ⟨rfl, rfl⟩ | ⟨rfl, rfl⟩ | ⟨rfl, rfl⟩ | ⟨rfl, rfl⟩ | ⟨rfl, rfl⟩ | ⟨rfl, rfl⟩ | ⟨rfl, rfl⟩ | ⟨rfl, rfl⟩ | ⟨rfl, rfl⟩ | ⟨rfl, rfl⟩ | ⟨rfl, rfl⟩ | ⟨rfl, rfl⟩ | ⟨rfl, rfl⟩ | ⟨rfl, rfl⟩ | ⟨rfl, rfl⟩ | ⟨rfl, rfl⟩ | ⟨rfl, rfl⟩ | ⟨rfl, rfl⟩ | ⟨rfl, rfl⟩ | ⟨rfl, rfl⟩ | ⟨rfl, rfl⟩ | ⟨rfl, rfl⟩ | ⟨rfl, rfl⟩ | ⟨rfl, rfl⟩ | ⟨rfl, rfl⟩ | ⟨rfl, rfl⟩ | ⟨rfl, rfl⟩ | ⟨rfl, rfl⟩ | ⟨rfl, rfl⟩ | ⟨rfl, rfl⟩ | ⟨rfl, rfl⟩ | ⟨rfl, rfl⟩ | ⟨rfl, rfl⟩ | ⟨rfl, rfl⟩ | ⟨rfl, rfl⟩ | ⟨rfl, rfl⟩ | ⟨rfl, rfl⟩ | ⟨rfl, rfl⟩ | ⟨rfl, rfl⟩ | ⟨rfl, rfl⟩ | ⟨rfl, rfl⟩ | ⟨rfl, rfl⟩ | ⟨rfl, rfl⟩ | ⟨rfl, rfl⟩ | ⟨rfl, rfl⟩ | ⟨rfl, rfl⟩ | ⟨rfl, rfl⟩ | ⟨rfl, rfl⟩ | ⟨rfl, rfl⟩ | ⟨rfl, rfl⟩ | ⟨rfl, rfl⟩ | ⟨rfl, rfl⟩ | ⟨rfl, rfl⟩ | ⟨rfl, rfl⟩ | ⟨rfl, rfl⟩ | ⟨rfl, rfl⟩ | ⟨rfl, rfl⟩ | ⟨rfl, rfl⟩ | ⟨rfl, rfl⟩ | ⟨rfl, rfl⟩ | ⟨rfl, rfl⟩ | ⟨rfl, rfl⟩ | ⟨rfl, rfl⟩ | ⟨rfl, rfl⟩ | ⟨rfl, rfl⟩ | ⟨rfl, rfl⟩ | ⟨rfl, rfl⟩ | ⟨rfl, rfl⟩ | ⟨rfl, rfl⟩ | ⟨rfl, rfl⟩ | ⟨rfl, rfl⟩ | ⟨rfl, rfl⟩ | ⟨rfl, rfl⟩ | ⟨rfl, rfl⟩ | ⟨rfl, rfl⟩ | ⟨rfl, rfl⟩ | ⟨rfl, rfl⟩ | ⟨rfl, rfl⟩ | ⟨rfl, rfl⟩ | ⟨rfl, rfl⟩ | ⟨rfl, rfl⟩ | ⟨rfl, rfl⟩ | ⟨rfl, rfl⟩ | ⟨rfl, rfl⟩ | ⟨rfl, rfl⟩ | ⟨rfl, rfl⟩ | ⟨rfl, rfl⟩ | ⟨rfl, rfl⟩ | ⟨rfl, rfl⟩ | ⟨rfl, rfl⟩ | ⟨rfl, rfl⟩ | ⟨rfl, rfl⟩ | ⟨rfl, rfl⟩ | ⟨rfl, rfl⟩ | ⟨rfl, rfl⟩ | ⟨rfl, rfl⟩ | ⟨rfl, rfl⟩ | ⟨rfl, rfl⟩ | ⟨rfl, rfl⟩ | ⟨rfl, rfl⟩ | ⟨rfl, rfl⟩ | ⟨rfl, rfl⟩ | ⟨rfl, rfl⟩ | ⟨rfl, rfl⟩ | ⟨rfl, rfl⟩ | ⟨rfl, rfl⟩ | ⟨rfl, rfl⟩ | ⟨rfl, rfl⟩ | ⟨rfl, rfl⟩ | ⟨rfl, rfl⟩ | ⟨rfl, rfl⟩
  · exact good3
  · exact good4
  · exact good5
  · exact good6
  · exact good7
  · exact good8
  · exact good9
  · exact good10
  · exact good11
  · exact good12
  · exact good13
  · exact good14
  · exact good15
  · exact good16
  · exact good17
  · exact good51
  · exact good109
  · exact good108
  · exact good183
  · exact good255
  · exact good110
  · exact good112
  · exact good191
  · exact good134
  · exact good192
  · exact good111
  · exact good184
  · exact good185
  · exact good186
  · exact good256
  · exact good73
  · exact good135
  · exact good136
  · exact good210
  · exact good187
  · exact good32
  · exact good142
  · exact good157
  · exact good238
  · exact good218
  · exact good292
  · exact good175
  · exact good105
  · exact good177
  · exact good248
  · exact good252
  · exact good245
  · exact good253
  · exact good315
  · exact good137
  · exact good138
  · exact good216
  · exact good282
  · exact good338
  · exact good56
  · exact good124
  · exact good107
  · exact good181
  · exact good160
  · exact good91
  · exact good163
  · exact good164
  · exact good162
  · exact good239
  · exact good242
  · exact good93
  · exact good166
  · exact good79
  · exact good167
  · exact good81
  · exact good148
  · exact good41
  · exact good95
  · exact good96
  · exact good97
  · exact good92
  · exact good165
  · exact good243
  · exact good98
  · exact good168
  · exact good314
  · exact good360
  · exact good67
  · exact good188
  · exact good143
  · exact good219
  · exact good76
  · exact good77
  · exact good144
  · exact good220
  · exact good301
  · exact good146
  · exact good222
  · exact good303
  · exact good259
  · exact good325
  · exact good364
  · exact good261
  · exact good189
  · exact good262
  · exact good118
  · exact good190
  · exact good18
  · exact good19
  · exact good52
  · exact good113
  · exact good21
  · exact good53
  · exact good114
  · exact good193
  · exact good265
  · exact good37
  · exact good86
  · exact good38
  · exact good87
  · exact good156
  · exact good229
  · exact good39
  · exact good90
  · exact good159
  · exact good161
  · exact good40
  · exact good42
  · exact good43
  · exact good44
  · exact good99
  · exact good62
  · exact good101
  · exact good100
  · exact good170
  · exact good240
  · exact good61
  · exact good89
  · exact good158
  · exact good116
  · exact good194
  · exact good128
end Go.Proofs
