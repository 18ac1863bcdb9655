/- The table of the functions that are run: printed by program. -/
import Derived.Test.YtmeknmnimalndaaGreatDoorAxConc3
import Derived.Test.YtmeknmnimalndaaGreatDoorProg
import Derived.KernelRfl
set_option linter.unusedVariables false
set_option linter.unusedSimpArgs false
namespace Go.Proofs
open Go Go.Ax
noncomputable abbrev PP : Program := Tryz.prog
theorem mixed : PP.follows .mixedOrders = true := by kernel_rfl
def plans3 : Plans := fun _ => []
noncomputable def code3 : Code := (Tryz.f3.body).getD .skip
noncomputable def ent3 : Entry := ⟨51, [.tmp 2], code3, plans3⟩
theorem good3 : ent3.Good PP 3 := ⟨Tryz.f3, ⟨Tryz.func3, by kernel_rfl, by kernel_rfl, by kernel_rfl⟩, by kernel_rfl, by kernel_rfl⟩
def plans4 : Plans := fun
  | 7 => [(.op 0, []), (.op 4, []), (.op 6, []), (.op 1, []), (.op 5, []), (.op 7, []), (.op 2, []), (.op 3, []), (.op 8, []), (.op 9, []), (.op 10, [])]
  | 9 => [(.op 0, []), (.op 4, []), (.op 6, []), (.op 1, []), (.op 5, []), (.op 7, []), (.op 2, []), (.op 3, []), (.op 8, []), (.op 9, []), (.op 10, []), (.op 11, []), (.op 12, []), (.op 13, []), (.op 14, []), (.op 15, []), (.op 16, []), (.op 17, []), (.op 18, [])]
  | 11 => [(.op 0, []), (.op 4, []), (.op 6, []), (.op 8, []), (.op 10, []), (.op 12, []), (.op 1, []), (.op 5, []), (.op 7, []), (.op 9, []), (.op 11, []), (.op 13, []), (.op 2, []), (.op 3, []), (.op 14, []), (.op 15, []), (.op 16, []), (.op 17, []), (.op 18, []), (.op 19, []), (.op 20, []), (.op 21, [])]
  | 15 => [(.op 0, []), (.op 4, []), (.op 1, []), (.op 5, []), (.op 2, []), (.op 3, []), (.op 6, []), (.op 7, []), (.op 8, [])]
  | 25 => [(.op 0, []), (.op 4, []), (.op 1, []), (.op 5, []), (.op 2, []), (.op 3, []), (.op 6, [])]
  | 27 => [(.op 0, []), (.op 4, []), (.op 1, []), (.op 5, []), (.op 2, []), (.op 3, []), (.op 6, [])]
  | _ => []
noncomputable def code4 : Code := (Tryz.f4.body).getD .skip
noncomputable def ent4 : Entry := ⟨155, [.cell 4 32], code4, plans4⟩
theorem good4 : ent4.Good PP 4 := ⟨Tryz.f4, ⟨Tryz.func4, by kernel_rfl, by kernel_rfl, by kernel_rfl⟩, by kernel_rfl, by kernel_rfl⟩
def plans5 : Plans := fun _ => []
noncomputable def code5 : Code := (Tryz.f5.body).getD .skip
noncomputable def ent5 : Entry := ⟨4, [.tmp 2], code5, plans5⟩
theorem good5 : ent5.Good PP 5 := ⟨Tryz.f5, ⟨Tryz.func5, by kernel_rfl, by kernel_rfl, by kernel_rfl⟩, by kernel_rfl, by kernel_rfl⟩
def plans6 : Plans := fun _ => []
noncomputable def code6 : Code := (Tryz.f6.body).getD .skip
noncomputable def ent6 : Entry := ⟨9, [.tmp 2], code6, plans6⟩
theorem good6 : ent6.Good PP 6 := ⟨Tryz.f6, ⟨Tryz.func6, by kernel_rfl, by kernel_rfl, by kernel_rfl⟩, by kernel_rfl, by kernel_rfl⟩
def plans7 : Plans := fun _ => []
noncomputable def code7 : Code := (Tryz.f7.body).getD .skip
noncomputable def ent7 : Entry := ⟨9, [.tmp 2], code7, plans7⟩
theorem good7 : ent7.Good PP 7 := ⟨Tryz.f7, ⟨Tryz.func7, by kernel_rfl, by kernel_rfl, by kernel_rfl⟩, by kernel_rfl, by kernel_rfl⟩
def plans8 : Plans := fun _ => []
noncomputable def code8 : Code := (Tryz.f8.body).getD .skip
noncomputable def ent8 : Entry := ⟨9, [.tmp 2], code8, plans8⟩
theorem good8 : ent8.Good PP 8 := ⟨Tryz.f8, ⟨Tryz.func8, by kernel_rfl, by kernel_rfl, by kernel_rfl⟩, by kernel_rfl, by kernel_rfl⟩
def plans9 : Plans := fun _ => []
noncomputable def code9 : Code := (Tryz.f9.body).getD .skip
noncomputable def ent9 : Entry := ⟨60, [.tmp 0], code9, plans9⟩
theorem good9 : ent9.Good PP 9 := ⟨Tryz.f9, ⟨Tryz.func9, by kernel_rfl, by kernel_rfl, by kernel_rfl⟩, by kernel_rfl, by kernel_rfl⟩
def plans24 : Plans := fun
  | 7 => [(.op 0, []), (.op 2, []), (.op 3, []), (.op 5, []), (.op 1, []), (.op 4, []), (.op 6, []), (.op 7, []), (.op 8, []), (.op 9, []), (.op 10, []), (.mk 11, []), (.reveal 11, []), (.op 12, []), (.op 13, []), (.op 14, [])]
  | _ => []
noncomputable def code24 : Code := (Tryz.f24.body).getD .skip
noncomputable def ent24 : Entry := ⟨52, [.cell 2 46], code24, plans24⟩
theorem good24 : ent24.Good PP 24 := ⟨Tryz.f24, ⟨Tryz.func24, by kernel_rfl, by kernel_rfl, by kernel_rfl⟩, by kernel_rfl, by kernel_rfl⟩
def plans71 : Plans := fun _ => []
noncomputable def code71 : Code := (Tryz.f71.body).getD .skip
noncomputable def ent71 : Entry := ⟨2, [.tmp 0], code71, plans71⟩
theorem good71 : ent71.Good PP 71 := ⟨Tryz.f71, ⟨Tryz.func71, by kernel_rfl, by kernel_rfl, by kernel_rfl⟩, by kernel_rfl, by kernel_rfl⟩
def plans72 : Plans := fun _ => []
noncomputable def code72 : Code := (Tryz.f72.body).getD .skip
noncomputable def ent72 : Entry := ⟨8, [.tmp 2], code72, plans72⟩
theorem good72 : ent72.Good PP 72 := ⟨Tryz.f72, ⟨Tryz.func72, by kernel_rfl, by kernel_rfl, by kernel_rfl⟩, by kernel_rfl, by kernel_rfl⟩
def plans73 : Plans := fun _ => []
noncomputable def code73 : Code := (Tryz.f73.body).getD .skip
noncomputable def ent73 : Entry := ⟨13, [.tmp 4], code73, plans73⟩
theorem good73 : ent73.Good PP 73 := ⟨Tryz.f73, ⟨Tryz.func73, by kernel_rfl, by kernel_rfl, by kernel_rfl⟩, by kernel_rfl, by kernel_rfl⟩
def plans25 : Plans := fun _ => []
noncomputable def code25 : Code := (Tryz.f25.body).getD .skip
noncomputable def ent25 : Entry := ⟨2, [.cell 0 25], code25, plans25⟩
theorem good25 : ent25.Good PP 25 := ⟨Tryz.f25, ⟨Tryz.func25, by kernel_rfl, by kernel_rfl, by kernel_rfl⟩, by kernel_rfl, by kernel_rfl⟩
def plans23 : Plans := fun
  | 2 => [(.op 0, []), (.op 1, []), (.op 2, [0]), (.op 3, [0]), (.op 4, []), (.mk 5, []), (.reveal 5, []), (.op 6, [])]
  | _ => []
noncomputable def code23 : Code := (Tryz.f23.body).getD .skip
noncomputable def ent23 : Entry := ⟨19, [.tmp 4], code23, plans23⟩
theorem good23 : ent23.Good PP 23 := ⟨Tryz.f23, ⟨Tryz.func23, by kernel_rfl, by kernel_rfl, by kernel_rfl⟩, by kernel_rfl, by kernel_rfl⟩
def plans69 : Plans := fun _ => []
noncomputable def code69 : Code := (Tryz.f69.body).getD .skip
noncomputable def ent69 : Entry := ⟨9, [.tmp 2], code69, plans69⟩
theorem good69 : ent69.Good PP 69 := ⟨Tryz.f69, ⟨Tryz.func69, by kernel_rfl, by kernel_rfl, by kernel_rfl⟩, by kernel_rfl, by kernel_rfl⟩
def plans65 : Plans := fun _ => []
noncomputable def code65 : Code := (Tryz.f65.body).getD .skip
noncomputable def ent65 : Entry := ⟨8, [.cell 2 25], code65, plans65⟩
theorem good65 : ent65.Good PP 65 := ⟨Tryz.f65, ⟨Tryz.func65, by kernel_rfl, by kernel_rfl, by kernel_rfl⟩, by kernel_rfl, by kernel_rfl⟩
def plans59 : Plans := fun _ => []
noncomputable def code59 : Code := (Tryz.f59.body).getD .skip
noncomputable def ent59 : Entry := ⟨8, [.tmp 2], code59, plans59⟩
theorem good59 : ent59.Good PP 59 := ⟨Tryz.f59, ⟨Tryz.func59, by kernel_rfl, by kernel_rfl, by kernel_rfl⟩, by kernel_rfl, by kernel_rfl⟩
def plans70 : Plans := fun _ => []
noncomputable def code70 : Code := (Tryz.f70.body).getD .skip
noncomputable def ent70 : Entry := ⟨4, [.tmp 0], code70, plans70⟩
theorem good70 : ent70.Good PP 70 := ⟨Tryz.f70, ⟨Tryz.func70, by kernel_rfl, by kernel_rfl, by kernel_rfl⟩, by kernel_rfl, by kernel_rfl⟩
def plans21 : Plans := fun
  | 3 => [(.op 0, []), (.op 4, []), (.op 1, []), (.op 5, []), (.op 2, []), (.op 6, []), (.op 3, []), (.op 7, []), (.op 8, []), (.op 9, [])]
  | 7 => [(.op 0, []), (.op 4, []), (.op 8, []), (.op 1, []), (.op 5, []), (.op 9, []), (.op 2, []), (.op 6, []), (.op 10, []), (.op 3, []), (.op 7, []), (.op 11, []), (.op 12, []), (.op 13, []), (.op 14, []), (.op 15, []), (.op 16, []), (.op 17, [])]
  | _ => []
noncomputable def code21 : Code := (Tryz.f21.body).getD .skip
noncomputable def ent21 : Entry := ⟨53, [.tmp 2], code21, plans21⟩
theorem good21 : ent21.Good PP 21 := ⟨Tryz.f21, ⟨Tryz.func21, by kernel_rfl, by kernel_rfl, by kernel_rfl⟩, by kernel_rfl, by kernel_rfl⟩
def plans68 : Plans := fun
  | 14 => [(.op 0, []), (.op 1, []), (.op 2, []), (.op 3, []), (.op 5, []), (.op 6, []), (.op 4, [2, 6]), (.op 7, []), (.mk 8, []), (.reveal 8, []), (.op 9, [])]
  | _ => []
noncomputable def code68 : Code := (Tryz.f68.body).getD .skip
noncomputable def ent68 : Entry := ⟨75, [.tmp 6, .tmp 7], code68, plans68⟩
theorem good68 : ent68.Good PP 68 := ⟨Tryz.f68, ⟨Tryz.func68, by kernel_rfl, by kernel_rfl, by kernel_rfl⟩, by kernel_rfl, by kernel_rfl⟩
def plans133 : Plans := fun _ => []
noncomputable def code133 : Code := (Tryz.f133.body).getD .skip
noncomputable def ent133 : Entry := ⟨42, [.tmp 2], code133, plans133⟩
theorem good133 : ent133.Good PP 133 := ⟨Tryz.f133, ⟨Tryz.func133, by kernel_rfl, by kernel_rfl, by kernel_rfl⟩, by kernel_rfl, by kernel_rfl⟩
def plans134 : Plans := fun _ => []
noncomputable def code134 : Code := (Tryz.f134.body).getD .skip
noncomputable def ent134 : Entry := ⟨8, [.tmp 2], code134, plans134⟩
theorem good134 : ent134.Good PP 134 := ⟨Tryz.f134, ⟨Tryz.func134, by kernel_rfl, by kernel_rfl, by kernel_rfl⟩, by kernel_rfl, by kernel_rfl⟩
def plans135 : Plans := fun _ => []
noncomputable def code135 : Code := (Tryz.f135.body).getD .skip
noncomputable def ent135 : Entry := ⟨74, [.cell 2 98, .tmp 3, .tmp 4], code135, plans135⟩
theorem good135 : ent135.Good PP 135 := ⟨Tryz.f135, ⟨Tryz.func135, by kernel_rfl, by kernel_rfl, by kernel_rfl⟩, by kernel_rfl, by kernel_rfl⟩
def plans210 : Plans := fun _ => []
noncomputable def code210 : Code := (Tryz.f210.body).getD .skip
noncomputable def ent210 : Entry := ⟨2, [.tmp 0], code210, plans210⟩
theorem good210 : ent210.Good PP 210 := ⟨Tryz.f210, ⟨Tryz.func210, by kernel_rfl, by kernel_rfl, by kernel_rfl⟩, by kernel_rfl, by kernel_rfl⟩
def plans87 : Plans := fun _ => []
noncomputable def code87 : Code := (Tryz.f87.body).getD .skip
noncomputable def ent87 : Entry := ⟨38, [.tmp 6], code87, plans87⟩
theorem good87 : ent87.Good PP 87 := ⟨Tryz.f87, ⟨Tryz.func87, by kernel_rfl, by kernel_rfl, by kernel_rfl⟩, by kernel_rfl, by kernel_rfl⟩
def plans154 : Plans := fun _ => []
noncomputable def code154 : Code := (Tryz.f154.body).getD .skip
noncomputable def ent154 : Entry := ⟨14, [.tmp 2], code154, plans154⟩
theorem good154 : ent154.Good PP 154 := ⟨Tryz.f154, ⟨Tryz.func154, by kernel_rfl, by kernel_rfl, by kernel_rfl⟩, by kernel_rfl, by kernel_rfl⟩
def plans155 : Plans := fun _ => []
noncomputable def code155 : Code := (Tryz.f155.body).getD .skip
noncomputable def ent155 : Entry := ⟨10, [.tmp 2], code155, plans155⟩
theorem good155 : ent155.Good PP 155 := ⟨Tryz.f155, ⟨Tryz.func155, by kernel_rfl, by kernel_rfl, by kernel_rfl⟩, by kernel_rfl, by kernel_rfl⟩
def plans130 : Plans := fun _ => []
noncomputable def code130 : Code := (Tryz.f130.body).getD .skip
noncomputable def ent130 : Entry := ⟨27, [.tmp 4, .tmp 5], code130, plans130⟩
theorem good130 : ent130.Good PP 130 := ⟨Tryz.f130, ⟨Tryz.func130, by kernel_rfl, by kernel_rfl, by kernel_rfl⟩, by kernel_rfl, by kernel_rfl⟩
def plans136 : Plans := fun _ => []
noncomputable def code136 : Code := (Tryz.f136.body).getD .skip
noncomputable def ent136 : Entry := ⟨46, [.tmp 4], code136, plans136⟩
theorem good136 : ent136.Good PP 136 := ⟨Tryz.f136, ⟨Tryz.func136, by kernel_rfl, by kernel_rfl, by kernel_rfl⟩, by kernel_rfl, by kernel_rfl⟩
def plans55 : Plans := fun
  | 8 => [(.op 0, []), (.op 1, []), (.op 2, []), (.op 7, []), (.op 3, []), (.op 4, []), (.op 5, []), (.op 6, []), (.op 8, [5, 6]), (.op 9, []), (.mk 10, []), (.reveal 10, []), (.op 11, []), (.op 12, [])]
  | _ => []
noncomputable def code55 : Code := (Tryz.f55.body).getD .skip
noncomputable def ent55 : Entry := ⟨39, [.tmp 2], code55, plans55⟩
theorem good55 : ent55.Good PP 55 := ⟨Tryz.f55, ⟨Tryz.func55, by kernel_rfl, by kernel_rfl, by kernel_rfl⟩, by kernel_rfl, by kernel_rfl⟩
def plans128 : Plans := fun _ => []
noncomputable def code128 : Code := (Tryz.f128.body).getD .skip
noncomputable def ent128 : Entry := ⟨14, [], code128, plans128⟩
theorem good128 : ent128.Good PP 128 := ⟨Tryz.f128, ⟨Tryz.func128, by kernel_rfl, by kernel_rfl, by kernel_rfl⟩, by kernel_rfl, by kernel_rfl⟩
def plans143 : Plans := fun _ => []
noncomputable def code143 : Code := (Tryz.f143.body).getD .skip
noncomputable def ent143 : Entry := ⟨8, [.tmp 2], code143, plans143⟩
theorem good143 : ent143.Good PP 143 := ⟨Tryz.f143, ⟨Tryz.func143, by kernel_rfl, by kernel_rfl, by kernel_rfl⟩, by kernel_rfl, by kernel_rfl⟩
def plans227 : Plans := fun _ => []
noncomputable def code227 : Code := (Tryz.f227.body).getD .skip
noncomputable def ent227 : Entry := ⟨25, [.tmp 2], code227, plans227⟩
theorem good227 : ent227.Good PP 227 := ⟨Tryz.f227, ⟨Tryz.func227, by kernel_rfl, by kernel_rfl, by kernel_rfl⟩, by kernel_rfl, by kernel_rfl⟩
def plans206 : Plans := fun
  | 17 => [(.op 0, []), (.op 1, []), (.op 2, []), (.op 3, []), (.op 4, []), (.op 5, []), (.op 9, []), (.op 10, []), (.op 6, []), (.op 11, []), (.op 7, []), (.op 12, []), (.op 8, []), (.op 13, []), (.op 14, []), (.op 15, []), (.op 16, [])]
  | _ => []
noncomputable def code206 : Code := (Tryz.f206.body).getD .skip
noncomputable def ent206 : Entry := ⟨148, [], code206, plans206⟩
theorem good206 : ent206.Good PP 206 := ⟨Tryz.f206, ⟨Tryz.func206, by kernel_rfl, by kernel_rfl, by kernel_rfl⟩, by kernel_rfl, by kernel_rfl⟩
def plans274 : Plans := fun
  | 4 => [(.op 0, []), (.op 1, []), (.op 2, []), (.op 3, []), (.op 4, []), (.op 5, []), (.op 6, []), (.op 9, []), (.op 10, []), (.op 11, []), (.op 7, []), (.op 8, []), (.op 12, []), (.op 13, []), (.op 14, []), (.op 15, []), (.op 16, [])]
  | 6 => [(.op 0, []), (.op 1, []), (.op 2, []), (.op 3, []), (.op 5, []), (.op 6, []), (.op 10, []), (.op 11, []), (.op 4, []), (.op 7, []), (.op 12, []), (.op 8, []), (.op 13, []), (.op 9, []), (.op 14, []), (.op 15, []), (.op 16, []), (.op 17, [])]
  | _ => []
noncomputable def code274 : Code := (Tryz.f274.body).getD .skip
noncomputable def ent274 : Entry := ⟨53, [], code274, plans274⟩
theorem good274 : ent274.Good PP 274 := ⟨Tryz.f274, ⟨Tryz.func274, by kernel_rfl, by kernel_rfl, by kernel_rfl⟩, by kernel_rfl, by kernel_rfl⟩
def plans132 : Plans := fun
  | 11 => [(.op 0, []), (.op 1, []), (.op 3, []), (.op 2, [3]), (.op 4, []), (.mk 5, []), (.reveal 5, []), (.op 6, [])]
  | _ => []
noncomputable def code132 : Code := (Tryz.f132.body).getD .skip
noncomputable def ent132 : Entry := ⟨74, [.tmp 4, .tmp 5], code132, plans132⟩
theorem good132 : ent132.Good PP 132 := ⟨Tryz.f132, ⟨Tryz.func132, by kernel_rfl, by kernel_rfl, by kernel_rfl⟩, by kernel_rfl, by kernel_rfl⟩
def plans116 : Plans := fun _ => []
noncomputable def code116 : Code := (Tryz.f116.body).getD .skip
noncomputable def ent116 : Entry := ⟨86, [.tmp 2], code116, plans116⟩
theorem good116 : ent116.Good PP 116 := ⟨Tryz.f116, ⟨Tryz.func116, by kernel_rfl, by kernel_rfl, by kernel_rfl⟩, by kernel_rfl, by kernel_rfl⟩
def plans188 : Plans := fun _ => []
noncomputable def code188 : Code := (Tryz.f188.body).getD .skip
noncomputable def ent188 : Entry := ⟨49, [.tmp 2], code188, plans188⟩
theorem good188 : ent188.Good PP 188 := ⟨Tryz.f188, ⟨Tryz.func188, by kernel_rfl, by kernel_rfl, by kernel_rfl⟩, by kernel_rfl, by kernel_rfl⟩
def plans259 : Plans := fun _ => []
noncomputable def code259 : Code := (Tryz.f259.body).getD .skip
noncomputable def ent259 : Entry := ⟨15, [.tmp 6], code259, plans259⟩
theorem good259 : ent259.Good PP 259 := ⟨Tryz.f259, ⟨Tryz.func259, by kernel_rfl, by kernel_rfl, by kernel_rfl⟩, by kernel_rfl, by kernel_rfl⟩
def plans263 : Plans := fun _ => []
noncomputable def code263 : Code := (Tryz.f263.body).getD .skip
noncomputable def ent263 : Entry := ⟨9, [.tmp 4], code263, plans263⟩
theorem good263 : ent263.Good PP 263 := ⟨Tryz.f263, ⟨Tryz.func263, by kernel_rfl, by kernel_rfl, by kernel_rfl⟩, by kernel_rfl, by kernel_rfl⟩
def plans256 : Plans := fun _ => []
noncomputable def code256 : Code := (Tryz.f256.body).getD .skip
noncomputable def ent256 : Entry := ⟨19, [.tmp 4], code256, plans256⟩
theorem good256 : ent256.Good PP 256 := ⟨Tryz.f256, ⟨Tryz.func256, by kernel_rfl, by kernel_rfl, by kernel_rfl⟩, by kernel_rfl, by kernel_rfl⟩
def plans264 : Plans := fun _ => []
noncomputable def code264 : Code := (Tryz.f264.body).getD .skip
noncomputable def ent264 : Entry := ⟨9, [.tmp 4], code264, plans264⟩
theorem good264 : ent264.Good PP 264 := ⟨Tryz.f264, ⟨Tryz.func264, by kernel_rfl, by kernel_rfl, by kernel_rfl⟩, by kernel_rfl, by kernel_rfl⟩
def plans311 : Plans := fun _ => []
noncomputable def code311 : Code := (Tryz.f311.body).getD .skip
noncomputable def ent311 : Entry := ⟨19, [.tmp 4], code311, plans311⟩
theorem good311 : ent311.Good PP 311 := ⟨Tryz.f311, ⟨Tryz.func311, by kernel_rfl, by kernel_rfl, by kernel_rfl⟩, by kernel_rfl, by kernel_rfl⟩
def plans156 : Plans := fun _ => []
noncomputable def code156 : Code := (Tryz.f156.body).getD .skip
noncomputable def ent156 : Entry := ⟨9, [.tmp 2], code156, plans156⟩
theorem good156 : ent156.Good PP 156 := ⟨Tryz.f156, ⟨Tryz.func156, by kernel_rfl, by kernel_rfl, by kernel_rfl⟩, by kernel_rfl, by kernel_rfl⟩
def plans157 : Plans := fun _ => []
noncomputable def code157 : Code := (Tryz.f157.body).getD .skip
noncomputable def ent157 : Entry := ⟨5, [.tmp 2], code157, plans157⟩
theorem good157 : ent157.Good PP 157 := ⟨Tryz.f157, ⟨Tryz.func157, by kernel_rfl, by kernel_rfl, by kernel_rfl⟩, by kernel_rfl, by kernel_rfl⟩
def plans229 : Plans := fun _ => []
noncomputable def code229 : Code := (Tryz.f229.body).getD .skip
noncomputable def ent229 : Entry := ⟨5, [.tmp 2], code229, plans229⟩
theorem good229 : ent229.Good PP 229 := ⟨Tryz.f229, ⟨Tryz.func229, by kernel_rfl, by kernel_rfl, by kernel_rfl⟩, by kernel_rfl, by kernel_rfl⟩
def plans292 : Plans := fun _ => []
noncomputable def code292 : Code := (Tryz.f292.body).getD .skip
noncomputable def ent292 : Entry := ⟨54, [.tmp 4], code292, plans292⟩
theorem good292 : ent292.Good PP 292 := ⟨Tryz.f292, ⟨Tryz.func292, by kernel_rfl, by kernel_rfl, by kernel_rfl⟩, by kernel_rfl, by kernel_rfl⟩
def plans350 : Plans := fun _ => []
noncomputable def code350 : Code := (Tryz.f350.body).getD .skip
noncomputable def ent350 : Entry := ⟨15, [.tmp 2], code350, plans350⟩
theorem good350 : ent350.Good PP 350 := ⟨Tryz.f350, ⟨Tryz.func350, by kernel_rfl, by kernel_rfl, by kernel_rfl⟩, by kernel_rfl, by kernel_rfl⟩
def plans97 : Plans := fun
  | 1 => [(.op 0, []), (.op 2, []), (.op 4, []), (.op 6, []), (.op 8, []), (.op 1, []), (.op 3, []), (.op 5, []), (.op 7, []), (.op 9, []), (.op 10, [1, 3, 5, 7]), (.op 11, []), (.op 12, [])]
  | _ => []
noncomputable def code97 : Code := (Tryz.f97.body).getD .skip
noncomputable def ent97 : Entry := ⟨15, [.cell 2 181], code97, plans97⟩
theorem good97 : ent97.Good PP 97 := ⟨Tryz.f97, ⟨Tryz.func97, by kernel_rfl, by kernel_rfl, by kernel_rfl⟩, by kernel_rfl, by kernel_rfl⟩
def plans171 : Plans := fun _ => []
noncomputable def code171 : Code := (Tryz.f171.body).getD .skip
noncomputable def ent171 : Entry := ⟨8, [.tmp 2], code171, plans171⟩
theorem good171 : ent171.Good PP 171 := ⟨Tryz.f171, ⟨Tryz.func171, by kernel_rfl, by kernel_rfl, by kernel_rfl⟩, by kernel_rfl, by kernel_rfl⟩
def plans118 : Plans := fun
  | 10 => [(.op 0, []), (.op 1, []), (.op 2, []), (.op 3, [0]), (.op 4, []), (.op 5, [])]
  | 11 => [(.op 0, []), (.op 1, []), (.op 2, []), (.op 3, [0]), (.op 4, []), (.op 5, [])]
  | 12 => [(.op 0, []), (.op 1, []), (.op 3, []), (.op 5, []), (.op 2, []), (.op 4, []), (.op 6, [2, 4]), (.mk 7, []), (.reveal 7, []), (.op 8, [])]
  | _ => []
noncomputable def code118 : Code := (Tryz.f118.body).getD .skip
noncomputable def ent118 : Entry := ⟨72, [.tmp 2], code118, plans118⟩
theorem good118 : ent118.Good PP 118 := ⟨Tryz.f118, ⟨Tryz.func118, by kernel_rfl, by kernel_rfl, by kernel_rfl⟩, by kernel_rfl, by kernel_rfl⟩
def plans192 : Plans := fun
  | 1 => [(.op 0, []), (.op 1, []), (.op 2, []), (.op 3, []), (.op 4, [0]), (.op 5, []), (.op 6, [])]
  | _ => []
noncomputable def code192 : Code := (Tryz.f192.body).getD .skip
noncomputable def ent192 : Entry := ⟨14, [], code192, plans192⟩
theorem good192 : ent192.Good PP 192 := ⟨Tryz.f192, ⟨Tryz.func192, by kernel_rfl, by kernel_rfl, by kernel_rfl⟩, by kernel_rfl, by kernel_rfl⟩
def plans146 : Plans := fun _ => []
noncomputable def code146 : Code := (Tryz.f146.body).getD .skip
noncomputable def ent146 : Entry := ⟨21, [.tmp 2], code146, plans146⟩
theorem good146 : ent146.Good PP 146 := ⟨Tryz.f146, ⟨Tryz.func146, by kernel_rfl, by kernel_rfl, by kernel_rfl⟩, by kernel_rfl, by kernel_rfl⟩
def plans79 : Plans := fun _ => []
noncomputable def code79 : Code := (Tryz.f79.body).getD .skip
noncomputable def ent79 : Entry := ⟨15, [.tmp 2], code79, plans79⟩
theorem good79 : ent79.Good PP 79 := ⟨Tryz.f79, ⟨Tryz.func79, by kernel_rfl, by kernel_rfl, by kernel_rfl⟩, by kernel_rfl, by kernel_rfl⟩
def plans149 : Plans := fun _ => []
noncomputable def code149 : Code := (Tryz.f149.body).getD .skip
noncomputable def ent149 : Entry := ⟨32, [.tmp 4], code149, plans149⟩
theorem good149 : ent149.Good PP 149 := ⟨Tryz.f149, ⟨Tryz.func149, by kernel_rfl, by kernel_rfl, by kernel_rfl⟩, by kernel_rfl, by kernel_rfl⟩
def plans150 : Plans := fun _ => []
noncomputable def code150 : Code := (Tryz.f150.body).getD .skip
noncomputable def ent150 : Entry := ⟨31, [.tmp 2], code150, plans150⟩
theorem good150 : ent150.Good PP 150 := ⟨Tryz.f150, ⟨Tryz.func150, by kernel_rfl, by kernel_rfl, by kernel_rfl⟩, by kernel_rfl, by kernel_rfl⟩
def plans148 : Plans := fun _ => []
noncomputable def code148 : Code := (Tryz.f148.body).getD .skip
noncomputable def ent148 : Entry := ⟨36, [.tmp 2], code148, plans148⟩
theorem good148 : ent148.Good PP 148 := ⟨Tryz.f148, ⟨Tryz.func148, by kernel_rfl, by kernel_rfl, by kernel_rfl⟩, by kernel_rfl, by kernel_rfl⟩
def plans228 : Plans := fun _ => []
noncomputable def code228 : Code := (Tryz.f228.body).getD .skip
noncomputable def ent228 : Entry := ⟨27, [.tmp 4], code228, plans228⟩
theorem good228 : ent228.Good PP 228 := ⟨Tryz.f228, ⟨Tryz.func228, by kernel_rfl, by kernel_rfl, by kernel_rfl⟩, by kernel_rfl, by kernel_rfl⟩
def plans208 : Plans := fun _ => []
noncomputable def code208 : Code := (Tryz.f208.body).getD .skip
noncomputable def ent208 : Entry := ⟨25, [.tmp 6], code208, plans208⟩
theorem good208 : ent208.Good PP 208 := ⟨Tryz.f208, ⟨Tryz.func208, by kernel_rfl, by kernel_rfl, by kernel_rfl⟩, by kernel_rfl, by kernel_rfl⟩
def plans81 : Plans := fun
  | 7 => [(.op 0, []), (.op 4, []), (.op 1, []), (.op 2, []), (.op 3, []), (.op 5, []), (.op 6, []), (.op 7, [])]
  | _ => []
noncomputable def code81 : Code := (Tryz.f81.body).getD .skip
noncomputable def ent81 : Entry := ⟨28, [.tmp 4], code81, plans81⟩
theorem good81 : ent81.Good PP 81 := ⟨Tryz.f81, ⟨Tryz.func81, by kernel_rfl, by kernel_rfl, by kernel_rfl⟩, by kernel_rfl, by kernel_rfl⟩
def plans152 : Plans := fun _ => []
noncomputable def code152 : Code := (Tryz.f152.body).getD .skip
noncomputable def ent152 : Entry := ⟨45, [.tmp 2], code152, plans152⟩
theorem good152 : ent152.Good PP 152 := ⟨Tryz.f152, ⟨Tryz.func152, by kernel_rfl, by kernel_rfl, by kernel_rfl⟩, by kernel_rfl, by kernel_rfl⟩
def plans84 : Plans := fun
  | 2 => [(.op 0, []), (.op 1, []), (.op 2, []), (.op 3, []), (.op 4, []), (.op 5, []), (.op 6, []), (.op 7, []), (.op 11, []), (.op 8, []), (.op 12, []), (.op 9, []), (.op 13, []), (.op 10, []), (.op 14, []), (.op 15, []), (.op 16, []), (.op 17, [])]
  | _ => []
noncomputable def code84 : Code := (Tryz.f84.body).getD .skip
noncomputable def ent84 : Entry := ⟨42, [.tmp 4], code84, plans84⟩
theorem good84 : ent84.Good PP 84 := ⟨Tryz.f84, ⟨Tryz.func84, by kernel_rfl, by kernel_rfl, by kernel_rfl⟩, by kernel_rfl, by kernel_rfl⟩
def plans153 : Plans := fun _ => []
noncomputable def code153 : Code := (Tryz.f153.body).getD .skip
noncomputable def ent153 : Entry := ⟨8, [], code153, plans153⟩
theorem good153 : ent153.Good PP 153 := ⟨Tryz.f153, ⟨Tryz.func153, by kernel_rfl, by kernel_rfl, by kernel_rfl⟩, by kernel_rfl, by kernel_rfl⟩
def plans123 : Plans := fun
  | 1 => [(.op 0, []), (.op 4, []), (.op 1, []), (.op 2, []), (.op 3, []), (.op 5, [])]
  | 2 => [(.op 0, []), (.op 1, []), (.op 5, []), (.op 2, []), (.mk 6, []), (.op 3, []), (.op 4, []), (.reveal 6, []), (.op 7, []), (.op 8, []), (.op 9, []), (.op 10, [])]
  | _ => []
noncomputable def code123 : Code := (Tryz.f123.body).getD .skip
noncomputable def ent123 : Entry := ⟨20, [], code123, plans123⟩
theorem good123 : ent123.Good PP 123 := ⟨Tryz.f123, ⟨Tryz.func123, by kernel_rfl, by kernel_rfl, by kernel_rfl⟩, by kernel_rfl, by kernel_rfl⟩
def plans61 : Plans := fun _ => []
noncomputable def code61 : Code := (Tryz.f61.body).getD .skip
noncomputable def ent61 : Entry := ⟨44, [], code61, plans61⟩
theorem good61 : ent61.Good PP 61 := ⟨Tryz.f61, ⟨Tryz.func61, by kernel_rfl, by kernel_rfl, by kernel_rfl⟩, by kernel_rfl, by kernel_rfl⟩
def plans31 : Plans := fun
  | 12 => [(.op 0, []), (.op 2, []), (.op 3, []), (.op 6, []), (.op 14, []), (.op 4, []), (.op 7, []), (.op 15, []), (.op 8, []), (.op 16, []), (.op 5, []), (.op 9, []), (.op 17, []), (.op 10, []), (.op 18, []), (.op 11, []), (.op 12, []), (.op 1, [6, 9, 18]), (.op 13, []), (.op 19, []), (.op 20, [])]
  | _ => []
noncomputable def code31 : Code := (Tryz.f31.body).getD .skip
noncomputable def ent31 : Entry := ⟨73, [.tmp 8], code31, plans31⟩
theorem good31 : ent31.Good PP 31 := ⟨Tryz.f31, ⟨Tryz.func31, by kernel_rfl, by kernel_rfl, by kernel_rfl⟩, by kernel_rfl, by kernel_rfl⟩
def plans83 : Plans := fun _ => []
noncomputable def code83 : Code := (Tryz.f83.body).getD .skip
noncomputable def ent83 : Entry := ⟨8, [.tmp 2], code83, plans83⟩
theorem good83 : ent83.Good PP 83 := ⟨Tryz.f83, ⟨Tryz.func83, by kernel_rfl, by kernel_rfl, by kernel_rfl⟩, by kernel_rfl, by kernel_rfl⟩
def plans85 : Plans := fun
  | 0 => [(.op 0, []), (.op 1, []), (.op 5, []), (.op 2, []), (.mk 6, []), (.op 3, []), (.op 4, []), (.reveal 6, []), (.op 7, [0]), (.op 8, []), (.op 9, []), (.op 10, [])]
  | 1 => [(.op 0, []), (.op 1, []), (.op 5, []), (.op 2, []), (.op 3, []), (.op 4, []), (.op 6, [0]), (.op 7, []), (.op 8, []), (.op 9, [])]
  | _ => []
noncomputable def code85 : Code := (Tryz.f85.body).getD .skip
noncomputable def ent85 : Entry := ⟨21, [], code85, plans85⟩
theorem good85 : ent85.Good PP 85 := ⟨Tryz.f85, ⟨Tryz.func85, by kernel_rfl, by kernel_rfl, by kernel_rfl⟩, by kernel_rfl, by kernel_rfl⟩
def plans86 : Plans := fun
  | 1 => [(.op 0, []), (.op 1, []), (.op 4, []), (.op 2, []), (.op 5, []), (.op 3, []), (.op 6, []), (.op 7, [])]
  | _ => []
noncomputable def code86 : Code := (Tryz.f86.body).getD .skip
noncomputable def ent86 : Entry := ⟨19, [.tmp 4], code86, plans86⟩
theorem good86 : ent86.Good PP 86 := ⟨Tryz.f86, ⟨Tryz.func86, by kernel_rfl, by kernel_rfl, by kernel_rfl⟩, by kernel_rfl, by kernel_rfl⟩
def plans80 : Plans := fun _ => []
noncomputable def code80 : Code := (Tryz.f80.body).getD .skip
noncomputable def ent80 : Entry := ⟨26, [.tmp 4], code80, plans80⟩
theorem good80 : ent80.Good PP 80 := ⟨Tryz.f80, ⟨Tryz.func80, by kernel_rfl, by kernel_rfl, by kernel_rfl⟩, by kernel_rfl, by kernel_rfl⟩
def plans151 : Plans := fun _ => []
noncomputable def code151 : Code := (Tryz.f151.body).getD .skip
noncomputable def ent151 : Entry := ⟨13, [], code151, plans151⟩
theorem good151 : ent151.Good PP 151 := ⟨Tryz.f151, ⟨Tryz.func151, by kernel_rfl, by kernel_rfl, by kernel_rfl⟩, by kernel_rfl, by kernel_rfl⟩
def plans209 : Plans := fun _ => []
noncomputable def code209 : Code := (Tryz.f209.body).getD .skip
noncomputable def ent209 : Entry := ⟨48, [.tmp 4], code209, plans209⟩
theorem good209 : ent209.Good PP 209 := ⟨Tryz.f209, ⟨Tryz.func209, by kernel_rfl, by kernel_rfl, by kernel_rfl⟩, by kernel_rfl, by kernel_rfl⟩
def plans88 : Plans := fun _ => []
noncomputable def code88 : Code := (Tryz.f88.body).getD .skip
noncomputable def ent88 : Entry := ⟨14, [.tmp 2], code88, plans88⟩
theorem good88 : ent88.Good PP 88 := ⟨Tryz.f88, ⟨Tryz.func88, by kernel_rfl, by kernel_rfl, by kernel_rfl⟩, by kernel_rfl, by kernel_rfl⟩
def plans158 : Plans := fun
  | 0 => [(.op 0, []), (.op 1, []), (.op 2, []), (.op 3, []), (.op 4, []), (.op 5, []), (.op 6, [0, 1]), (.op 7, []), (.op 8, []), (.op 9, [1]), (.op 10, []), (.op 11, []), (.op 12, [])]
  | _ => []
noncomputable def code158 : Code := (Tryz.f158.body).getD .skip
noncomputable def ent158 : Entry := ⟨12, [], code158, plans158⟩
theorem good158 : ent158.Good PP 158 := ⟨Tryz.f158, ⟨Tryz.func158, by kernel_rfl, by kernel_rfl, by kernel_rfl⟩, by kernel_rfl, by kernel_rfl⟩
def plans283 : Plans := fun
  | 7 => [(.op 0, []), (.op 4, []), (.op 1, []), (.op 2, []), (.op 3, []), (.op 5, []), (.op 6, []), (.op 7, [])]
  | _ => []
noncomputable def code283 : Code := (Tryz.f283.body).getD .skip
noncomputable def ent283 : Entry := ⟨30, [.tmp 6], code283, plans283⟩
theorem good283 : ent283.Good PP 283 := ⟨Tryz.f283, ⟨Tryz.func283, by kernel_rfl, by kernel_rfl, by kernel_rfl⟩, by kernel_rfl, by kernel_rfl⟩
def plans339 : Plans := fun _ => []
noncomputable def code339 : Code := (Tryz.f339.body).getD .skip
noncomputable def ent339 : Entry := ⟨8, [], code339, plans339⟩
theorem good339 : ent339.Good PP 339 := ⟨Tryz.f339, ⟨Tryz.func339, by kernel_rfl, by kernel_rfl, by kernel_rfl⟩, by kernel_rfl, by kernel_rfl⟩
def plans107 : Plans := fun _ => []
noncomputable def code107 : Code := (Tryz.f107.body).getD .skip
noncomputable def ent107 : Entry := ⟨6, [.tmp 0], code107, plans107⟩
theorem good107 : ent107.Good PP 107 := ⟨Tryz.f107, ⟨Tryz.func107, by kernel_rfl, by kernel_rfl, by kernel_rfl⟩, by kernel_rfl, by kernel_rfl⟩
def plans137 : Plans := fun _ => []
noncomputable def code137 : Code := (Tryz.f137.body).getD .skip
noncomputable def ent137 : Entry := ⟨91, [], code137, plans137⟩
theorem good137 : ent137.Good PP 137 := ⟨Tryz.f137, ⟨Tryz.func137, by kernel_rfl, by kernel_rfl, by kernel_rfl⟩, by kernel_rfl, by kernel_rfl⟩
def plans129 : Plans := fun _ => []
noncomputable def code129 : Code := (Tryz.f129.body).getD .skip
noncomputable def ent129 : Entry := ⟨8, [.tmp 4], code129, plans129⟩
theorem good129 : ent129.Good PP 129 := ⟨Tryz.f129, ⟨Tryz.func129, by kernel_rfl, by kernel_rfl, by kernel_rfl⟩, by kernel_rfl, by kernel_rfl⟩
def plans207 : Plans := fun _ => []
noncomputable def code207 : Code := (Tryz.f207.body).getD .skip
noncomputable def ent207 : Entry := ⟨8, [.tmp 4], code207, plans207⟩
theorem good207 : ent207.Good PP 207 := ⟨Tryz.f207, ⟨Tryz.func207, by kernel_rfl, by kernel_rfl, by kernel_rfl⟩, by kernel_rfl, by kernel_rfl⟩
def plans63 : Plans := fun _ => []
noncomputable def code63 : Code := (Tryz.f63.body).getD .skip
noncomputable def ent63 : Entry := ⟨22, [.tmp 2], code63, plans63⟩
theorem good63 : ent63.Good PP 63 := ⟨Tryz.f63, ⟨Tryz.func63, by kernel_rfl, by kernel_rfl, by kernel_rfl⟩, by kernel_rfl, by kernel_rfl⟩
def plans120 : Plans := fun _ => []
noncomputable def code120 : Code := (Tryz.f120.body).getD .skip
noncomputable def ent120 : Entry := ⟨67, [.tmp 2, .tmp 3, .tmp 4], code120, plans120⟩
theorem good120 : ent120.Good PP 120 := ⟨Tryz.f120, ⟨Tryz.func120, by kernel_rfl, by kernel_rfl, by kernel_rfl⟩, by kernel_rfl, by kernel_rfl⟩
def plans197 : Plans := fun _ => []
noncomputable def code197 : Code := (Tryz.f197.body).getD .skip
noncomputable def ent197 : Entry := ⟨11, [.tmp 4, .tmp 5], code197, plans197⟩
theorem good197 : ent197.Good PP 197 := ⟨Tryz.f197, ⟨Tryz.func197, by kernel_rfl, by kernel_rfl, by kernel_rfl⟩, by kernel_rfl, by kernel_rfl⟩
def plans267 : Plans := fun _ => []
noncomputable def code267 : Code := (Tryz.f267.body).getD .skip
noncomputable def ent267 : Entry := ⟨15, [.tmp 4, .tmp 5], code267, plans267⟩
theorem good267 : ent267.Good PP 267 := ⟨Tryz.f267, ⟨Tryz.func267, by kernel_rfl, by kernel_rfl, by kernel_rfl⟩, by kernel_rfl, by kernel_rfl⟩
def plans330 : Plans := fun _ => []
noncomputable def code330 : Code := (Tryz.f330.body).getD .skip
noncomputable def ent330 : Entry := ⟨18, [.tmp 4], code330, plans330⟩
theorem good330 : ent330.Good PP 330 := ⟨Tryz.f330, ⟨Tryz.func330, by kernel_rfl, by kernel_rfl, by kernel_rfl⟩, by kernel_rfl, by kernel_rfl⟩
def plans199 : Plans := fun _ => []
noncomputable def code199 : Code := (Tryz.f199.body).getD .skip
noncomputable def ent199 : Entry := ⟨24, [.tmp 2, .tmp 3], code199, plans199⟩
theorem good199 : ent199.Good PP 199 := ⟨Tryz.f199, ⟨Tryz.func199, by kernel_rfl, by kernel_rfl, by kernel_rfl⟩, by kernel_rfl, by kernel_rfl⟩
def plans269 : Plans := fun _ => []
noncomputable def code269 : Code := (Tryz.f269.body).getD .skip
noncomputable def ent269 : Entry := ⟨18, [.tmp 2, .tmp 3], code269, plans269⟩
theorem good269 : ent269.Good PP 269 := ⟨Tryz.f269, ⟨Tryz.func269, by kernel_rfl, by kernel_rfl, by kernel_rfl⟩, by kernel_rfl, by kernel_rfl⟩
def plans332 : Plans := fun _ => []
noncomputable def code332 : Code := (Tryz.f332.body).getD .skip
noncomputable def ent332 : Entry := ⟨77, [.tmp 2, .tmp 3], code332, plans332⟩
theorem good332 : ent332.Good PP 332 := ⟨Tryz.f332, ⟨Tryz.func332, by kernel_rfl, by kernel_rfl, by kernel_rfl⟩, by kernel_rfl, by kernel_rfl⟩
def plans213 : Plans := fun _ => []
noncomputable def code213 : Code := (Tryz.f213.body).getD .skip
noncomputable def ent213 : Entry := ⟨14, [], code213, plans213⟩
theorem good213 : ent213.Good PP 213 := ⟨Tryz.f213, ⟨Tryz.func213, by kernel_rfl, by kernel_rfl, by kernel_rfl⟩, by kernel_rfl, by kernel_rfl⟩
def plans284 : Plans := fun
  | 17 => [(.op 0, []), (.op 1, []), (.op 2, []), (.op 3, []), (.op 4, []), (.op 5, []), (.op 9, []), (.op 10, []), (.op 6, []), (.op 11, []), (.op 7, []), (.op 12, []), (.op 8, []), (.op 13, []), (.op 14, []), (.op 15, []), (.op 16, [])]
  | _ => []
noncomputable def code284 : Code := (Tryz.f284.body).getD .skip
noncomputable def ent284 : Entry := ⟨148, [], code284, plans284⟩
theorem good284 : ent284.Good PP 284 := ⟨Tryz.f284, ⟨Tryz.func284, by kernel_rfl, by kernel_rfl, by kernel_rfl⟩, by kernel_rfl, by kernel_rfl⟩
def plans340 : Plans := fun
  | 4 => [(.op 0, []), (.op 1, []), (.op 2, []), (.op 3, []), (.op 4, []), (.op 5, []), (.op 6, []), (.op 9, []), (.op 10, []), (.op 11, []), (.op 7, []), (.op 8, []), (.op 12, []), (.op 13, []), (.op 14, []), (.op 15, []), (.op 16, [])]
  | 6 => [(.op 0, []), (.op 1, []), (.op 2, []), (.op 3, []), (.op 5, []), (.op 6, []), (.op 10, []), (.op 11, []), (.op 4, []), (.op 7, []), (.op 12, []), (.op 8, []), (.op 13, []), (.op 9, []), (.op 14, []), (.op 15, []), (.op 16, []), (.op 17, [])]
  | _ => []
noncomputable def code340 : Code := (Tryz.f340.body).getD .skip
noncomputable def ent340 : Entry := ⟨53, [], code340, plans340⟩
theorem good340 : ent340.Good PP 340 := ⟨Tryz.f340, ⟨Tryz.func340, by kernel_rfl, by kernel_rfl, by kernel_rfl⟩, by kernel_rfl, by kernel_rfl⟩
def plans215 : Plans := fun
  | 11 => [(.op 0, []), (.op 1, []), (.op 4, []), (.mk 2, []), (.op 5, []), (.reveal 2, []), (.op 3, [5]), (.op 6, []), (.op 7, [])]
  | _ => []
noncomputable def code215 : Code := (Tryz.f215.body).getD .skip
noncomputable def ent215 : Entry := ⟨49, [.tmp 4], code215, plans215⟩
theorem good215 : ent215.Good PP 215 := ⟨Tryz.f215, ⟨Tryz.func215, by kernel_rfl, by kernel_rfl, by kernel_rfl⟩, by kernel_rfl, by kernel_rfl⟩
def plans138 : Plans := fun
  | 2 => [(.op 0, []), (.op 1, []), (.op 3, []), (.mk 2, []), (.mk 4, []), (.reveal 2, []), (.reveal 4, []), (.op 5, []), (.mk 6, []), (.reveal 6, []), (.op 7, [])]
  | 7 => [(.op 0, []), (.op 1, []), (.op 2, []), (.op 3, []), (.op 7, []), (.op 4, []), (.op 5, []), (.op 6, []), (.op 8, []), (.op 9, [])]
  | 8 => [(.op 0, []), (.op 4, []), (.op 5, []), (.op 1, []), (.op 2, []), (.op 3, []), (.op 6, []), (.op 7, [])]
  | _ => []
noncomputable def code138 : Code := (Tryz.f138.body).getD .skip
noncomputable def ent138 : Entry := ⟨51, [.tmp 4], code138, plans138⟩
theorem good138 : ent138.Good PP 138 := ⟨Tryz.f138, ⟨Tryz.func138, by kernel_rfl, by kernel_rfl, by kernel_rfl⟩, by kernel_rfl, by kernel_rfl⟩
def plans216 : Plans := fun
  | 9 => [(.op 0, []), (.op 1, []), (.op 5, []), (.op 7, []), (.op 8, []), (.op 2, []), (.op 9, []), (.op 3, []), (.op 10, []), (.op 4, []), (.op 6, []), (.op 11, [3, 4]), (.op 12, []), (.op 13, []), (.op 14, [])]
  | _ => []
noncomputable def code216 : Code := (Tryz.f216.body).getD .skip
noncomputable def ent216 : Entry := ⟨75, [.cell 4 300, .tmp 5, .tmp 6], code216, plans216⟩
theorem good216 : ent216.Good PP 216 := ⟨Tryz.f216, ⟨Tryz.func216, by kernel_rfl, by kernel_rfl, by kernel_rfl⟩, by kernel_rfl, by kernel_rfl⟩
def plans165 : Plans := fun
  | 10 => [(.op 0, []), (.op 4, []), (.op 5, []), (.op 6, []), (.op 7, []), (.op 12, []), (.op 1, []), (.op 8, []), (.op 2, []), (.op 9, []), (.op 3, []), (.op 10, []), (.op 11, []), (.op 13, []), (.op 14, []), (.op 15, []), (.op 16, []), (.op 17, []), (.op 18, []), (.op 19, [])]
  | _ => []
noncomputable def code165 : Code := (Tryz.f165.body).getD .skip
noncomputable def ent165 : Entry := ⟨61, [.tmp 8, .tmp 9], code165, plans165⟩
theorem good165 : ent165.Good PP 165 := ⟨Tryz.f165, ⟨Tryz.func165, by kernel_rfl, by kernel_rfl, by kernel_rfl⟩, by kernel_rfl, by kernel_rfl⟩
def plans139 : Plans := fun _ => []
noncomputable def code139 : Code := (Tryz.f139.body).getD .skip
noncomputable def ent139 : Entry := ⟨11, [.tmp 2], code139, plans139⟩
theorem good139 : ent139.Good PP 139 := ⟨Tryz.f139, ⟨Tryz.func139, by kernel_rfl, by kernel_rfl, by kernel_rfl⟩, by kernel_rfl, by kernel_rfl⟩
def plans11 : Plans := fun _ => []
noncomputable def code11 : Code := (Tryz.f11.body).getD .skip
noncomputable def ent11 : Entry := ⟨45, [.tmp 6, .tmp 7, .tmp 8], code11, plans11⟩
theorem good11 : ent11.Good PP 11 := ⟨Tryz.f11, ⟨Tryz.func11, by kernel_rfl, by kernel_rfl, by kernel_rfl⟩, by kernel_rfl, by kernel_rfl⟩
def plans35 : Plans := fun _ => []
noncomputable def code35 : Code := (Tryz.f35.body).getD .skip
noncomputable def ent35 : Entry := ⟨30, [.tmp 4, .tmp 5], code35, plans35⟩
theorem good35 : ent35.Good PP 35 := ⟨Tryz.f35, ⟨Tryz.func35, by kernel_rfl, by kernel_rfl, by kernel_rfl⟩, by kernel_rfl, by kernel_rfl⟩
def plans36 : Plans := fun _ => []
noncomputable def code36 : Code := (Tryz.f36.body).getD .skip
noncomputable def ent36 : Entry := ⟨69, [.cell 6 90, .tmp 7, .tmp 8], code36, plans36⟩
theorem good36 : ent36.Good PP 36 := ⟨Tryz.f36, ⟨Tryz.func36, by kernel_rfl, by kernel_rfl, by kernel_rfl⟩, by kernel_rfl, by kernel_rfl⟩
def plans93 : Plans := fun
  | 3 => [(.op 0, []), (.op 4, []), (.op 5, []), (.op 6, []), (.op 1, []), (.op 2, []), (.op 7, []), (.op 3, []), (.op 8, [3]), (.op 9, []), (.op 10, []), (.op 11, []), (.op 12, []), (.op 13, []), (.op 14, []), (.op 15, [])]
  | _ => []
noncomputable def code93 : Code := (Tryz.f93.body).getD .skip
noncomputable def ent93 : Entry := ⟨52, [.cell 6 90, .tmp 7], code93, plans93⟩
theorem good93 : ent93.Good PP 93 := ⟨Tryz.f93, ⟨Tryz.func93, by kernel_rfl, by kernel_rfl, by kernel_rfl⟩, by kernel_rfl, by kernel_rfl⟩
def plans160 : Plans := fun
  | 7 => [(.op 0, []), (.op 1, []), (.op 2, []), (.op 3, []), (.op 7, []), (.op 12, []), (.op 4, []), (.op 5, []), (.op 6, []), (.op 8, []), (.op 9, []), (.op 10, []), (.op 11, []), (.op 13, []), (.op 14, []), (.op 15, [])]
  | _ => []
noncomputable def code160 : Code := (Tryz.f160.body).getD .skip
noncomputable def ent160 : Entry := ⟨45, [.cell 4 245], code160, plans160⟩
theorem good160 : ent160.Good PP 160 := ⟨Tryz.f160, ⟨Tryz.func160, by kernel_rfl, by kernel_rfl, by kernel_rfl⟩, by kernel_rfl, by kernel_rfl⟩
def plans38 : Plans := fun _ => []
noncomputable def code38 : Code := (Tryz.f38.body).getD .skip
noncomputable def ent38 : Entry := ⟨16, [.cell 2 98], code38, plans38⟩
theorem good38 : ent38.Good PP 38 := ⟨Tryz.f38, ⟨Tryz.func38, by kernel_rfl, by kernel_rfl, by kernel_rfl⟩, by kernel_rfl, by kernel_rfl⟩
def plans94 : Plans := fun _ => []
noncomputable def code94 : Code := (Tryz.f94.body).getD .skip
noncomputable def ent94 : Entry := ⟨33, [.tmp 4], code94, plans94⟩
theorem good94 : ent94.Good PP 94 := ⟨Tryz.f94, ⟨Tryz.func94, by kernel_rfl, by kernel_rfl, by kernel_rfl⟩, by kernel_rfl, by kernel_rfl⟩
def plans161 : Plans := fun _ => []
noncomputable def code161 : Code := (Tryz.f161.body).getD .skip
noncomputable def ent161 : Entry := ⟨9, [], code161, plans161⟩
theorem good161 : ent161.Good PP 161 := ⟨Tryz.f161, ⟨Tryz.func161, by kernel_rfl, by kernel_rfl, by kernel_rfl⟩, by kernel_rfl, by kernel_rfl⟩
def plans231 : Plans := fun _ => []
noncomputable def code231 : Code := (Tryz.f231.body).getD .skip
noncomputable def ent231 : Entry := ⟨63, [], code231, plans231⟩
theorem good231 : ent231.Good PP 231 := ⟨Tryz.f231, ⟨Tryz.func231, by kernel_rfl, by kernel_rfl, by kernel_rfl⟩, by kernel_rfl, by kernel_rfl⟩
def plans293 : Plans := fun
  | 4 => [(.op 0, []), (.op 1, []), (.op 2, []), (.op 3, []), (.op 4, []), (.op 5, []), (.op 6, []), (.op 9, []), (.op 10, []), (.op 11, []), (.op 7, []), (.op 8, []), (.op 12, []), (.op 13, []), (.op 14, []), (.op 15, []), (.op 16, [])]
  | 6 => [(.op 0, []), (.op 1, []), (.op 2, []), (.op 3, []), (.op 5, []), (.op 6, []), (.op 10, []), (.op 11, []), (.op 4, []), (.op 7, []), (.op 12, []), (.op 8, []), (.op 13, []), (.op 9, []), (.op 14, []), (.op 15, []), (.op 16, []), (.op 17, [])]
  | _ => []
noncomputable def code293 : Code := (Tryz.f293.body).getD .skip
noncomputable def ent293 : Entry := ⟨53, [], code293, plans293⟩
theorem good293 : ent293.Good PP 293 := ⟨Tryz.f293, ⟨Tryz.func293, by kernel_rfl, by kernel_rfl, by kernel_rfl⟩, by kernel_rfl, by kernel_rfl⟩
def plans10 : Plans := fun
  | 8 => [(.op 0, []), (.op 5, []), (.mk 8, []), (.op 1, []), (.op 2, []), (.op 3, []), (.op 4, []), (.op 6, [3]), (.op 7, []), (.reveal 8, []), (.op 9, [])]
  | 13 => [(.op 0, []), (.op 4, []), (.op 6, []), (.op 10, []), (.op 1, []), (.op 7, []), (.op 2, []), (.op 8, []), (.op 3, []), (.op 9, []), (.op 5, [3, 9]), (.op 11, []), (.op 12, [])]
  | _ => []
noncomputable def code10 : Code := (Tryz.f10.body).getD .skip
noncomputable def ent10 : Entry := ⟨80, [.tmp 6], code10, plans10⟩
theorem good10 : ent10.Good PP 10 := ⟨Tryz.f10, ⟨Tryz.func10, by kernel_rfl, by kernel_rfl, by kernel_rfl⟩, by kernel_rfl, by kernel_rfl⟩
def plans26 : Plans := fun _ => []
noncomputable def code26 : Code := (Tryz.f26.body).getD .skip
noncomputable def ent26 : Entry := ⟨26, [.tmp 2], code26, plans26⟩
theorem good26 : ent26.Good PP 26 := ⟨Tryz.f26, ⟨Tryz.func26, by kernel_rfl, by kernel_rfl, by kernel_rfl⟩, by kernel_rfl, by kernel_rfl⟩
def plans74 : Plans := fun _ => []
noncomputable def code74 : Code := (Tryz.f74.body).getD .skip
noncomputable def ent74 : Entry := ⟨32, [.tmp 2], code74, plans74⟩
theorem good74 : ent74.Good PP 74 := ⟨Tryz.f74, ⟨Tryz.func74, by kernel_rfl, by kernel_rfl, by kernel_rfl⟩, by kernel_rfl, by kernel_rfl⟩
def plans27 : Plans := fun _ => []
noncomputable def code27 : Code := (Tryz.f27.body).getD .skip
noncomputable def ent27 : Entry := ⟨37, [.tmp 2], code27, plans27⟩
theorem good27 : ent27.Good PP 27 := ⟨Tryz.f27, ⟨Tryz.func27, by kernel_rfl, by kernel_rfl, by kernel_rfl⟩, by kernel_rfl, by kernel_rfl⟩
def plans75 : Plans := fun _ => []
noncomputable def code75 : Code := (Tryz.f75.body).getD .skip
noncomputable def ent75 : Entry := ⟨14, [], code75, plans75⟩
theorem good75 : ent75.Good PP 75 := ⟨Tryz.f75, ⟨Tryz.func75, by kernel_rfl, by kernel_rfl, by kernel_rfl⟩, by kernel_rfl, by kernel_rfl⟩
def plans142 : Plans := fun
  | 17 => [(.op 0, []), (.op 1, []), (.op 2, []), (.op 3, []), (.op 4, []), (.op 5, []), (.op 9, []), (.op 10, []), (.op 6, []), (.op 11, []), (.op 7, []), (.op 12, []), (.op 8, []), (.op 13, []), (.op 14, []), (.op 15, []), (.op 16, [])]
  | _ => []
noncomputable def code142 : Code := (Tryz.f142.body).getD .skip
noncomputable def ent142 : Entry := ⟨148, [], code142, plans142⟩
theorem good142 : ent142.Good PP 142 := ⟨Tryz.f142, ⟨Tryz.func142, by kernel_rfl, by kernel_rfl, by kernel_rfl⟩, by kernel_rfl, by kernel_rfl⟩
def plans218 : Plans := fun
  | 4 => [(.op 0, []), (.op 1, []), (.op 2, []), (.op 3, []), (.op 4, []), (.op 5, []), (.op 6, []), (.op 9, []), (.op 10, []), (.op 11, []), (.op 7, []), (.op 8, []), (.op 12, []), (.op 13, []), (.op 14, []), (.op 15, []), (.op 16, [])]
  | 6 => [(.op 0, []), (.op 1, []), (.op 2, []), (.op 3, []), (.op 5, []), (.op 6, []), (.op 10, []), (.op 11, []), (.op 4, []), (.op 7, []), (.op 12, []), (.op 8, []), (.op 13, []), (.op 9, []), (.op 14, []), (.op 15, []), (.op 16, []), (.op 17, [])]
  | _ => []
noncomputable def code218 : Code := (Tryz.f218.body).getD .skip
noncomputable def ent218 : Entry := ⟨53, [], code218, plans218⟩
theorem good218 : ent218.Good PP 218 := ⟨Tryz.f218, ⟨Tryz.func218, by kernel_rfl, by kernel_rfl, by kernel_rfl⟩, by kernel_rfl, by kernel_rfl⟩
def plans28 : Plans := fun _ => []
noncomputable def code28 : Code := (Tryz.f28.body).getD .skip
noncomputable def ent28 : Entry := ⟨11, [.tmp 2], code28, plans28⟩
theorem good28 : ent28.Good PP 28 := ⟨Tryz.f28, ⟨Tryz.func28, by kernel_rfl, by kernel_rfl, by kernel_rfl⟩, by kernel_rfl, by kernel_rfl⟩
def plans78 : Plans := fun
  | 1 => [(.op 0, []), (.op 1, []), (.op 2, []), (.op 3, []), (.op 4, []), (.op 5, []), (.op 6, []), (.op 7, []), (.op 8, []), (.op 9, []), (.op 10, []), (.op 11, []), (.op 12, []), (.op 13, []), (.op 14, []), (.op 15, []), (.op 18, []), (.op 16, []), (.op 19, []), (.op 17, [19]), (.op 20, []), (.op 21, []), (.op 22, [])]
  | 3 => [(.op 0, []), (.op 3, []), (.op 1, []), (.op 4, []), (.op 5, []), (.op 2, [4]), (.op 6, []), (.op 7, []), (.op 8, [])]
  | _ => []
noncomputable def code78 : Code := (Tryz.f78.body).getD .skip
noncomputable def ent78 : Entry := ⟨64, [.tmp 2], code78, plans78⟩
theorem good78 : ent78.Good PP 78 := ⟨Tryz.f78, ⟨Tryz.func78, by kernel_rfl, by kernel_rfl, by kernel_rfl⟩, by kernel_rfl, by kernel_rfl⟩
def plans145 : Plans := fun
  | 6 => [(.op 0, []), (.op 1, []), (.op 4, []), (.op 5, []), (.op 2, []), (.op 6, []), (.op 3, []), (.op 7, []), (.op 8, [])]
  | _ => []
noncomputable def code145 : Code := (Tryz.f145.body).getD .skip
noncomputable def ent145 : Entry := ⟨26, [.tmp 4], code145, plans145⟩
theorem good145 : ent145.Good PP 145 := ⟨Tryz.f145, ⟨Tryz.func145, by kernel_rfl, by kernel_rfl, by kernel_rfl⟩, by kernel_rfl, by kernel_rfl⟩
def plans147 : Plans := fun _ => []
noncomputable def code147 : Code := (Tryz.f147.body).getD .skip
noncomputable def ent147 : Entry := ⟨8, [.tmp 2], code147, plans147⟩
theorem good147 : ent147.Good PP 147 := ⟨Tryz.f147, ⟨Tryz.func147, by kernel_rfl, by kernel_rfl, by kernel_rfl⟩, by kernel_rfl, by kernel_rfl⟩
def plans29 : Plans := fun
  | 2 => [(.op 0, []), (.op 4, []), (.op 1, []), (.op 2, []), (.op 3, []), (.op 5, [3]), (.op 6, []), (.op 7, [])]
  | 9 => [(.op 0, []), (.op 4, []), (.op 1, []), (.op 2, []), (.op 3, []), (.op 5, [3]), (.op 6, []), (.op 7, [])]
  | _ => []
noncomputable def code29 : Code := (Tryz.f29.body).getD .skip
noncomputable def ent29 : Entry := ⟨70, [.tmp 4], code29, plans29⟩
theorem good29 : ent29.Good PP 29 := ⟨Tryz.f29, ⟨Tryz.func29, by kernel_rfl, by kernel_rfl, by kernel_rfl⟩, by kernel_rfl, by kernel_rfl⟩
def plans32 : Plans := fun _ => []
noncomputable def code32 : Code := (Tryz.f32.body).getD .skip
noncomputable def ent32 : Entry := ⟨8, [.tmp 2], code32, plans32⟩
theorem good32 : ent32.Good PP 32 := ⟨Tryz.f32, ⟨Tryz.func32, by kernel_rfl, by kernel_rfl, by kernel_rfl⟩, by kernel_rfl, by kernel_rfl⟩
def plans34 : Plans := fun
  | 4 => [(.op 0, []), (.op 4, []), (.op 5, []), (.op 1, []), (.op 6, []), (.op 2, []), (.op 7, []), (.op 3, []), (.op 8, []), (.op 9, [4, 3]), (.op 10, []), (.op 11, [4, 3]), (.op 12, [])]
  | _ => []
noncomputable def code34 : Code := (Tryz.f34.body).getD .skip
noncomputable def ent34 : Entry := ⟨32, [], code34, plans34⟩
theorem good34 : ent34.Good PP 34 := ⟨Tryz.f34, ⟨Tryz.func34, by kernel_rfl, by kernel_rfl, by kernel_rfl⟩, by kernel_rfl, by kernel_rfl⟩
def plans89 : Plans := fun _ => []
noncomputable def code89 : Code := (Tryz.f89.body).getD .skip
noncomputable def ent89 : Entry := ⟨29, [.tmp 2], code89, plans89⟩
theorem good89 : ent89.Good PP 89 := ⟨Tryz.f89, ⟨Tryz.func89, by kernel_rfl, by kernel_rfl, by kernel_rfl⟩, by kernel_rfl, by kernel_rfl⟩
def plans92 : Plans := fun _ => []
noncomputable def code92 : Code := (Tryz.f92.body).getD .skip
noncomputable def ent92 : Entry := ⟨11, [.tmp 2], code92, plans92⟩
theorem good92 : ent92.Good PP 92 := ⟨Tryz.f92, ⟨Tryz.func92, by kernel_rfl, by kernel_rfl, by kernel_rfl⟩, by kernel_rfl, by kernel_rfl⟩
def plans91 : Plans := fun _ => []
noncomputable def code91 : Code := (Tryz.f91.body).getD .skip
noncomputable def ent91 : Entry := ⟨12, [.tmp 2], code91, plans91⟩
theorem good91 : ent91.Good PP 91 := ⟨Tryz.f91, ⟨Tryz.func91, by kernel_rfl, by kernel_rfl, by kernel_rfl⟩, by kernel_rfl, by kernel_rfl⟩
def plans90 : Plans := fun
  | 4 => [(.op 0, []), (.op 4, []), (.op 1, []), (.op 5, []), (.op 2, []), (.op 3, []), (.op 6, []), (.op 7, []), (.op 8, []), (.op 9, []), (.op 10, []), (.op 11, [])]
  | 5 => [(.op 0, []), (.op 1, []), (.op 2, []), (.op 3, []), (.op 7, []), (.op 12, []), (.op 4, []), (.op 13, []), (.op 5, []), (.op 6, []), (.op 8, []), (.op 9, []), (.op 10, []), (.op 11, []), (.op 14, []), (.op 15, [])]
  | 8 => [(.op 0, []), (.op 1, []), (.mk 4, []), (.mk 2, []), (.reveal 2, []), (.op 3, []), (.reveal 4, []), (.op 5, [])]
  | 12 => [(.op 0, []), (.op 2, []), (.op 3, []), (.op 7, []), (.op 13, []), (.op 1, []), (.op 4, []), (.op 8, []), (.op 5, []), (.op 9, []), (.op 6, []), (.op 10, []), (.op 11, []), (.op 12, []), (.op 14, []), (.op 15, []), (.op 16, []), (.op 17, [])]
  | 13 => [(.op 0, []), (.op 4, []), (.op 10, []), (.op 11, []), (.op 1, []), (.op 5, []), (.op 12, []), (.op 2, []), (.op 6, []), (.op 13, []), (.op 3, []), (.op 14, []), (.op 15, []), (.op 7, []), (.op 8, []), (.op 9, []), (.op 16, []), (.op 17, [])]
  | 15 => [(.op 0, []), (.op 1, []), (.op 5, []), (.op 2, []), (.mk 6, []), (.op 3, []), (.op 4, []), (.reveal 6, []), (.op 7, []), (.op 8, []), (.op 9, []), (.op 10, [])]
  | 16 => [(.op 0, []), (.op 4, []), (.op 8, []), (.op 1, []), (.op 5, []), (.op 9, []), (.op 2, []), (.op 6, []), (.op 10, []), (.op 3, []), (.op 7, []), (.op 11, []), (.op 12, []), (.op 13, []), (.op 14, []), (.op 15, [])]
  | _ => []
noncomputable def code90 : Code := (Tryz.f90.body).getD .skip
noncomputable def ent90 : Entry := ⟨120, [.tmp 6], code90, plans90⟩
theorem good90 : ent90.Good PP 90 := ⟨Tryz.f90, ⟨Tryz.func90, by kernel_rfl, by kernel_rfl, by kernel_rfl⟩, by kernel_rfl, by kernel_rfl⟩
def plans159 : Plans := fun _ => []
noncomputable def code159 : Code := (Tryz.f159.body).getD .skip
noncomputable def ent159 : Entry := ⟨23, [.tmp 2], code159, plans159⟩
theorem good159 : ent159.Good PP 159 := ⟨Tryz.f159, ⟨Tryz.func159, by kernel_rfl, by kernel_rfl, by kernel_rfl⟩, by kernel_rfl, by kernel_rfl⟩
def plans230 : Plans := fun _ => []
noncomputable def code230 : Code := (Tryz.f230.body).getD .skip
noncomputable def ent230 : Entry := ⟨27, [.tmp 2], code230, plans230⟩
theorem good230 : ent230.Good PP 230 := ⟨Tryz.f230, ⟨Tryz.func230, by kernel_rfl, by kernel_rfl, by kernel_rfl⟩, by kernel_rfl, by kernel_rfl⟩
def plans102 : Plans := fun
  | 1 => [(.op 0, []), (.op 2, []), (.op 5, []), (.op 7, []), (.op 10, []), (.op 12, []), (.op 1, []), (.op 3, []), (.op 6, []), (.op 8, []), (.op 11, []), (.op 13, []), (.op 4, [6, 8, 11, 13]), (.op 9, [11, 13]), (.op 14, []), (.mk 15, []), (.reveal 15, []), (.op 16, []), (.op 17, [])]
  | _ => []
noncomputable def code102 : Code := (Tryz.f102.body).getD .skip
noncomputable def ent102 : Entry := ⟨22, [.tmp 4], code102, plans102⟩
theorem good102 : ent102.Good PP 102 := ⟨Tryz.f102, ⟨Tryz.func102, by kernel_rfl, by kernel_rfl, by kernel_rfl⟩, by kernel_rfl, by kernel_rfl⟩
def plans77 : Plans := fun _ => []
noncomputable def code77 : Code := (Tryz.f77.body).getD .skip
noncomputable def ent77 : Entry := ⟨20, [.tmp 4], code77, plans77⟩
theorem good77 : ent77.Good PP 77 := ⟨Tryz.f77, ⟨Tryz.func77, by kernel_rfl, by kernel_rfl, by kernel_rfl⟩, by kernel_rfl, by kernel_rfl⟩
def plans144 : Plans := fun _ => []
noncomputable def code144 : Code := (Tryz.f144.body).getD .skip
noncomputable def ent144 : Entry := ⟨6, [.tmp 2], code144, plans144⟩
theorem good144 : ent144.Good PP 144 := ⟨Tryz.f144, ⟨Tryz.func144, by kernel_rfl, by kernel_rfl, by kernel_rfl⟩, by kernel_rfl, by kernel_rfl⟩
def plans163 : Plans := fun _ => []
noncomputable def code163 : Code := (Tryz.f163.body).getD .skip
noncomputable def ent163 : Entry := ⟨20, [.tmp 4], code163, plans163⟩
theorem good163 : ent163.Good PP 163 := ⟨Tryz.f163, ⟨Tryz.func163, by kernel_rfl, by kernel_rfl, by kernel_rfl⟩, by kernel_rfl, by kernel_rfl⟩
def plans232 : Plans := fun _ => []
noncomputable def code232 : Code := (Tryz.f232.body).getD .skip
noncomputable def ent232 : Entry := ⟨6, [.tmp 2], code232, plans232⟩
theorem good232 : ent232.Good PP 232 := ⟨Tryz.f232, ⟨Tryz.func232, by kernel_rfl, by kernel_rfl, by kernel_rfl⟩, by kernel_rfl, by kernel_rfl⟩
def plans175 : Plans := fun _ => []
noncomputable def code175 : Code := (Tryz.f175.body).getD .skip
noncomputable def ent175 : Entry := ⟨18, [.tmp 2], code175, plans175⟩
theorem good175 : ent175.Good PP 175 := ⟨Tryz.f175, ⟨Tryz.func175, by kernel_rfl, by kernel_rfl, by kernel_rfl⟩, by kernel_rfl, by kernel_rfl⟩
noncomputable def tabL : List (Nat × Entry) := [(3, ent3), (4, ent4), (5, ent5), (6, ent6), (7, ent7), (8, ent8), (9, ent9), (24, ent24), (71, ent71), (72, ent72), (73, ent73), (25, ent25), (23, ent23), (69, ent69), (65, ent65), (59, ent59), (70, ent70), (21, ent21), (68, ent68), (133, ent133), (134, ent134), (135, ent135), (210, ent210), (87, ent87), (154, ent154), (155, ent155), (130, ent130), (136, ent136), (55, ent55), (128, ent128), (143, ent143), (227, ent227), (206, ent206), (274, ent274), (132, ent132), (116, ent116), (188, ent188), (259, ent259), (263, ent263), (256, ent256), (264, ent264), (311, ent311), (156, ent156), (157, ent157), (229, ent229), (292, ent292), (350, ent350), (97, ent97), (171, ent171), (118, ent118), (192, ent192), (146, ent146), (79, ent79), (149, ent149), (150, ent150), (148, ent148), (228, ent228), (208, ent208), (81, ent81), (152, ent152), (84, ent84), (153, ent153), (123, ent123), (61, ent61), (31, ent31), (83, ent83), (85, ent85), (86, ent86), (80, ent80), (151, ent151), (209, ent209), (88, ent88), (158, ent158), (283, ent283), (339, ent339), (107, ent107), (137, ent137), (129, ent129), (207, ent207), (63, ent63), (120, ent120), (197, ent197), (267, ent267), (330, ent330), (199, ent199), (269, ent269), (332, ent332), (213, ent213), (284, ent284), (340, ent340), (215, ent215), (138, ent138), (216, ent216), (165, ent165), (139, ent139), (11, ent11), (35, ent35), (36, ent36), (93, ent93), (160, ent160), (38, ent38), (94, ent94), (161, ent161), (231, ent231), (293, ent293), (10, ent10), (26, ent26), (74, ent74), (27, ent27), (75, ent75), (142, ent142), (218, ent218), (28, ent28), (78, ent78), (145, ent145), (147, ent147), (29, ent29), (32, ent32), (34, ent34), (89, ent89), (92, ent92), (91, ent91), (90, ent90), (159, ent159), (230, ent230), (102, ent102), (77, ent77), (144, ent144), (163, ent163), (232, ent232), (175, ent175)]
noncomputable def tab : Tr Entry := Tr.ofList tabL
theorem tab_good : ∀ f en, tab.get f = some en → en.Good PP f := by
  intro f en h
  have h := Tr.ofList_get tabL f en h
  simp only [tabL, List.mem_cons, Prod.mk.injEq, List.not_mem_nil, or_false] at h
  rcases h with ⟨rfl, rfl⟩ | ⟨rfl, rfl⟩ | ⟨rfl, rfl⟩ | ⟨rfl, rfl⟩ | ⟨rfl, rfl⟩ | ⟨rfl, rfl⟩ | ⟨rfl, rfl⟩ | ⟨rfl, rfl⟩ | ⟨rfl, rfl⟩ | ⟨rfl, rfl⟩ | ⟨rfl, rfl⟩ | ⟨rfl, rfl⟩ | ⟨rfl, rfl⟩ | ⟨rfl, rfl⟩ | ⟨rfl, rfl⟩ | ⟨rfl, rfl⟩ | ⟨rfl, rfl⟩ | ⟨rfl, rfl⟩ | ⟨rfl, rfl⟩ | ⟨rfl, rfl⟩ | ⟨rfl, rfl⟩ | ⟨rfl, rfl⟩ | ⟨rfl, rfl⟩ | ⟨rfl, rfl⟩ | ⟨rfl, rfl⟩ | ⟨rfl, rfl⟩ | ⟨rfl, rfl⟩ | ⟨rfl, rfl⟩ | ⟨rfl, rfl⟩ | ⟨rfl, rfl⟩ | ⟨rfl, rfl⟩ | ⟨rfl, rfl⟩ | ⟨rfl, rfl⟩ | ⟨rfl, rfl⟩ | ⟨rfl, rfl⟩ | ⟨rfl, rfl⟩ | ⟨rfl, rfl⟩ | ⟨rfl, rfl⟩ | ⟨rfl, rfl⟩ | ⟨rfl, rfl⟩ | ⟨rfl, rfl⟩ | ⟨rfl, rfl⟩ | ⟨rfl, rfl⟩ | ⟨rfl, rfl⟩ | ⟨rfl, rfl⟩ | ⟨rfl, rfl⟩ | ⟨rfl, rfl⟩ | ⟨rfl, rfl⟩ | ⟨rfl, rfl⟩ | ⟨rfl, rfl⟩ | ⟨rfl, rfl⟩ | ⟨rfl, rfl⟩ | ⟨rfl, rfl⟩ | ⟨rfl, rfl⟩ | ⟨rfl, rfl⟩ | ⟨rfl, rfl⟩ | ⟨rfl, rfl⟩ | ⟨rfl, rfl⟩ | ⟨rfl, rfl⟩ | ⟨rfl, rfl⟩ | ⟨rfl, rfl⟩ | ⟨rfl, rfl⟩ | ⟨rfl, rfl⟩ | ⟨rfl, rfl⟩ | ⟨rfl, rfl⟩ | ⟨rfl, rfl⟩ | ⟨rfl, rfl⟩ | ⟨rfl, rfl⟩ | ⟨rfl, rfl⟩ | ⟨rfl, rfl⟩ | ⟨rfl, rfl⟩ | ⟨rfl, rfl⟩ | ⟨rfl, rfl⟩ | ⟨rfl, rfl⟩ | ⟨rfl, rfl⟩ | ⟨rfl, rfl⟩ | ⟨rfl, rfl⟩ | ⟨rfl, rfl⟩ | ⟨rfl, rfl⟩ | ⟨rfl, rfl⟩ | ⟨rfl, rfl⟩ | ⟨rfl, rfl⟩ | ⟨rfl, rfl⟩ | ⟨rfl, rfl⟩ | ⟨rfl, rfl⟩ | ⟨rfl, rfl⟩ | ⟨rfl, rfl⟩ | ⟨rfl, rfl⟩ | ⟨rfl, rfl⟩ | ⟨rfl, rfl⟩ | ⟨rfl, rfl⟩ | ⟨rfl, rfl⟩ | ⟨rfl, rfl⟩ | ⟨rfl, rfl⟩ | ⟨rfl, rfl⟩ | ⟨rfl, rfl⟩ | ⟨rfl, rfl⟩ | ⟨rfl, rfl⟩ | ⟨rfl, rfl⟩ | ⟨rfl, rfl⟩ | ⟨rfl, rfl⟩ | ⟨rfl, rfl⟩ | ⟨rfl, rfl⟩ | ⟨rfl, rfl⟩ | ⟨rfl, rfl⟩ | ⟨rfl, rfl⟩ | ⟨rfl, rfl⟩ | ⟨rfl, rfl⟩ | ⟨rfl, rfl⟩ | ⟨rfl, rfl⟩ | ⟨rfl, rfl⟩ | ⟨rfl, rfl⟩ | ⟨rfl, rfl⟩ | ⟨rfl, rfl⟩ | ⟨rfl, rfl⟩ | ⟨rfl, rfl⟩ | ⟨rfl, rfl⟩ | ⟨rfl, rfl⟩ | ⟨rfl, rfl⟩ | ⟨rfl, rfl⟩ | ⟨rfl, rfl⟩ | ⟨rfl, rfl⟩ | ⟨rfl, rfl⟩ | ⟨rfl, rfl⟩ | ⟨rfl, rfl⟩ | ⟨rfl, rfl⟩ | ⟨rfl, rfl⟩ | ⟨rfl, rfl⟩ | ⟨rfl, rfl⟩ | ⟨rfl, rfl⟩ | ⟨rfl, rfl⟩
  · exact good3
  · exact good4
  · exact good5
  · exact good6
  · exact good7
  · exact good8
  · exact good9
  · exact good24
  · exact good71
  · exact good72
  · exact good73
  · exact good25
  · exact good23
  · exact good69
  · exact good65
  · exact good59
  · exact good70
  · exact good21
  · exact good68
  · exact good133
  · exact good134
  · exact good135
  · exact good210
  · exact good87
  · exact good154
  · exact good155
  · exact good130
  · exact good136
  · exact good55
  · exact good128
  · exact good143
  · exact good227
  · exact good206
  · exact good274
  · exact good132
  · exact good116
  · exact good188
  · exact good259
  · exact good263
  · exact good256
  · exact good264
  · exact good311
  · exact good156
  · exact good157
  · exact good229
  · exact good292
  · exact good350
  · exact good97
  · exact good171
  · exact good118
  · exact good192
  · exact good146
  · exact good79
  · exact good149
  · exact good150
  · exact good148
  · exact good228
  · exact good208
  · exact good81
  · exact good152
  · exact good84
  · exact good153
  · exact good123
  · exact good61
  · exact good31
  · exact good83
  · exact good85
  · exact good86
  · exact good80
  · exact good151
  · exact good209
  · exact good88
  · exact good158
  · exact good283
  · exact good339
  · exact good107
  · exact good137
  · exact good129
  · exact good207
  · exact good63
  · exact good120
  · exact good197
  · exact good267
  · exact good330
  · exact good199
  · exact good269
  · exact good332
  · exact good213
  · exact good284
  · exact good340
  · exact good215
  · exact good138
  · exact good216
  · exact good165
  · exact good139
  · exact good11
  · exact good35
  · exact good36
  · exact good93
  · exact good160
  · exact good38
  · exact good94
  · exact good161
  · exact good231
  · exact good293
  · exact good10
  · exact good26
  · exact good74
  · exact good27
  · exact good75
  · exact good142
  · exact good218
  · exact good28
  · exact good78
  · exact good145
  · exact good147
  · exact good29
  · exact good32
  · exact good34
  · exact good89
  · exact good92
  · exact good91
  · exact good90
  · exact good159
  · exact good230
  · exact good102
  · exact good77
  · exact good144
  · exact good163
  · exact good232
  · exact good175
end Go.Proofs
