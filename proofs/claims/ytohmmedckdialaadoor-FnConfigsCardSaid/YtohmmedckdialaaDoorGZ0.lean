/- The program and its types, by name. Printed by mkg.py. -/
import Derived.Test.YtohmmedckdialaaDoorMF
import Derived.WalkKit
import Derived.Test.YtohmmedckdialaaDoorProg
namespace Go.Proofs.YtohmmedckdialaaDoor.E
open Go Go.RowKit
set_option linter.unusedVariables false
set_option linter.unusedSectionVars false
variable [Lam]
noncomputable abbrev TP : Program := Tryd.prog
noncomputable abbrev TT : Tab := tab TP
theorem TT_ok : TabOk TP TT := tab_ok TP (by decide +kernel)
abbrev fn_laws_FnExactLoopLines : FuncId := 3
abbrev fn_laws_FnExactParseConfig : FuncId := 4
abbrev fn_laws_FnConfigs : FuncId := 5
abbrev fn_laws_FnExactCommandOf : FuncId := 6
abbrev fn_spec_LoopLines : FuncId := 7
abbrev fn_impl_LoopLines : FuncId := 8
abbrev fn_laws_eqTextsResult : FuncId := 9
abbrev fn_laws_markTextsResult : FuncId := 10
abbrev fn_laws_heldTextsResult : FuncId := 11
abbrev fn_spec_ParseConfig : FuncId := 12
abbrev fn_impl_ParseConfig : FuncId := 13
abbrev fn_laws_eqConfigResult : FuncId := 14
abbrev fn_laws_lwBig : FuncId := 15
abbrev fn_spec_DrawParseConfig : FuncId := 16
abbrev fn_impl_ConfigText : FuncId := 17
abbrev fn_spec_DrawConfigText : FuncId := 18
abbrev fn_spec_ConfigText : FuncId := 19
abbrev fn_impl_ConfigFault : FuncId := 20
abbrev fn_spec_CommandOf : FuncId := 21
abbrev fn_impl_CommandOf : FuncId := 22
abbrev fn_laws_eqCommandResult : FuncId := 23
abbrev fn_spec_l15Blank : FuncId := 24
abbrev fn_spec_LinesFault : FuncId := 25
abbrev fn_slices_DeleteFunc : FuncId := 26
abbrev fn_strings_Split : FuncId := 27
abbrev fn_impl_LoopLines_1 : FuncId := 28
abbrev fn_strings_Trim : FuncId := 29
abbrev fn_slices_ContainsFunc : FuncId := 30
abbrev fn_impl_LoopLines_2 : FuncId := 31
abbrev fn_laws_eqStringS : FuncId := 32
abbrev fn_laws_markStringS : FuncId := 33
abbrev fn_laws_heldStringS : FuncId := 34
abbrev fn_spec_l13Text : FuncId := 35
abbrev fn_impl_ParseNum : FuncId := 36
abbrev fn_impl_Config_text : FuncId := 37
abbrev fn_laws_eqConfig : FuncId := 38
abbrev fn_spec_l1Source : FuncId := 39
abbrev fn_spec_l13Draw : FuncId := 40
abbrev fn_spec_l1Next : FuncId := 41
abbrev fn_spec_l1Pick : FuncId := 42
abbrev fn_spec_l13Bent : FuncId := 43
abbrev fn_spec_l13Fault : FuncId := 44
abbrev fn_impl_isSize : FuncId := 45
abbrev fn_impl_TableFault : FuncId := 46
abbrev fn_spec_l15Kind : FuncId := 47
abbrev fn_spec_l1Parse : FuncId := 48
abbrev fn_spec_l15Bounds : FuncId := 49
abbrev fn_spec_l1In : FuncId := 50
abbrev fn_strings_HasPrefix : FuncId := 51
abbrev fn_strings_Cut : FuncId := 52
abbrev fn_strings_TrimLeft : FuncId := 53
abbrev fn_impl_in : FuncId := 54
abbrev fn_slices_IndexFunc : FuncId := 55
abbrev fn_laws_markText : FuncId := 64
abbrev fn_spec_l1Digits : FuncId := 65
abbrev fn_strconv_ParseInt : FuncId := 66
abbrev fn_impl_NumFault : FuncId := 67
abbrev fn_impl_dec : FuncId := 68
abbrev fn_spec_l1Chance : FuncId := 69
abbrev fn_spec_l12Size : FuncId := 70
abbrev fn_spec_l11Table : FuncId := 71
abbrev fn_spec_l1Num : FuncId := 72
abbrev fn_internal_strconv_ParseInt : FuncId := 82
abbrev fn_strconv_toError : FuncId := 83
abbrev fn_strconv_FormatInt : FuncId := 84
abbrev fn_internal_strconv_FormatInt : FuncId := 96
abbrev fn_internal_strconv_small : FuncId := 108
abbrev ty_Lb : TypeId := 35
abbrev ty_RiiooE : TypeId := 30
abbrev ty_interface90 : TypeId := 90
abbrev ty_o : TypeId := 4
abbrev ty_s : TypeId := 9
end Go.Proofs.YtohmmedckdialaaDoor.E
