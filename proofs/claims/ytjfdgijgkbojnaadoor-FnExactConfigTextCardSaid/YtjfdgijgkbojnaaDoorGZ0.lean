/- The program and its types, by name. Printed by mkg.py. -/
import Derived.Test.YtjfdgijgkbojnaaDoorMF
import Derived.WalkKit
import Derived.Test.YtjfdgijgkbojnaaDoorProg
namespace Go.Proofs.YtjfdgijgkbojnaaDoor.E
open Go Go.RowKit
set_option linter.unusedVariables false
set_option linter.unusedSectionVars false
variable [Lam]
noncomputable abbrev TP : Program := Tryd.prog
noncomputable abbrev TT : Tab := tab TP
theorem TT_ok : TabOk TP TT := tab_ok TP (by decide +kernel)
abbrev fn_laws_FnExactConfigText : FuncId := 3
abbrev fn_spec_ConfigText : FuncId := 4
abbrev fn_laws_toConfig : FuncId := 5
abbrev fn_impl_ConfigText : FuncId := 6
abbrev fn_laws_eqTextResult : FuncId := 7
abbrev fn_spec_l13Fault : FuncId := 8
abbrev fn_spec_l13Text : FuncId := 9
abbrev fn_impl_ConfigFault : FuncId := 10
abbrev fn_impl_Config_text : FuncId := 11
abbrev fn_spec_l12Size : FuncId := 12
abbrev fn_spec_l11Table : FuncId := 13
abbrev fn_spec_l1Digits : FuncId := 14
abbrev fn_impl_isSize : FuncId := 15
abbrev fn_impl_TableFault : FuncId := 16
abbrev fn_impl_dec : FuncId := 17
abbrev fn_spec_l1In : FuncId := 18
abbrev fn_impl_in : FuncId := 19
abbrev fn_strconv_FormatInt : FuncId := 20
abbrev fn_internal_strconv_FormatInt : FuncId := 21
abbrev fn_internal_strconv_small : FuncId := 22
abbrev ty_Lb : TypeId := 40
abbrev ty_s : TypeId := 9
end Go.Proofs.YtjfdgijgkbojnaaDoor.E
