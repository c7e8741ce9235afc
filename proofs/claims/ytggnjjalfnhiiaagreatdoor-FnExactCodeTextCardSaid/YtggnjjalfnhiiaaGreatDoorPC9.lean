import Derived.Test.YtggnjjalfnhiiaaGreatDoorPC8
import Derived.WalkKit
import Derived.Test.YtggnjjalfnhiiaaGreatDoorProg
/- The program and its types, by name. Printed by mkg.py. -/
namespace Go.Proofs.YtggnjjalfnhiiaaGreatDoor.E
open Go Go.RowKit
set_option linter.unusedVariables false
set_option linter.unusedSectionVars false
variable [Lam]
noncomputable abbrev TP : Program := Tryz.prog
noncomputable abbrev TT : Tab := tab TP
theorem TT_ok : TabOk TP TT := tab_ok TP (by decide +kernel)
abbrev fn_laws_FnExactCodeText : FuncId := 3
abbrev fn_laws_szBlockS : FuncId := 6
abbrev fn_spec_CodeText : FuncId := 7
abbrev fn_laws_toBlockS : FuncId := 8
abbrev fn_impl_CodeText : FuncId := 9
abbrev fn_laws_eqTextResult : FuncId := 10
abbrev fn_laws_eqBlockS : FuncId := 11
abbrev fn_laws_szBlock : FuncId := 20
abbrev fn_spec_l9Fault : FuncId := 21
abbrev fn_spec_l1Digits : FuncId := 22
abbrev fn_spec_l9Text : FuncId := 23
abbrev fn_laws_toBlock : FuncId := 24
abbrev fn_impl_opsFault : FuncId := 25
abbrev fn_impl_dec : FuncId := 27
abbrev fn_impl_Op_text : FuncId := 28
abbrev fn_laws_eqBlock : FuncId := 31
abbrev fn_laws_szOpS : FuncId := 38
abbrev fn_spec_l9Block : FuncId := 39
abbrev fn_spec_l9Named : FuncId := 40
abbrev fn_spec_l9Const : FuncId := 41
abbrev fn_spec_l3Write : FuncId := 42
abbrev fn_spec_l9All : FuncId := 43
abbrev fn_spec_l9Nums : FuncId := 44
abbrev fn_laws_toOpS : FuncId := 45
abbrev fn_impl_blockFault : FuncId := 46
abbrev fn_impl_opNamed : FuncId := 49
abbrev fn_impl_opData : FuncId := 50
abbrev fn_impl_written : FuncId := 51
abbrev fn_impl_opNums : FuncId := 52
abbrev fn_strings_Join : FuncId := 53
abbrev fn_laws_eqOpS : FuncId := 54
abbrev fn_laws_szOp : FuncId := 67
abbrev fn_spec_l1In : FuncId := 68
abbrev fn_spec_l9Op : FuncId := 69
abbrev fn_spec_l3Parts : FuncId := 70
abbrev fn_laws_toOp : FuncId := 71
abbrev fn_impl_in : FuncId := 72
abbrev fn_impl_OpFault : FuncId := 73
abbrev fn_impl_boolText : FuncId := 76
abbrev fn_impl_parts : FuncId := 77
abbrev fn_laws_eqOp : FuncId := 79
abbrev fn_laws_szDatumS : FuncId := 95
abbrev fn_spec_l2Sym : FuncId := 96
abbrev fn_spec_l3Fault : FuncId := 97
abbrev fn_laws_toDatumS : FuncId := 98
abbrev fn_impl_OpFault_1 : FuncId := 99
abbrev fn_slices_ContainsFunc : FuncId := 100
abbrev fn_impl_OpFault_2 : FuncId := 101
abbrev fn_impl_SymFault : FuncId := 102
abbrev fn_impl_DataFault : FuncId := 103
abbrev fn_laws_eqDatumS : FuncId := 109
abbrev fn_laws_szDatum : FuncId := 127
abbrev fn_spec_l2Byte : FuncId := 128
abbrev fn_spec_l3Bare : FuncId := 129
abbrev fn_spec_l1Num : FuncId := 130
abbrev fn_spec_l3Line : FuncId := 131
abbrev fn_spec_l3Deep : FuncId := 132
abbrev fn_laws_toDatum : FuncId := 133
abbrev fn_slices_IndexFunc : FuncId := 134
abbrev fn_strings_Trim : FuncId := 135
abbrev fn_impl_datumFault : FuncId := 136
abbrev fn_laws_eqDatum : FuncId := 143
abbrev fn_strings_trimLeftByte : FuncId := 161
abbrev fn_strings_trimRightByte : FuncId := 162
abbrev fn_strings_makeASCIISet : FuncId := 163
abbrev fn_strings_trimLeftASCII : FuncId := 164
abbrev fn_strings_trimRightASCII : FuncId := 165
abbrev fn_strings_trimLeftUnicode : FuncId := 166
abbrev fn_strings_trimRightUnicode : FuncId := 167
abbrev fn_impl_kindFault : FuncId := 168
abbrev fn_impl_isUp : FuncId := 169
abbrev fn_impl_datumFault_1 : FuncId := 170
abbrev fn_impl_deep : FuncId := 171
abbrev fn_strings_asciiSet_contains : FuncId := 202
abbrev fn_impl_NumFault : FuncId := 206
abbrev ty_LRiLRiiiiisLRiiisEEE : TypeId := 27
abbrev ty_LRiiiiisLRiiisEE : TypeId := 49
abbrev ty_LRiiisE : TypeId := 54
abbrev ty_Lb : TypeId := 59
abbrev ty_s : TypeId := 9
set_option maxRecDepth 1000000 in
theorem mk_LRiLRiiiiisLRiiisEEE {n m : Int} {σ : AH} {k : AV → AH → Prop} (h0 : 0 ≤ n) (h1 : n ≤ m) (h2 : m ≤ 1099511627776) (h : ∀ φ, σ φ = none → k (.own φ 0 0 n.toNat) (σ.set φ ⟨0, 2, List.replicate m.toNat [(.val (.int .i64 0)), (.val (.slice none 0 0))]⟩)) : amake TT ty_LRiLRiiiiisLRiiisEEE (.val (.int .i64 n)) (.val (.int .i64 m)) σ k := amake_info (by kernel_rfl) h0 h1 h2 h
set_option maxRecDepth 1000000 in
theorem mk_LRiiiiisLRiiisEE {n m : Int} {σ : AH} {k : AV → AH → Prop} (h0 : 0 ≤ n) (h1 : n ≤ m) (h2 : m ≤ 1099511627776) (h : ∀ φ, σ φ = none → k (.own φ 0 0 n.toNat) (σ.set φ ⟨0, 7, List.replicate m.toNat [(.val (.int .i64 0)), (.val (.int .i64 0)), (.val (.int .i64 0)), (.val (.int .i64 0)), (.val (.int .i64 0)), (.val (.string ⟨#[]⟩)), (.val (.slice none 0 0))]⟩)) : amake TT ty_LRiiiiisLRiiisEE (.val (.int .i64 n)) (.val (.int .i64 m)) σ k := amake_info (by kernel_rfl) h0 h1 h2 h
set_option maxRecDepth 1000000 in
theorem mk_LRiiisE {n m : Int} {σ : AH} {k : AV → AH → Prop} (h0 : 0 ≤ n) (h1 : n ≤ m) (h2 : m ≤ 1099511627776) (h : ∀ φ, σ φ = none → k (.own φ 0 0 n.toNat) (σ.set φ ⟨0, 4, List.replicate m.toNat [(.val (.int .i64 0)), (.val (.int .i64 0)), (.val (.int .i64 0)), (.val (.string ⟨#[]⟩))]⟩)) : amake TT ty_LRiiisE (.val (.int .i64 n)) (.val (.int .i64 m)) σ k := amake_info (by kernel_rfl) h0 h1 h2 h
end Go.Proofs.YtggnjjalfnhiiaaGreatDoor.E
