/- The program and its types, by name. Printed by mkg.py. -/
import Derived.Test.YtinhodpfgjddmaaGreatDoorMF
import Derived.WalkKit
import Derived.Test.YtinhodpfgjddmaaGreatDoorProg
namespace Go.Proofs.YtinhodpfgjddmaaGreatDoor.E
open Go Go.RowKit
set_option linter.unusedVariables false
set_option linter.unusedSectionVars false
variable [Lam]
noncomputable abbrev TP : Program := Tryz.prog
noncomputable abbrev TT : Tab := tab TP
theorem TT_ok : TabOk TP TT := tab_ok TP (by decide +kernel)
abbrev fn_laws_FnExactTargetsIn : FuncId := 3
abbrev fn_laws_FnExactHeightsOf : FuncId := 4
abbrev fn_laws_FnExactBlockAround : FuncId := 5
abbrev fn_laws_FnExactFusedIn : FuncId := 6
abbrev fn_laws_FnExactDeepestOf : FuncId := 7
abbrev fn_laws_szBlock : FuncId := 11
abbrev fn_spec_TargetsIn : FuncId := 12
abbrev fn_laws_toBlock : FuncId := 13
abbrev fn_impl_TargetsIn : FuncId := 14
abbrev fn_laws_eqIntsResult : FuncId := 15
abbrev fn_laws_eqBlock : FuncId := 16
abbrev fn_laws_markBlock : FuncId := 17
abbrev fn_laws_markIntsResult : FuncId := 18
abbrev fn_laws_heldIntsResult : FuncId := 19
abbrev fn_spec_HeightsOf : FuncId := 20
abbrev fn_impl_HeightsOf : FuncId := 21
abbrev fn_laws_szBlockS : FuncId := 22
abbrev fn_spec_BlockAround : FuncId := 23
abbrev fn_laws_toBlockS : FuncId := 24
abbrev fn_impl_BlockAround : FuncId := 25
abbrev fn_laws_eqIntResult : FuncId := 26
abbrev fn_laws_eqBlockS : FuncId := 27
abbrev fn_spec_FusedIn : FuncId := 28
abbrev fn_impl_FusedIn : FuncId := 29
abbrev fn_spec_DeepestOf : FuncId := 30
abbrev fn_impl_DeepestOf : FuncId := 31
abbrev fn_laws_szOpS : FuncId := 46
abbrev fn_spec_l9Block : FuncId := 47
abbrev fn_spec_l9IsTarget : FuncId := 48
abbrev fn_laws_toOpS : FuncId := 49
abbrev fn_impl_blockFault : FuncId := 50
abbrev fn_impl_targets : FuncId := 51
abbrev fn_laws_eqInt64S : FuncId := 52
abbrev fn_laws_eqOpS : FuncId := 53
abbrev fn_laws_markOpS : FuncId := 54
abbrev fn_laws_markInt64S : FuncId := 55
abbrev fn_laws_heldInt64S : FuncId := 56
abbrev fn_spec_l10Heights : FuncId := 57
abbrev fn_impl_heightsOf : FuncId := 58
abbrev fn_spec_l10Fault : FuncId := 59
abbrev fn_spec_l1In : FuncId := 60
abbrev fn_impl_CodeFault : FuncId := 61
abbrev fn_impl_in : FuncId := 62
abbrev fn_impl_around : FuncId := 63
abbrev fn_impl_Op_isFused : FuncId := 64
abbrev fn_spec_l10Takes : FuncId := 65
abbrev fn_spec_l1Max : FuncId := 66
abbrev fn_impl_Op_takes : FuncId := 67
abbrev fn_impl_Op_puts : FuncId := 68
abbrev fn_laws_markText : FuncId := 86
abbrev fn_laws_markDatumS : FuncId := 87
abbrev fn_laws_szOp : FuncId := 88
abbrev fn_spec_l9Op : FuncId := 89
abbrev fn_spec_l9Target : FuncId := 90
abbrev fn_laws_toOp : FuncId := 91
abbrev fn_impl_OpFault : FuncId := 92
abbrev fn_impl_Op_target : FuncId := 93
abbrev fn_slices_Sort : FuncId := 94
abbrev fn_slices_Compact : FuncId := 95
abbrev fn_laws_eqOp : FuncId := 96
abbrev fn_spec_l10Pass : FuncId := 97
abbrev fn_impl_Op_ends : FuncId := 98
abbrev fn_impl_Op_goesOn : FuncId := 99
abbrev fn_spec_l9Fault : FuncId := 100
abbrev fn_spec_l10Around : FuncId := 101
abbrev fn_spec_l10Locals : FuncId := 102
abbrev fn_impl_opsFault : FuncId := 103
abbrev fn_impl_Op_localsIn : FuncId := 104
abbrev fn_impl_isLocal : FuncId := 105
abbrev fn_laws_szDatumS : FuncId := 113
abbrev fn_laws_toDatumS : FuncId := 118
abbrev fn_laws_eqDatumS : FuncId := 125
abbrev fn_spec_l9All : FuncId := 126
abbrev fn_spec_l9Nums : FuncId := 127
abbrev fn_spec_l9Named : FuncId := 128
abbrev fn_spec_l9Const : FuncId := 129
abbrev fn_spec_l2Sym : FuncId := 130
abbrev fn_spec_l3Fault : FuncId := 131
abbrev fn_impl_OpFault_1 : FuncId := 132
abbrev fn_slices_ContainsFunc : FuncId := 133
abbrev fn_impl_opNums : FuncId := 134
abbrev fn_impl_opNamed : FuncId := 135
abbrev fn_impl_opData : FuncId := 136
abbrev fn_impl_OpFault_2 : FuncId := 137
abbrev fn_impl_SymFault : FuncId := 138
abbrev fn_impl_DataFault : FuncId := 139
abbrev fn_spec_l10High : FuncId := 142
abbrev fn_spec_l10Ends : FuncId := 143
abbrev fn_spec_l10Lead : FuncId := 144
abbrev fn_spec_l10Local : FuncId := 145
abbrev fn_laws_szDatum : FuncId := 149
abbrev fn_laws_toDatum : FuncId := 158
abbrev fn_impl_isUp : FuncId := 160
abbrev fn_laws_eqDatum : FuncId := 168
abbrev fn_spec_l2Byte : FuncId := 169
abbrev fn_spec_l3Bare : FuncId := 170
abbrev fn_spec_l1Num : FuncId := 171
abbrev fn_spec_l3Line : FuncId := 172
abbrev fn_spec_l3Deep : FuncId := 173
abbrev fn_slices_IndexFunc : FuncId := 174
abbrev fn_strings_Trim : FuncId := 175
abbrev fn_impl_datumFault : FuncId := 176
abbrev fn_strings_trimLeftByte : FuncId := 193
abbrev fn_strings_trimRightByte : FuncId := 194
abbrev fn_strings_makeASCIISet : FuncId := 195
abbrev fn_strings_trimLeftASCII : FuncId := 196
abbrev fn_strings_trimRightASCII : FuncId := 197
abbrev fn_strings_trimLeftUnicode : FuncId := 198
abbrev fn_strings_trimRightUnicode : FuncId := 199
abbrev fn_impl_kindFault : FuncId := 200
abbrev fn_impl_datumFault_1 : FuncId := 201
abbrev fn_impl_deep : FuncId := 202
abbrev fn_strings_asciiSet_contains : FuncId := 210
abbrev fn_impl_NumFault : FuncId := 214
abbrev ty_LRiLRiiiiisLRiiisEEE : TypeId := 44
abbrev ty_LRiiiiisLRiiisEE : TypeId := 30
abbrev ty_LRiiisE : TypeId := 85
abbrev ty_Lb : TypeId := 163
abbrev ty_Li : TypeId := 26
abbrev ty_pointer122 : TypeId := 122
abbrev ty_s : TypeId := 9
set_option maxRecDepth 1000000 in
theorem mk_Li {n m : Int} {σ : AH} {k : AV → AH → Prop} (h0 : 0 ≤ n) (h1 : n ≤ m) (h2 : m ≤ 1099511627776) (h : ∀ φ, σ φ = none → k (.own φ 0 0 n.toNat) (σ.set φ ⟨0, 1, List.replicate m.toNat [(.val (.int .i64 0))]⟩)) : amake TT ty_Li (.val (.int .i64 n)) (.val (.int .i64 m)) σ k := amake_info (by kernel_rfl) h0 h1 h2 h
set_option maxRecDepth 1000000 in
theorem mk_LRiiiiisLRiiisEE {n m : Int} {σ : AH} {k : AV → AH → Prop} (h0 : 0 ≤ n) (h1 : n ≤ m) (h2 : m ≤ 1099511627776) (h : ∀ φ, σ φ = none → k (.own φ 0 0 n.toNat) (σ.set φ ⟨0, 7, List.replicate m.toNat [(.val (.int .i64 0)), (.val (.int .i64 0)), (.val (.int .i64 0)), (.val (.int .i64 0)), (.val (.int .i64 0)), (.val (.string ⟨#[]⟩)), (.val (.slice none 0 0))]⟩)) : amake TT ty_LRiiiiisLRiiisEE (.val (.int .i64 n)) (.val (.int .i64 m)) σ k := amake_info (by kernel_rfl) h0 h1 h2 h
set_option maxRecDepth 1000000 in
theorem mk_LRiLRiiiiisLRiiisEEE {n m : Int} {σ : AH} {k : AV → AH → Prop} (h0 : 0 ≤ n) (h1 : n ≤ m) (h2 : m ≤ 1099511627776) (h : ∀ φ, σ φ = none → k (.own φ 0 0 n.toNat) (σ.set φ ⟨0, 2, List.replicate m.toNat [(.val (.int .i64 0)), (.val (.slice none 0 0))]⟩)) : amake TT ty_LRiLRiiiiisLRiiisEEE (.val (.int .i64 n)) (.val (.int .i64 m)) σ k := amake_info (by kernel_rfl) h0 h1 h2 h
set_option maxRecDepth 1000000 in
theorem mk_LRiiisE {n m : Int} {σ : AH} {k : AV → AH → Prop} (h0 : 0 ≤ n) (h1 : n ≤ m) (h2 : m ≤ 1099511627776) (h : ∀ φ, σ φ = none → k (.own φ 0 0 n.toNat) (σ.set φ ⟨0, 4, List.replicate m.toNat [(.val (.int .i64 0)), (.val (.int .i64 0)), (.val (.int .i64 0)), (.val (.string ⟨#[]⟩))]⟩)) : amake TT ty_LRiiisE (.val (.int .i64 n)) (.val (.int .i64 m)) σ k := amake_info (by kernel_rfl) h0 h1 h2 h
end Go.Proofs.YtinhodpfgjddmaaGreatDoor.E
