/- The program and its types, by name. Printed by mkg.py. -/
import Derived.Test.YtlggnigbemghgaaGreatDoorMF
import Derived.WalkKit
import Derived.Test.YtlggnigbemghgaaGreatDoorProg
namespace Go.Proofs.YtlggnigbemghgaaGreatDoor.E
open Go Go.RowKit
set_option linter.unusedVariables false
set_option linter.unusedSectionVars false
variable [Lam]
noncomputable abbrev TP : Program := Tryz.prog
noncomputable abbrev TT : Tab := tab TP
theorem TT_ok : TabOk TP TT := tab_ok TP (by decide +kernel)
abbrev fn_laws_FnExactFuseCode : FuncId := 4
abbrev fn_laws_szBlockS : FuncId := 5
abbrev fn_laws_toBlockS : FuncId := 7
abbrev fn_laws_eqCodeResult : FuncId := 9
abbrev fn_laws_eqBlockS : FuncId := 10
abbrev fn_laws_markBlockS : FuncId := 11
abbrev fn_laws_markCodeResult : FuncId := 12
abbrev fn_laws_heldCodeResult : FuncId := 13
abbrev fn_spec_FuseCode : FuncId := 14
abbrev fn_impl_FuseCode : FuncId := 15
abbrev fn_laws_szBlock : FuncId := 16
abbrev fn_spec_l10Fault : FuncId := 17
abbrev fn_spec_l9Copy : FuncId := 18
abbrev fn_laws_toBlock : FuncId := 20
abbrev fn_impl_CodeFault : FuncId := 21
abbrev fn_impl_copiedCode : FuncId := 22
abbrev fn_impl_moved : FuncId := 24
abbrev fn_laws_eqBlock : FuncId := 25
abbrev fn_laws_markOpS : FuncId := 26
abbrev fn_laws_heldBlockS : FuncId := 27
abbrev fn_spec_l11Table : FuncId := 28
abbrev fn_spec_l11FuseAll : FuncId := 29
abbrev fn_impl_TableFault : FuncId := 30
abbrev fn_impl_fused : FuncId := 31
abbrev fn_laws_szOpS : FuncId := 32
abbrev fn_spec_l9Fault : FuncId := 33
abbrev fn_spec_l10Around : FuncId := 34
abbrev fn_spec_l10Locals : FuncId := 35
abbrev fn_spec_l11Turn : FuncId := 37
abbrev fn_laws_toOpS : FuncId := 38
abbrev fn_impl_opsFault : FuncId := 39
abbrev fn_impl_heightsOf : FuncId := 40
abbrev fn_impl_around : FuncId := 41
abbrev fn_impl_Op_localsIn : FuncId := 42
abbrev fn_impl_isLocal : FuncId := 43
abbrev fn_slices_Clone : FuncId := 44
abbrev fn_impl_Op_target : FuncId := 45
abbrev fn_laws_eqOpS : FuncId := 46
abbrev fn_laws_markText : FuncId := 47
abbrev fn_laws_markDatumS : FuncId := 48
abbrev fn_laws_heldOpS : FuncId := 49
abbrev fn_spec_l1In : FuncId := 50
abbrev fn_spec_l11Fuse : FuncId := 51
abbrev fn_impl_in : FuncId := 52
abbrev fn_impl_targets : FuncId := 53
abbrev fn_slices_Contains : FuncId := 54
abbrev fn_impl_both : FuncId := 55
abbrev fn_laws_szOp : FuncId := 56
abbrev fn_spec_l9Block : FuncId := 57
abbrev fn_spec_l10Heights : FuncId := 58
abbrev fn_spec_l10Local : FuncId := 59
abbrev fn_laws_toOp : FuncId := 60
abbrev fn_impl_blockFault : FuncId := 61
abbrev fn_impl_Op_takes : FuncId := 62
abbrev fn_impl_Op_puts : FuncId := 63
abbrev fn_impl_Op_ends : FuncId := 64
abbrev fn_impl_Op_goesOn : FuncId := 65
abbrev fn_laws_eqOp : FuncId := 66
abbrev fn_laws_heldDatumS : FuncId := 67
abbrev fn_spec_l9IsTarget : FuncId := 68
abbrev fn_spec_l11Two : FuncId := 69
abbrev fn_slices_Sort : FuncId := 70
abbrev fn_slices_Compact : FuncId := 71
abbrev fn_slices_Index : FuncId := 72
abbrev fn_laws_szDatumS : FuncId := 73
abbrev fn_spec_l9Op : FuncId := 74
abbrev fn_spec_l9Target : FuncId := 75
abbrev fn_spec_l10Pass : FuncId := 76
abbrev fn_laws_toDatumS : FuncId := 77
abbrev fn_impl_OpFault : FuncId := 78
abbrev fn_laws_eqDatumS : FuncId := 79
abbrev fn_spec_l11Has : FuncId := 80
abbrev fn_laws_szDatum : FuncId := 83
abbrev fn_spec_l9All : FuncId := 84
abbrev fn_spec_l9Nums : FuncId := 85
abbrev fn_spec_l9Named : FuncId := 86
abbrev fn_spec_l9Const : FuncId := 87
abbrev fn_spec_l2Sym : FuncId := 88
abbrev fn_spec_l3Fault : FuncId := 89
abbrev fn_spec_l10High : FuncId := 90
abbrev fn_spec_l10Takes : FuncId := 91
abbrev fn_spec_l10Ends : FuncId := 92
abbrev fn_spec_l10Lead : FuncId := 93
abbrev fn_laws_toDatum : FuncId := 94
abbrev fn_impl_OpFault_1 : FuncId := 95
abbrev fn_slices_ContainsFunc : FuncId := 96
abbrev fn_impl_opNums : FuncId := 97
abbrev fn_impl_opNamed : FuncId := 98
abbrev fn_impl_opData : FuncId := 99
abbrev fn_impl_OpFault_2 : FuncId := 100
abbrev fn_impl_SymFault : FuncId := 101
abbrev fn_impl_DataFault : FuncId := 102
abbrev fn_laws_eqDatum : FuncId := 103
abbrev fn_spec_l2Byte : FuncId := 115
abbrev fn_spec_l3Bare : FuncId := 116
abbrev fn_spec_l1Num : FuncId := 117
abbrev fn_spec_l3Line : FuncId := 118
abbrev fn_spec_l3Deep : FuncId := 119
abbrev fn_slices_IndexFunc : FuncId := 120
abbrev fn_strings_Trim : FuncId := 121
abbrev fn_impl_datumFault : FuncId := 122
abbrev fn_strings_trimLeftByte : FuncId := 129
abbrev fn_strings_trimRightByte : FuncId := 130
abbrev fn_strings_makeASCIISet : FuncId := 131
abbrev fn_strings_trimLeftASCII : FuncId := 132
abbrev fn_strings_trimRightASCII : FuncId := 133
abbrev fn_strings_trimLeftUnicode : FuncId := 134
abbrev fn_strings_trimRightUnicode : FuncId := 135
abbrev fn_impl_kindFault : FuncId := 136
abbrev fn_impl_isUp : FuncId := 137
abbrev fn_impl_datumFault_1 : FuncId := 138
abbrev fn_impl_deep : FuncId := 139
abbrev fn_strings_asciiSet_contains : FuncId := 141
abbrev fn_impl_NumFault : FuncId := 145
abbrev ty_LRiLRiiiiisLRiiisEEE : TypeId := 24
abbrev ty_LRiiiiisLRiiisEE : TypeId := 44
abbrev ty_LRiiisE : TypeId := 51
abbrev ty_Lb : TypeId := 100
abbrev ty_Li : TypeId := 40
abbrev ty_pointer77 : TypeId := 77
abbrev ty_s : TypeId := 9
set_option maxRecDepth 1000000 in
theorem mk_LRiLRiiiiisLRiiisEEE {n m : Int} {σ : AH} {k : AV → AH → Prop} (h0 : 0 ≤ n) (h1 : n ≤ m) (h2 : m ≤ 1099511627776) (h : ∀ φ, σ φ = none → k (.own φ 0 0 n.toNat) (σ.set φ ⟨0, 2, List.replicate m.toNat [(.val (.int .i64 0)), (.val (.slice none 0 0))]⟩)) : amake TT ty_LRiLRiiiiisLRiiisEEE (.val (.int .i64 n)) (.val (.int .i64 m)) σ k := amake_info (by kernel_rfl) h0 h1 h2 h
set_option maxRecDepth 1000000 in
theorem mk_Li {n m : Int} {σ : AH} {k : AV → AH → Prop} (h0 : 0 ≤ n) (h1 : n ≤ m) (h2 : m ≤ 1099511627776) (h : ∀ φ, σ φ = none → k (.own φ 0 0 n.toNat) (σ.set φ ⟨0, 1, List.replicate m.toNat [(.val (.int .i64 0))]⟩)) : amake TT ty_Li (.val (.int .i64 n)) (.val (.int .i64 m)) σ k := amake_info (by kernel_rfl) h0 h1 h2 h
set_option maxRecDepth 1000000 in
theorem mk_LRiiiiisLRiiisEE {n m : Int} {σ : AH} {k : AV → AH → Prop} (h0 : 0 ≤ n) (h1 : n ≤ m) (h2 : m ≤ 1099511627776) (h : ∀ φ, σ φ = none → k (.own φ 0 0 n.toNat) (σ.set φ ⟨0, 7, List.replicate m.toNat [(.val (.int .i64 0)), (.val (.int .i64 0)), (.val (.int .i64 0)), (.val (.int .i64 0)), (.val (.int .i64 0)), (.val (.string ⟨#[]⟩)), (.val (.slice none 0 0))]⟩)) : amake TT ty_LRiiiiisLRiiisEE (.val (.int .i64 n)) (.val (.int .i64 m)) σ k := amake_info (by kernel_rfl) h0 h1 h2 h
set_option maxRecDepth 1000000 in
theorem mk_LRiiisE {n m : Int} {σ : AH} {k : AV → AH → Prop} (h0 : 0 ≤ n) (h1 : n ≤ m) (h2 : m ≤ 1099511627776) (h : ∀ φ, σ φ = none → k (.own φ 0 0 n.toNat) (σ.set φ ⟨0, 4, List.replicate m.toNat [(.val (.int .i64 0)), (.val (.int .i64 0)), (.val (.int .i64 0)), (.val (.string ⟨#[]⟩))]⟩)) : amake TT ty_LRiiisE (.val (.int .i64 n)) (.val (.int .i64 m)) σ k := amake_info (by kernel_rfl) h0 h1 h2 h
end Go.Proofs.YtlggnigbemghgaaGreatDoor.E
