/- The program and its types, by name. Printed by mkg.py. -/
import Derived.Test.YtmmhaiidcfgbbaaGreatDoorD1
import Derived.WalkKit
import Derived.Test.YtmmhaiidcfgbbaaGreatDoorProg
namespace Go.Proofs.YtmmhaiidcfgbbaaGreatDoor.E
open Go Go.RowKit
set_option linter.unusedVariables false
set_option linter.unusedSectionVars false
variable [Lam]
noncomputable abbrev TP : Program := Tryz.prog
noncomputable abbrev TT : Tab := tab TP
theorem TT_ok : TabOk TP TT := tab_ok TP (by decide +kernel)
abbrev fn_laws_FnExactCompileCore : FuncId := 3
abbrev fn_laws_szCoreS : FuncId := 4
abbrev fn_spec_CompileCore : FuncId := 5
abbrev fn_laws_toCoreS : FuncId := 6
abbrev fn_impl_CompileCore : FuncId := 7
abbrev fn_laws_eqCodeResult : FuncId := 8
abbrev fn_laws_eqCoreS : FuncId := 9
abbrev fn_laws_markCoreS : FuncId := 10
abbrev fn_laws_markCodeResult : FuncId := 11
abbrev fn_laws_heldCodeResult : FuncId := 12
abbrev fn_laws_szCore : FuncId := 13
abbrev fn_spec_l4Fault : FuncId := 14
abbrev fn_spec_l9Code : FuncId := 15
abbrev fn_laws_toCore : FuncId := 16
abbrev fn_impl_CoreFault : FuncId := 17
abbrev fn_impl_compiled : FuncId := 18
abbrev fn_laws_eqBlockS : FuncId := 19
abbrev fn_laws_eqCore : FuncId := 20
abbrev fn_laws_markText : FuncId := 21
abbrev fn_laws_markDatumS : FuncId := 22
abbrev fn_laws_markBlockS : FuncId := 23
abbrev fn_laws_heldBlockS : FuncId := 24
abbrev fn_laws_szDatumS : FuncId := 25
abbrev fn_spec_l4One : FuncId := 26
abbrev fn_spec_l4Many : FuncId := 27
abbrev fn_spec_l4Kids : FuncId := 28
abbrev fn_spec_l9Make : FuncId := 29
abbrev fn_laws_toDatumS : FuncId := 30
abbrev fn_impl_in : FuncId := 31
abbrev fn_impl_oneCoreFault : FuncId := 32
abbrev fn_impl_kids : FuncId := 33
abbrev fn_impl_hasKids : FuncId := 34
abbrev fn_impl_compiled_1 : FuncId := 35
abbrev fn_impl_compiler_core : FuncId := 36
abbrev fn_impl_compiler_block : FuncId := 37
abbrev fn_impl_copiedCode : FuncId := 38
abbrev fn_laws_eqBlock : FuncId := 39
abbrev fn_laws_eqDatumS : FuncId := 40
abbrev fn_laws_markOpS : FuncId := 41
abbrev fn_laws_heldOpS : FuncId := 42
abbrev fn_laws_szDatum : FuncId := 43
abbrev fn_spec_l4Bare : FuncId := 44
abbrev fn_spec_l1In : FuncId := 45
abbrev fn_spec_l4Line : FuncId := 46
abbrev fn_spec_l4Named : FuncId := 47
abbrev fn_spec_l4Name : FuncId := 48
abbrev fn_spec_l3Fault : FuncId := 49
abbrev fn_spec_l4Place : FuncId := 50
abbrev fn_spec_l9Put : FuncId := 51
abbrev fn_spec_l9End : FuncId := 52
abbrev fn_spec_l9If : FuncId := 53
abbrev fn_laws_toDatum : FuncId := 54
abbrev fn_impl_coreForm : FuncId := 55
abbrev fn_impl_isUp : FuncId := 56
abbrev fn_impl_oneCoreFault_1 : FuncId := 57
abbrev fn_impl_named : FuncId := 58
abbrev fn_impl_isName : FuncId := 59
abbrev fn_impl_DataFault : FuncId := 60
abbrev fn_impl_lambdaOut : FuncId := 61
abbrev fn_impl_compiler_emit : FuncId := 62
abbrev fn_impl_compiler_choice : FuncId := 63
abbrev fn_impl_failIf : FuncId := 64
abbrev fn_slices_Clone : FuncId := 65
abbrev fn_laws_eqOpS : FuncId := 66
abbrev fn_laws_eqDatum : FuncId := 67
abbrev fn_laws_heldDatumS : FuncId := 68
abbrev fn_spec_l2Sym : FuncId := 69
abbrev fn_spec_IsKeyword : FuncId := 70
abbrev fn_spec_l3Bare : FuncId := 71
abbrev fn_spec_l1Num : FuncId := 72
abbrev fn_spec_l3Line : FuncId := 73
abbrev fn_spec_l3Deep : FuncId := 74
abbrev fn_spec_l4Around : FuncId := 75
abbrev fn_impl_SymFault : FuncId := 76
abbrev fn_impl_IsKeyword : FuncId := 77
abbrev fn_impl_datumFault : FuncId := 78
abbrev fn_impl_compiler_here : FuncId := 79
abbrev fn_laws_eqOp : FuncId := 80
abbrev fn_spec_l2Byte : FuncId := 81
abbrev fn_strings_Trim : FuncId := 82
abbrev fn_slices_Contains : FuncId := 83
abbrev fn_impl_kindFault : FuncId := 84
abbrev fn_impl_datumFault_1 : FuncId := 85
abbrev fn_impl_deep : FuncId := 86
abbrev fn_strings_trimLeftByte : FuncId := 87
abbrev fn_strings_trimRightByte : FuncId := 88
abbrev fn_strings_makeASCIISet : FuncId := 89
abbrev fn_strings_trimLeftASCII : FuncId := 90
abbrev fn_strings_trimRightASCII : FuncId := 91
abbrev fn_strings_trimLeftUnicode : FuncId := 92
abbrev fn_strings_trimRightUnicode : FuncId := 93
abbrev fn_slices_Index : FuncId := 94
abbrev fn_impl_NumFault : FuncId := 95
abbrev fn_strings_asciiSet_contains : FuncId := 96
abbrev ty_LLi : TypeId := 67
abbrev ty_LRiiiisLRiiisEE : TypeId := 28
abbrev ty_LRiiisE : TypeId := 42
abbrev ty_Lb : TypeId := 80
abbrev ty_RiE : TypeId := 70
abbrev ty_s : TypeId := 9
set_option maxRecDepth 1000000 in
theorem mk_LRiiiisLRiiisEE {n m : Int} {σ : AH} {k : AV → AH → Prop} (h0 : 0 ≤ n) (h1 : n ≤ m) (h2 : m ≤ 1099511627776) (h : ∀ φ, σ φ = none → k (.own φ 0 0 n.toNat) (σ.set φ ⟨0, 6, List.replicate m.toNat [(.val (.int .i64 0)), (.val (.int .i64 0)), (.val (.int .i64 0)), (.val (.int .i64 0)), (.val (.string ⟨#[]⟩)), (.val (.slice none 0 0))]⟩)) : amake TT ty_LRiiiisLRiiisEE (.val (.int .i64 n)) (.val (.int .i64 m)) σ k := amake_info (by kernel_rfl) h0 h1 h2 h
set_option maxRecDepth 1000000 in
theorem mk_LRiiisE {n m : Int} {σ : AH} {k : AV → AH → Prop} (h0 : 0 ≤ n) (h1 : n ≤ m) (h2 : m ≤ 1099511627776) (h : ∀ φ, σ φ = none → k (.own φ 0 0 n.toNat) (σ.set φ ⟨0, 4, List.replicate m.toNat [(.val (.int .i64 0)), (.val (.int .i64 0)), (.val (.int .i64 0)), (.val (.string ⟨#[]⟩))]⟩)) : amake TT ty_LRiiisE (.val (.int .i64 n)) (.val (.int .i64 m)) σ k := amake_info (by kernel_rfl) h0 h1 h2 h
set_option maxRecDepth 1000000 in
theorem mk_LLi {n m : Int} {σ : AH} {k : AV → AH → Prop} (h0 : 0 ≤ n) (h1 : n ≤ m) (h2 : m ≤ 1099511627776) (h : ∀ φ, σ φ = none → k (.own φ 0 0 n.toNat) (σ.set φ ⟨0, 1, List.replicate m.toNat [(.val (.slice none 0 0))]⟩)) : amake TT ty_LLi (.val (.int .i64 n)) (.val (.int .i64 m)) σ k := amake_info (by kernel_rfl) h0 h1 h2 h
end Go.Proofs.YtmmhaiidcfgbbaaGreatDoor.E
