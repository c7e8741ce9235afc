/- The program and its types, by name. Printed by mkg.py. -/
import Derived.Test.YtinhodpfgjddmaaDoorMF
import Derived.WalkKit
import Derived.Test.YtinhodpfgjddmaaDoorProg
namespace Go.Proofs.YtinhodpfgjddmaaDoor.E
open Go Go.RowKit
set_option linter.unusedVariables false
set_option linter.unusedSectionVars false
variable [Lam]
noncomputable abbrev TP : Program := Tryd.prog
noncomputable abbrev TT : Tab := tab TP
theorem TT_ok : TabOk TP TT := tab_ok TP (by decide +kernel)
abbrev fn_laws_FnExactCountOps : FuncId := 3
abbrev fn_laws_szBlockS : FuncId := 4
abbrev fn_spec_CountOps : FuncId := 5
abbrev fn_laws_toBlockS : FuncId := 6
abbrev fn_impl_CountOps : FuncId := 7
abbrev fn_laws_eqIntResult : FuncId := 8
abbrev fn_laws_eqBlockS : FuncId := 9
abbrev fn_laws_szBlock : FuncId := 10
abbrev fn_spec_l9Fault : FuncId := 11
abbrev fn_laws_toBlock : FuncId := 12
abbrev fn_impl_opsFault : FuncId := 13
abbrev fn_laws_eqBlock : FuncId := 14
abbrev fn_laws_szOpS : FuncId := 15
abbrev fn_spec_l9Block : FuncId := 16
abbrev fn_laws_toOpS : FuncId := 17
abbrev fn_impl_blockFault : FuncId := 18
abbrev fn_laws_eqOpS : FuncId := 19
abbrev fn_laws_szOp : FuncId := 20
abbrev fn_spec_l1In : FuncId := 21
abbrev fn_spec_l9Op : FuncId := 22
abbrev fn_laws_toOp : FuncId := 23
abbrev fn_impl_in : FuncId := 24
abbrev fn_impl_OpFault : FuncId := 25
abbrev fn_laws_eqOp : FuncId := 26
abbrev fn_laws_szDatumS : FuncId := 27
abbrev fn_spec_l9All : FuncId := 28
abbrev fn_spec_l9Nums : FuncId := 29
abbrev fn_spec_l9Named : FuncId := 30
abbrev fn_spec_l9Const : FuncId := 31
abbrev fn_spec_l2Sym : FuncId := 32
abbrev fn_spec_l3Fault : FuncId := 33
abbrev fn_laws_toDatumS : FuncId := 34
abbrev fn_impl_OpFault_1 : FuncId := 35
abbrev fn_slices_ContainsFunc : FuncId := 36
abbrev fn_impl_opNums : FuncId := 37
abbrev fn_impl_opNamed : FuncId := 38
abbrev fn_impl_opData : FuncId := 39
abbrev fn_impl_OpFault_2 : FuncId := 40
abbrev fn_impl_SymFault : FuncId := 41
abbrev fn_impl_DataFault : FuncId := 42
abbrev fn_laws_eqDatumS : FuncId := 43
abbrev fn_laws_szDatum : FuncId := 44
abbrev fn_spec_l2Byte : FuncId := 45
abbrev fn_spec_l3Bare : FuncId := 46
abbrev fn_spec_l1Num : FuncId := 47
abbrev fn_spec_l3Line : FuncId := 48
abbrev fn_spec_l3Deep : FuncId := 49
abbrev fn_laws_toDatum : FuncId := 50
abbrev fn_slices_IndexFunc : FuncId := 51
abbrev fn_strings_Trim : FuncId := 52
abbrev fn_impl_datumFault : FuncId := 53
abbrev fn_laws_eqDatum : FuncId := 54
abbrev fn_strings_trimLeftByte : FuncId := 55
abbrev fn_strings_trimRightByte : FuncId := 56
abbrev fn_strings_makeASCIISet : FuncId := 57
abbrev fn_strings_trimLeftASCII : FuncId := 58
abbrev fn_strings_trimRightASCII : FuncId := 59
abbrev fn_strings_trimLeftUnicode : FuncId := 60
abbrev fn_strings_trimRightUnicode : FuncId := 61
abbrev fn_impl_kindFault : FuncId := 62
abbrev fn_impl_isUp : FuncId := 63
abbrev fn_impl_datumFault_1 : FuncId := 64
abbrev fn_impl_deep : FuncId := 65
abbrev fn_strings_asciiSet_contains : FuncId := 66
abbrev fn_unicode_utf8_DecodeRuneInString : FuncId := 67
abbrev fn_strings_ContainsRune : FuncId := 68
abbrev fn_unicode_utf8_DecodeLastRuneInString : FuncId := 69
abbrev fn_impl_NumFault : FuncId := 70
abbrev ty_LRiLRiiiiisLRiiisEEE : TypeId := 27
abbrev ty_LRiiiiisLRiiisEE : TypeId := 37
abbrev ty_LRiiisE : TypeId := 55
set_option maxRecDepth 1000000 in
theorem mk_LRiLRiiiiisLRiiisEEE {n m : Int} {σ : AH} {k : AV → AH → Prop} (h0 : 0 ≤ n) (h1 : n ≤ m) (h2 : m ≤ 1099511627776) (h : ∀ φ, σ φ = none → k (.own φ 0 0 n.toNat) (σ.set φ ⟨0, 2, List.replicate m.toNat [(.val (.int .i64 0)), (.val (.slice none 0 0))]⟩)) : amake TT ty_LRiLRiiiiisLRiiisEEE (.val (.int .i64 n)) (.val (.int .i64 m)) σ k := amake_info (by kernel_rfl) h0 h1 h2 h
set_option maxRecDepth 1000000 in
theorem mk_LRiiiiisLRiiisEE {n m : Int} {σ : AH} {k : AV → AH → Prop} (h0 : 0 ≤ n) (h1 : n ≤ m) (h2 : m ≤ 1099511627776) (h : ∀ φ, σ φ = none → k (.own φ 0 0 n.toNat) (σ.set φ ⟨0, 7, List.replicate m.toNat [(.val (.int .i64 0)), (.val (.int .i64 0)), (.val (.int .i64 0)), (.val (.int .i64 0)), (.val (.int .i64 0)), (.val (.string ⟨#[]⟩)), (.val (.slice none 0 0))]⟩)) : amake TT ty_LRiiiiisLRiiisEE (.val (.int .i64 n)) (.val (.int .i64 m)) σ k := amake_info (by kernel_rfl) h0 h1 h2 h
set_option maxRecDepth 1000000 in
theorem mk_LRiiisE {n m : Int} {σ : AH} {k : AV → AH → Prop} (h0 : 0 ≤ n) (h1 : n ≤ m) (h2 : m ≤ 1099511627776) (h : ∀ φ, σ φ = none → k (.own φ 0 0 n.toNat) (σ.set φ ⟨0, 4, List.replicate m.toNat [(.val (.int .i64 0)), (.val (.int .i64 0)), (.val (.int .i64 0)), (.val (.string ⟨#[]⟩))]⟩)) : amake TT ty_LRiiisE (.val (.int .i64 n)) (.val (.int .i64 m)) σ k := amake_info (by kernel_rfl) h0 h1 h2 h
end Go.Proofs.YtinhodpfgjddmaaDoor.E
