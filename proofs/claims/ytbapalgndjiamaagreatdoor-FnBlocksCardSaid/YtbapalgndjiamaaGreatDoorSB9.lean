import Derived.Test.YtbapalgndjiamaaGreatDoorSB8
import Derived.WalkKit
import Derived.Test.YtbapalgndjiamaaGreatDoorProg
/- The program and its types, by name. Printed by mkg.py. -/
set_option maxRecDepth 1000000
namespace Go.Proofs.YtbapalgndjiamaaGreatDoor.E
open Go Go.RowKit
set_option linter.unusedVariables false
set_option linter.unusedSectionVars false
variable [Lam]
namespace X
abbrev Z (n : Nat) : SI := .var n
abbrev Y (n : Int) : SI := .lit (iv n)
abbrev pn [Lam] (R : AEnd → AH → Prop) : AV → AH → Prop := fun v σ => apan v σ R
abbrev L (n : Nat) : OE SI := .lod (.var n)
abbrev N (n : Nat) : OE SI := .lenS (.var n)
abbrev A (n : Nat) : OE SI := .anil (.var n)
abbrev F (o n : Nat) : OE SI := .fldA o (.var n)
abbrev I (s n m : Nat) : OE SI := .idx s (.var n) (.var m)
abbrev B (op : BinOp) (x y : SI) : OE SI := .ibin op x y
abbrev P (n : Nat) (a b : Sx) : Sx := .apick (.var n) a b
abbrev G (n : Nat) (e : OE SI) (k : Sx) : Sx := .gog (.var n) false false e k
abbrev H (n : Nat) (e : OE SI) (k : Sx) : Sx := .gog (.var n) true false e k
abbrev Q (e : OE SI) (k : Sx) : Sx := .og e k
abbrev D (op : BinOp) (x y : SI) (k : Sx) : Sx := .og (.ibin op x y) k
abbrev M (n : Nat) (k : Sx) : Sx := .og (.lod (.var n)) k
abbrev O (n : Nat) (k : Sx) : Sx := .og (.lenS (.var n)) k
abbrev J (s n m : Nat) (k : Sx) : Sx := .og (.idx s (.var n) (.var m)) k
abbrev FL (o n : Nat) (k : Sx) : Sx := .og (.fldA o (.var n)) (.og (.lod (.var 0)) k)
abbrev AF (n o : Nat) (k : Sx) : Sx := .og (.anil (.var n)) (.og (.fldA o (.var 0)) (.og (.lod (.var 0)) k))
end X
noncomputable abbrev TP : Program := Tryz.prog
noncomputable abbrev TT : Tab := tab TP
theorem TT_ok : TabOk TP TT := tab_ok TP (by decide +kernel)
abbrev fn_laws_FnBlocks : FuncId := 4
abbrev fn_laws_lwBig : FuncId := 5
abbrev fn_spec_DrawBlockAround : FuncId := 11
abbrev fn_impl_BlockAround : FuncId := 12
abbrev fn_spec_BlockAround : FuncId := 13
abbrev fn_impl_OpFault : FuncId := 14
abbrev fn_spec_l1Source : FuncId := 15
abbrev fn_spec_l9Bent : FuncId := 16
abbrev fn_spec_l1Next : FuncId := 17
abbrev fn_impl_blockFault : FuncId := 18
abbrev fn_impl_heightsOf : FuncId := 19
abbrev fn_spec_l10Heights : FuncId := 20
abbrev fn_impl_targets : FuncId := 21
abbrev fn_impl_CodeFault : FuncId := 22
abbrev fn_impl_in : FuncId := 23
abbrev fn_impl_around : FuncId := 24
abbrev fn_spec_l10Fault : FuncId := 25
abbrev fn_spec_l1In : FuncId := 26
abbrev fn_impl_OpFault_1 : FuncId := 27
abbrev fn_slices_ContainsFunc : FuncId := 28
abbrev fn_impl_opNums : FuncId := 29
abbrev fn_impl_opNamed : FuncId := 30
abbrev fn_impl_opData : FuncId := 31
abbrev fn_impl_OpFault_2 : FuncId := 32
abbrev fn_impl_SymFault : FuncId := 33
abbrev fn_impl_DataFault : FuncId := 34
abbrev fn_spec_l9Draw : FuncId := 35
abbrev fn_spec_l1Pick : FuncId := 36
abbrev fn_spec_l3Bent : FuncId := 37
abbrev fn_impl_Op_takes : FuncId := 38
abbrev fn_impl_Op_puts : FuncId := 39
abbrev fn_impl_Op_ends : FuncId := 40
abbrev fn_impl_Op_goesOn : FuncId := 41
abbrev fn_impl_Op_target : FuncId := 42
abbrev fn_spec_l9Block : FuncId := 43
abbrev fn_spec_l9Target : FuncId := 44
abbrev fn_spec_l10Pass : FuncId := 45
abbrev fn_slices_Sort : FuncId := 46
abbrev fn_slices_Compact : FuncId := 47
abbrev fn_impl_opsFault : FuncId := 48
abbrev fn_impl_Op_localsIn : FuncId := 49
abbrev fn_impl_isLocal : FuncId := 50
abbrev fn_spec_l9Fault : FuncId := 51
abbrev fn_spec_l10Around : FuncId := 52
abbrev fn_spec_l10Locals : FuncId := 53
abbrev fn_slices_IndexFunc : FuncId := 54
abbrev fn_strings_Trim : FuncId := 55
abbrev fn_impl_datumFault : FuncId := 56
abbrev fn_spec_ExpandData : FuncId := 57
abbrev fn_spec_l4Datum : FuncId := 58
abbrev fn_spec_l9Code : FuncId := 59
abbrev fn_spec_l3Make : FuncId := 60
abbrev fn_spec_l9Op : FuncId := 61
abbrev fn_spec_l10High : FuncId := 62
abbrev fn_spec_l10Takes : FuncId := 63
abbrev fn_spec_l10Ends : FuncId := 64
abbrev fn_spec_l10Lead : FuncId := 65
abbrev fn_spec_l10Local : FuncId := 68
abbrev fn_strings_trimLeftByte : FuncId := 69
abbrev fn_strings_trimRightByte : FuncId := 70
abbrev fn_strings_makeASCIISet : FuncId := 71
abbrev fn_strings_trimLeftASCII : FuncId := 72
abbrev fn_strings_trimRightASCII : FuncId := 73
abbrev fn_strings_trimLeftUnicode : FuncId := 74
abbrev fn_strings_trimRightUnicode : FuncId := 75
abbrev fn_impl_kindFault : FuncId := 76
abbrev fn_impl_isUp : FuncId := 77
abbrev fn_impl_datumFault_1 : FuncId := 78
abbrev fn_impl_deep : FuncId := 79
abbrev fn_spec_l3Fault : FuncId := 80
abbrev fn_spec_l4Expand : FuncId := 81
abbrev fn_spec_l4Source : FuncId := 82
abbrev fn_spec_l1Chance : FuncId := 83
abbrev fn_spec_ReadData : FuncId := 84
abbrev fn_spec_l9Make : FuncId := 85
abbrev fn_spec_l3Leaf : FuncId := 86
abbrev fn_spec_l9All : FuncId := 87
abbrev fn_spec_l9Nums : FuncId := 88
abbrev fn_spec_l9Named : FuncId := 89
abbrev fn_spec_l9Const : FuncId := 90
abbrev fn_spec_l2Sym : FuncId := 91
abbrev fn_strings_asciiSet_contains : FuncId := 103
abbrev fn_impl_NumFault : FuncId := 107
abbrev fn_spec_l3Bare : FuncId := 108
abbrev fn_spec_l1Num : FuncId := 109
abbrev fn_spec_l3Line : FuncId := 110
abbrev fn_spec_l3Deep : FuncId := 111
abbrev fn_spec_l4Put : FuncId := 112
abbrev fn_spec_l3Sub : FuncId := 113
abbrev fn_spec_IsKeyword : FuncId := 114
abbrev fn_spec_l4Find : FuncId := 115
abbrev fn_spec_l3Parts : FuncId := 116
abbrev fn_spec_l4Form : FuncId := 117
abbrev fn_spec_l4All : FuncId := 118
abbrev fn_spec_l1Digits : FuncId := 119
abbrev fn_spec_TokensOf : FuncId := 120
abbrev fn_spec_l3Read : FuncId := 121
abbrev fn_spec_l4Kids : FuncId := 122
abbrev fn_spec_l9Put : FuncId := 123
abbrev fn_spec_l9End : FuncId := 124
abbrev fn_spec_l9If : FuncId := 125
abbrev fn_spec_l2Name : FuncId := 126
abbrev fn_spec_l2Byte : FuncId := 127
abbrev fn_spec_l4Lambda : FuncId := 137
abbrev fn_spec_l4Let : FuncId := 138
abbrev fn_spec_l4Assign : FuncId := 139
abbrev fn_spec_l2Tokens : FuncId := 140
abbrev fn_spec_l3Token : FuncId := 141
abbrev fn_spec_l4Param : FuncId := 147
abbrev fn_spec_l4Bind : FuncId := 148
abbrev fn_spec_l2Skip : FuncId := 149
abbrev fn_spec_l2Mark : FuncId := 150
abbrev fn_spec_l2End : FuncId := 151
abbrev fn_spec_l2Word : FuncId := 152
abbrev fn_spec_l3Begin : FuncId := 153
abbrev fn_spec_l3Whole : FuncId := 154
abbrev fn_spec_l3Put : FuncId := 155
abbrev fn_spec_l1Parse : FuncId := 157
abbrev ty_LRiiisE : TypeId := 32
abbrev ty_Lb : TypeId := 22
abbrev ty_Li : TypeId := 28
abbrev ty_pointer71 : TypeId := 71
abbrev ty_s : TypeId := 9
theorem mk_Li {n m : Int} {σ : AH} {k : AV → AH → Prop} (h0 : 0 ≤ n) (h1 : n ≤ m) (h2 : m ≤ 1099511627776) (h : ∀ φ, σ φ = none → k (.own φ 0 0 n.toNat) (σ.set φ ⟨0, 1, List.replicate m.toNat [(iv 0)]⟩)) : amake TT ty_Li (.val (.int .i64 n)) (.val (.int .i64 m)) σ k := amake_info (by kernel_rfl) h0 h1 h2 h
theorem mk_LRiiisE {n m : Int} {σ : AH} {k : AV → AH → Prop} (h0 : 0 ≤ n) (h1 : n ≤ m) (h2 : m ≤ 1099511627776) (h : ∀ φ, σ φ = none → k (.own φ 0 0 n.toNat) (σ.set φ ⟨0, 4, List.replicate m.toNat [(iv 0), (iv 0), (iv 0), (str ⟨#[]⟩)]⟩)) : amake TT ty_LRiiisE (.val (.int .i64 n)) (.val (.int .i64 m)) σ k := amake_info (by kernel_rfl) h0 h1 h2 h
end Go.Proofs.YtbapalgndjiamaaGreatDoor.E
