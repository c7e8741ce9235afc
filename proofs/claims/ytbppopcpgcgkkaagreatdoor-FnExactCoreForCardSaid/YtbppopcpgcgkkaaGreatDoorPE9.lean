import Derived.Test.YtbppopcpgcgkkaaGreatDoorPE8
import Derived.WalkKit
import Derived.Test.YtbppopcpgcgkkaaGreatDoorProg
/- The program and its types, by name. Printed by mkg.py. -/
set_option maxRecDepth 1000000
namespace Go.Proofs.YtbppopcpgcgkkaaGreatDoor.E
open Go Go.RowKit
set_option linter.unusedVariables false
set_option linter.unusedSectionVars false
variable [Lam]
namespace X
abbrev Z (n:Nat):SI:= .var n
abbrev Y (n:Int):SI:= .lit (iv n)
abbrev pn [Lam] (R:AEnd→AH→Prop):AV→AH→Prop:=fun v σ=>apan v σ R
abbrev L (n:Nat):OE SI:= .lod (.var n)
abbrev N (n:Nat):OE SI:= .lenS (.var n)
abbrev A (n:Nat):OE SI:= .anil (.var n)
abbrev F (o n:Nat):OE SI:= .fldA o (.var n)
abbrev I (s n m:Nat):OE SI:= .idx s (.var n) (.var m)
abbrev B (op:BinOp) (x y:SI):OE SI:= .ibin op x y
abbrev P (n:Nat) (a b:Sx):Sx:= .apick (.var n) a b
abbrev G (n:Nat) (e:OE SI) (k:Sx):Sx:= .gog (.var n) false false e k
abbrev H (n:Nat) (e:OE SI) (k:Sx):Sx:= .gog (.var n) true false e k
abbrev Q (e:OE SI) (k:Sx):Sx:= .og e k
abbrev D (op:BinOp) (x y:SI) (k:Sx):Sx:= .og (.ibin op x y) k
abbrev M (n:Nat) (k:Sx):Sx:= .og (.lod (.var n)) k
abbrev O (n:Nat) (k:Sx):Sx:= .og (.lenS (.var n)) k
abbrev J (s n m:Nat) (k:Sx):Sx:= .og (.idx s (.var n) (.var m)) k
abbrev FL (o n:Nat) (k:Sx):Sx:= .og (.fldA o (.var n)) (.og (.lod (.var 0)) k)
abbrev AF (n o:Nat) (k:Sx):Sx:= .og (.anil (.var n)) (.og (.fldA o (.var 0)) (.og (.lod (.var 0)) k))
end X
noncomputable abbrev TP:Program:=Tryz.prog
noncomputable abbrev TT:Tab:=tab TP
theorem TT_ok:TabOk TP TT:=tab_ok TP (by decide+kernel)
abbrev fn_laws_FnExactCoreFor:FuncId:=3
abbrev fn_spec_CoreFor:FuncId:=5
abbrev fn_impl_CoreFor:FuncId:=6
abbrev fn_laws_eqTextResult:FuncId:=7
abbrev fn_spec_l8Cores:FuncId:=13
abbrev fn_spec_CoreText:FuncId:=14
abbrev fn_impl_readCore:FuncId:=15
abbrev fn_impl_CoreText:FuncId:=16
abbrev fn_spec_ReadData:FuncId:=22
abbrev fn_spec_ExpandData:FuncId:=23
abbrev fn_spec_l4Fault:FuncId:=24
abbrev fn_spec_l4Text:FuncId:=25
abbrev fn_impl_ReadData:FuncId:=26
abbrev fn_impl_ExpandData:FuncId:=27
abbrev fn_impl_CoreFault:FuncId:=28
abbrev fn_impl_coreText:FuncId:=29
abbrev fn_impl_kids:FuncId:=30
abbrev fn_spec_TokensOf:FuncId:=36
abbrev fn_spec_l3Read:FuncId:=37
abbrev fn_spec_l3Fault:FuncId:=38
abbrev fn_spec_l4Expand:FuncId:=39
abbrev fn_spec_l4One:FuncId:=40
abbrev fn_spec_l4Many:FuncId:=41
abbrev fn_spec_l4Kids:FuncId:=42
abbrev fn_spec_l3Write:FuncId:=43
abbrev fn_spec_l1Digits:FuncId:=44
abbrev fn_impl_TokensOf:FuncId:=45
abbrev fn_impl_dataReader_token:FuncId:=46
abbrev fn_impl_DataFault:FuncId:=47
abbrev fn_impl_expanded:FuncId:=48
abbrev fn_impl_in:FuncId:=49
abbrev fn_impl_oneCoreFault:FuncId:=50
abbrev fn_impl_hasKids:FuncId:=51
abbrev fn_impl_written:FuncId:=52
abbrev fn_impl_dec:FuncId:=53
abbrev fn_strings_Join:FuncId:=54
abbrev fn_spec_l2Tokens:FuncId:=64
abbrev fn_spec_l3Token:FuncId:=65
abbrev fn_spec_l3Bare:FuncId:=66
abbrev fn_spec_l1Num:FuncId:=67
abbrev fn_spec_l1In:FuncId:=68
abbrev fn_spec_l2Sym:FuncId:=69
abbrev fn_spec_l3Line:FuncId:=70
abbrev fn_spec_l3Deep:FuncId:=71
abbrev fn_spec_l4Put:FuncId:=72
abbrev fn_spec_l3Sub:FuncId:=73
abbrev fn_spec_IsKeyword:FuncId:=74
abbrev fn_spec_l4Find:FuncId:=75
abbrev fn_spec_l3Parts:FuncId:=76
abbrev fn_spec_l4Form:FuncId:=77
abbrev fn_spec_l4All:FuncId:=78
abbrev fn_spec_l4Bare:FuncId:=79
abbrev fn_spec_l4Line:FuncId:=80
abbrev fn_spec_l4Named:FuncId:=81
abbrev fn_spec_l4Name:FuncId:=82
abbrev fn_spec_l4Place:FuncId:=83
abbrev fn_strings_Cut:FuncId:=84
abbrev fn_strings_IndexByte:FuncId:=85
abbrev fn_strings_IndexAny:FuncId:=86
abbrev fn_impl_wordToken:FuncId:=87
abbrev fn_impl_dataReader_add:FuncId:=88
abbrev fn_impl_dataReader_top:FuncId:=89
abbrev fn_impl_dataReader_whole:FuncId:=90
abbrev fn_impl_datumFault:FuncId:=91
abbrev fn_impl_expanded_1:FuncId:=92
abbrev fn_impl_expander_form:FuncId:=93
abbrev fn_impl_failIf:FuncId:=94
abbrev fn_impl_coreForm:FuncId:=95
abbrev fn_impl_isUp:FuncId:=96
abbrev fn_impl_oneCoreFault_1:FuncId:=97
abbrev fn_impl_named:FuncId:=98
abbrev fn_impl_isName:FuncId:=99
abbrev fn_impl_lambdaOut:FuncId:=100
abbrev fn_impl_boolText:FuncId:=101
abbrev fn_impl_parts:FuncId:=102
abbrev fn_spec_l2Skip:FuncId:=114
abbrev fn_spec_l2Mark:FuncId:=115
abbrev fn_spec_l2End:FuncId:=116
abbrev fn_spec_l2Word:FuncId:=117
abbrev fn_spec_l3Begin:FuncId:=118
abbrev fn_spec_l3Whole:FuncId:=119
abbrev fn_spec_l3Put:FuncId:=120
abbrev fn_spec_l2Byte:FuncId:=121
abbrev fn_spec_l4Lambda:FuncId:=122
abbrev fn_spec_l4Let:FuncId:=123
abbrev fn_spec_l4Assign:FuncId:=124
abbrev fn_spec_l4Around:FuncId:=125
abbrev fn_strings_makeASCIISet:FuncId:=130
abbrev fn_strings_asciiSet_contains:FuncId:=131
abbrev fn_impl_ParseNum:FuncId:=132
abbrev fn_impl_SymFault:FuncId:=133
abbrev fn_impl_kindFault:FuncId:=134
abbrev fn_impl_datumFault_1:FuncId:=135
abbrev fn_impl_deep:FuncId:=136
abbrev fn_impl_expander_put:FuncId:=137
abbrev fn_impl_sub:FuncId:=138
abbrev fn_impl_IsKeyword:FuncId:=139
abbrev fn_impl_find:FuncId:=140
abbrev fn_impl_expander_keyword:FuncId:=141
abbrev fn_impl_expander_all:FuncId:=142
abbrev fn_spec_l1Parse:FuncId:=148
abbrev fn_spec_l4Param:FuncId:=149
abbrev fn_spec_l4Bind:FuncId:=150
abbrev fn_impl_NumFault:FuncId:=157
abbrev fn_strings_Trim:FuncId:=158
abbrev fn_slices_Contains:FuncId:=159
abbrev fn_slices_Index:FuncId:=160
abbrev fn_impl_expander_names:FuncId:=161
abbrev fn_impl_inner:FuncId:=162
abbrev fn_impl_expander_let:FuncId:=163
abbrev fn_strings_trimLeftByte:FuncId:=174
abbrev fn_strings_trimRightByte:FuncId:=175
abbrev fn_strings_trimLeftASCII:FuncId:=176
abbrev fn_strings_trimRightASCII:FuncId:=177
abbrev fn_strings_trimLeftUnicode:FuncId:=178
abbrev fn_strings_trimRightUnicode:FuncId:=179
abbrev fn_slices_Clone_180:FuncId:=180
abbrev ty_LLi:TypeId:=51
abbrev ty_LLs:TypeId:=195
abbrev ty_Lb:TypeId:=135
abbrev ty_RiE:TypeId:=97
abbrev ty_s:TypeId:=9
theorem mk_LLi {n m:Int} {σ:AH} {k:AV→AH→Prop} (h0:0≤n) (h1:n≤m) (h2:m≤1099511627776) (h:∀φ,σ φ=none→k (.own φ 0 0 n.toNat) (σ.set φ ⟨0,1,List.replicate m.toNat [nilS]⟩)):amake TT ty_LLi (.val (.int .i64 n)) (.val (.int .i64 m)) σ k:=amake_info (by kernel_rfl) h0 h1 h2 h
end Go.Proofs.YtbppopcpgcgkkaaGreatDoor.E
