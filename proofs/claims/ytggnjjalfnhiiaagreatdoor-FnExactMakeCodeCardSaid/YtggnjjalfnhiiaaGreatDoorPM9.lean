import Derived.Test.YtggnjjalfnhiiaaGreatDoorPM8
import Derived.WalkKit
import Derived.Test.YtggnjjalfnhiiaaGreatDoorProg
/- The program and its types, by name. Printed by mkg.py. -/
set_option maxRecDepth 1000000
namespace Go.Proofs.YtggnjjalfnhiiaaGreatDoor.E
open Go Go.RowKit
set_option linter.unusedVariables false
set_option linter.unusedSectionVars false
variable [Lam]
namespace X
abbrev Z (n:Nat):SI:= .var n
abbrev Y (n:Int):SI:= .lit (iv n)
abbrev pn [Lam] (R:AEnd→AH→Prop):AV→AH→Prop:=fun v σ=>apan v σ R
abbrev L (n:Nat):OE SI:= .lod (.var n)
abbrev N (n:Nat):OE SI:= .lenS (.var n)
abbrev A (n:Nat):OE SI:= .anil (.var n)
abbrev F (o n:Nat):OE SI:= .fldA o (.var n)
abbrev I (s n m:Nat):OE SI:= .idx s (.var n) (.var m)
abbrev B (op:BinOp) (x y:SI):OE SI:= .ibin op x y
abbrev P (n:Nat) (a b:Sx):Sx:= .apick (.var n) a b
abbrev G (n:Nat) (e:OE SI) (k:Sx):Sx:= .gog (.var n) false false e k
abbrev H (n:Nat) (e:OE SI) (k:Sx):Sx:= .gog (.var n) true false e k
abbrev Q (e:OE SI) (k:Sx):Sx:= .og e k
abbrev D (op:BinOp) (x y:SI) (k:Sx):Sx:= .og (.ibin op x y) k
abbrev M (n:Nat) (k:Sx):Sx:= .og (.lod (.var n)) k
abbrev O (n:Nat) (k:Sx):Sx:= .og (.lenS (.var n)) k
abbrev J (s n m:Nat) (k:Sx):Sx:= .og (.idx s (.var n) (.var m)) k
abbrev FL (o n:Nat) (k:Sx):Sx:= .og (.fldA o (.var n)) (.og (.lod (.var 0)) k)
abbrev AF (n o:Nat) (k:Sx):Sx:= .og (.anil (.var n)) (.og (.fldA o (.var 0)) (.og (.lod (.var 0)) k))
end X
noncomputable abbrev TP:Program:=Tryz.prog
noncomputable abbrev TT:Tab:=tab TP
theorem Qg:TabOk TP TT:=QyX TP (by decide+kernel)
abbrev UD:FuncId:=4
abbrev Qeq:FuncId:=11
abbrev Qer:FuncId:=12
abbrev Qes:FuncId:=13
abbrev QbB:FuncId:=14
abbrev Um:FuncId:=15
abbrev Qbf:FuncId:=16
abbrev UR:FuncId:=17
abbrev Ux:FuncId:=22
abbrev Qcg:FuncId:=31
abbrev Qet:FuncId:=32
abbrev Qfp:FuncId:=33
abbrev Qcy:FuncId:=34
abbrev Qeu:FuncId:=35
abbrev Qc6:FuncId:=36
abbrev Qc7:FuncId:=37
abbrev Qim:FuncId:=54
abbrev QmV:FuncId:=55
abbrev QlP:FuncId:=56
abbrev Qev:FuncId:=57
abbrev QaA:FuncId:=58
abbrev QaB:FuncId:=59
abbrev Qn8:FuncId:=60
abbrev Qc8:FuncId:=61
abbrev Qdz:FuncId:=62
abbrev QgK:FuncId:=63
abbrev Qin:FuncId:=64
abbrev Qfq:FuncId:=65
abbrev Qfr:FuncId:=66
abbrev Qew:FuncId:=68
abbrev Qfs:FuncId:=70
abbrev QhN:FuncId:=72
abbrev Qio:FuncId:=77
abbrev Qex:FuncId:=79
abbrev Qft:FuncId:=80
abbrev QgL:FuncId:=81
abbrev QgM:FuncId:=82
abbrev Qfu:FuncId:=83
abbrev Qfv:FuncId:=84
abbrev Qey:FuncId:=85
abbrev Qez:FuncId:=86
abbrev QaC:FuncId:=87
abbrev Qch:FuncId:=88
abbrev QaD:FuncId:=89
abbrev Qjj:FuncId:=90
abbrev Qip:FuncId:=91
abbrev QeA:FuncId:=92
abbrev Qc9:FuncId:=93
abbrev Qda:FuncId:=94
abbrev Qdp:FuncId:=96
abbrev Qfw:FuncId:=97
abbrev QeB:FuncId:=102
abbrev QdA:FuncId:=103
abbrev QeC:FuncId:=109
abbrev QeD:FuncId:=110
abbrev Qdb:FuncId:=111
abbrev QaT:FuncId:=112
abbrev QaE:FuncId:=113
abbrev QgN:FuncId:=114
abbrev Qfx:FuncId:=115
abbrev QeE:FuncId:=116
abbrev Qdc:FuncId:=117
abbrev Qjk:FuncId:=118
abbrev QeF:FuncId:=119
abbrev JE:FuncId:=120
abbrev US:FuncId:=121
abbrev Qfy:FuncId:=122
abbrev Qa7:FuncId:=123
abbrev QgO:FuncId:=124
abbrev QdB:FuncId:=125
abbrev QmW:FuncId:=126
abbrev QgP:FuncId:=128
abbrev QgQ:FuncId:=129
abbrev Qdq:FuncId:=130
abbrev QgR:FuncId:=131
abbrev QgS:FuncId:=132
abbrev Qfz:FuncId:=135
abbrev Qdd:FuncId:=136
abbrev Qci:FuncId:=143
abbrev QeG:FuncId:=144
abbrev QgT:FuncId:=145
abbrev QbC:FuncId:=146
abbrev QgU:FuncId:=147
abbrev Qbq:FuncId:=148
abbrev Qbr:FuncId:=149
abbrev Qjl:FuncId:=150
abbrev QeH:FuncId:=151
abbrev QgV:FuncId:=152
abbrev QbD:FuncId:=153
abbrev Uy:FuncId:=154
abbrev QeI:FuncId:=155
abbrev Q7:FuncId:=156
abbrev QaZ:FuncId:=157
abbrev QaU:FuncId:=158
abbrev QqY:FuncId:=161
abbrev Qqe:FuncId:=162
abbrev Qa0:FuncId:=163
abbrev QaF:FuncId:=164
abbrev Qat:FuncId:=165
abbrev Qpk:FuncId:=166
abbrev QoX:FuncId:=167
abbrev QdC:FuncId:=168
abbrev Qjm:FuncId:=169
abbrev Qcj:FuncId:=170
abbrev QeJ:FuncId:=171
abbrev QeK:FuncId:=174
abbrev Qck:FuncId:=175
abbrev Qbs:FuncId:=176
abbrev Qiq:FuncId:=177
abbrev QdD:FuncId:=178
abbrev QcK:FuncId:=179
abbrev QgW:FuncId:=180
abbrev Qdr:FuncId:=181
abbrev Qn9:FuncId:=182
abbrev QhO:FuncId:=183
abbrev QiY:FuncId:=184
abbrev QdE:FuncId:=185
abbrev Qbg:FuncId:=186
abbrev Qbh:FuncId:=187
abbrev QaG:FuncId:=188
abbrev Qjn:FuncId:=189
abbrev J8:FuncId:=190
abbrev J9:FuncId:=191
abbrev UY:FuncId:=202
abbrev QbE:FuncId:=206
abbrev QgX:FuncId:=207
abbrev QgY:FuncId:=208
abbrev Qir:FuncId:=209
abbrev QgZ:FuncId:=210
abbrev QfA:FuncId:=211
abbrev QfB:FuncId:=212
abbrev Qis:FuncId:=213
abbrev QeL:FuncId:=214
abbrev Qit:FuncId:=215
abbrev QeM:FuncId:=216
abbrev QlQ:FuncId:=221
abbrev Un:FuncId:=222
abbrev Qln:FuncId:=223
abbrev QdF:FuncId:=224
abbrev Qjo:FuncId:=225
abbrev QaH:FuncId:=226
abbrev Qaa:FuncId:=227
abbrev QfC:FuncId:=236
abbrev Qcl:FuncId:=237
abbrev Qg0:FuncId:=238
abbrev UT:FuncId:=245
abbrev Qaq:FuncId:=246
abbrev Qbi:FuncId:=247
abbrev Qiu:FuncId:=248
abbrev Qcm:FuncId:=249
abbrev QiZ:FuncId:=254
abbrev Qy1:TypeId:=157
abbrev Qy2:TypeId:=283
abbrev Qso:TypeId:=54
abbrev Qz5:TypeId:=59
abbrev Qz6:TypeId:=82
abbrev Qg1:TypeId:=154
abbrev Qiv:TypeId:=163
abbrev ty_s:TypeId:=9
theorem QvV {n m:Int} {σ:AH} {k:AV→AH→Prop} (h0:0≤n) (h1:n≤m) (h2:m≤1099511627776) (h:∀φ,σ φ=none→k (.own φ 0 0 n.toNat) (σ.set φ ⟨0,1,List.replicate m.toNat [(iv 0)]⟩)):QcT TT Qz6 (.val (.int .i64 n)) (.val (.int .i64 m)) σ k:=QmS (by kernel_rfl) h0 h1 h2 h
theorem Qy3 {n m:Int} {σ:AH} {k:AV→AH→Prop} (h0:0≤n) (h1:n≤m) (h2:m≤1099511627776) (h:∀φ,σ φ=none→k (.own φ 0 0 n.toNat) (σ.set φ ⟨0,1,List.replicate m.toNat [nilS]⟩)):QcT TT Qy1 (.val (.int .i64 n)) (.val (.int .i64 m)) σ k:=QmS (by kernel_rfl) h0 h1 h2 h
theorem den0 {x:AV} {r:List AV} {d:AV}:(x::r).getD 0 d=x:=rfl
theorem den1 {x:AV} {r:List AV} {d:AV} {n:Nat}:(x::r).getD (n+1) d=r.getD n d:=rfl
theorem den2 {x:Kont} {r:List Kont} {d:Kont}:(x::r).getD 0 d=x:=rfl
theorem den3 {x:Kont} {r:List Kont} {d:Kont} {n:Nat}:(x::r).getD (n+1) d=r.getD n d:=rfl
theorem den4 {x:AV} {r:List AV}:(x::r).drop 1=r:=rfl
end Go.Proofs.YtggnjjalfnhiiaaGreatDoor.E
