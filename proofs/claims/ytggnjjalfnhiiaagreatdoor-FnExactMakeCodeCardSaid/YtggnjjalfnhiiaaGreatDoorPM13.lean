import Derived.Test.YtggnjjalfnhiiaaGreatDoorPM12
import Derived.Shelf.SortM.Plain
import Derived.Shelf.SortM.SortNone
import Derived.Shelf.SlicesG.CompactI
import Derived.Lib.SortBridge
import Derived.Test.YtggnjjalfnhiiaaGreatDoorProg
import Derived.Lib.ParseIntB
import Derived.Lib.ItoaNum
import Derived.Lib.ItoaMem
import Derived.Shelf.Strconv.ParseIntPublic10
import Derived.Shelf.Strconv.Itoa4
import Derived.Lib.ParseIntBTie
import Derived.WalkKit
import Derived.BigCall
import Derived.Deep.DeepFit
import Derived.Lib.AppendIntMem
import Derived.Shelf.Strings.IndexAnyAll
import Derived.Shelf.Strings.Cut
import Derived.Shelf.Small.Strs
import Derived.Lib.OthersKept
import Derived.Laws.RangeAny
import Derived.Shelf.Small.Utf8
import Derived.Laws.Runes
import Derived.WalkMore
import Derived.Handy
import Derived.Shelf.RegionOpenPlain
import Derived.Laws.Strings3
/- What functions come to. Printed by mkg.py. -/
set_option maxRecDepth 1000000
namespace Go.Proofs.YtggnjjalfnhiiaaGreatDoor.E
open Go Go.RowKit X
set_option linter.unusedVariables false
set_option linter.unusedSectionVars false
variable [Lam] {a0 a1 a2 a3 a4 a5 a6:AV} {σ:AH} {R:AEnd→AH→Prop}
def x223:Sx:=J 4 1 0 (Q (.lodA 4 (Z 0)) (.bsl 4 [(iv 0),(iv 0),(iv 0),(str ⟨#[]⟩)] 1 [(0,(Z 0))] (Q (.idx 4 (Z 0) (Y 0)) (Q (F 1 0) (.sto 1 (Z 0) (Y (-1)) (.jn 31 [5] (.ret (Z 0)) (D .add (Z 5) (Y 1) (Q (.slc 4 (Z 7) (some (Z 0)) none none) (O 0 (.lp [1,5,19,20,21] (D .lss (Z 4) (Z 3) (P 0 (J 4 3 5 (Q (.lodA 4 (Z 0)) (.new [(iv 0),(iv 0),(iv 0),(str ⟨#[]⟩)] (.sto 4 (Z 0) (Z 1) (Q (F 1 0) (M 0 (D .lss (Z 0) (Z 6) (P 0 (.jump 1 [(Z 8)]) (Q (F 1 3) (M 0 (D .sub (Z 0) (Z 9) (Q (F 1 6) (.sto 1 (Z 0) (Z 1) (.frz 8 (Z 7) (Q (.lodA 4 (Z 0)) (.bsl 4 [(iv 0),(iv 0),(iv 0),(str ⟨#[]⟩)] 1 [(0,(Z 0))] (.app 4 (Z 15) (Z 0) (D .add (Z 19) (Y 1) (.jump 0 [(Z 16),(Z 1),(Z 18),(Z 19),(Z 0)]))))))))))))))))))) (.jump 1 [(Z 2)]))) [(Z 8),(Z 5),(Z 1),(Z 0),(Y 0)]))))))))))
theorem QxJ:okF TT Tryz.f223 2 x223=true:=by decide+kernel
def Qnb (a0 a1:AV) (σ:AH) (R:AEnd→AH→Prop):Prop:=den TP TT R x223 [a1,a0] [] σ
theorem Qpl (h:Qnb a0 a1 σ R):acall TP Qln [a0,a1] σ R:=Qb (ρ:=[a1,a0]) Qg Tryz.func223 rfl x223 QxJ rfl h
def x224:Sx:= .bsl 1 [(str ⟨#[]⟩)] 7 [(0,(.lit (.val (.string ⟨#[113,117,111,116,101]⟩)))),(1,(.lit (.val (.string ⟨#[105,102]⟩)))),(2,(.lit (.val (.string ⟨#[108,97,109,98,100,97]⟩)))),(3,(.lit (.val (.string ⟨#[108,101,116]⟩)))),(4,(.lit (.val (.string ⟨#[98,101,103,105,110]⟩)))),(5,(.lit (.val (.string ⟨#[100,101,102,105,110,101]⟩)))),(6,(.lit (.val (.string ⟨#[115,101,116,33]⟩))))] (.call 245 [(Z 0),(Z 1)] (.ret (Z 0)))
theorem QxK:okF TT Tryz.f224 1 x224=true:=by decide+kernel
def QeX (a0:AV) (σ:AH) (R:AEnd→AH→Prop):Prop:=den TP TT R x224 [a0] [] σ
theorem Qi5 (h:QeX a0 σ R):acall TP QdF [a0] σ R:=Qb (ρ:=[a0]) Qg Tryz.func224 rfl x224 QxK rfl h
def x225:Sx:=O 1 (.lp [0,1,10,11] (D .lss (Z 3) (Z 2) (P 0 (O 1 (D .sub (Z 0) (Y 1) (D .sub (Z 0) (Z 6) (J 1 4 0 (M 0 (.call 246 [(Z 0),(Z 7)] (D .geq (Z 0) (Y 0) (P 0 (.rets [(Z 11),(Z 1),(.lit (.val (.bool true)))]) (D .add (Z 11) (Y 1) (.jump 0 [(Z 9),(Z 10),(Z 11),(Z 0)])))))))))) (.rets [(Y 0),(Y 0),(.lit (.val (.bool false)))]))) [(Z 2),(Z 1),(Z 0),(Y 0)])
theorem QxL:okF TT Tryz.f225 2 x225=true:=by decide+kernel
def Qlv (a0 a1:AV) (σ:AH) (R:AEnd→AH→Prop):Prop:=den TP TT R x225 [a1,a0] [] σ
theorem Qoh (h:Qlv a0 a1 σ R):acall TP Qjo [a0,a1] σ R:=Qb (ρ:=[a1,a0]) Qg Tryz.func225 rfl x225 QxL rfl h
def x226:Sx:=O 2 (Q (.sbin .eql (Z 4) (.lit (.val (.string ⟨#[113,117,111,116,101]⟩)))) (P 0 (D .neq (Z 1) (Y 1) (.call 158 [(Z 0),(Y 1)] (.ord [0,1,2,3,4,5,6,7,8,9,10,11] [0,0,0,4,12,28,0,64,192,508,1022,2047] (Q (A 8) (Q (F 0 0) (M 0 (Q (.idx 1 (Z 9) (Y 0)) (M 0 (.call 223 [(Z 2),(Z 0)] (.wat [] (Q (.bld [(iv 0),(iv 0),(iv 0),(iv 0),(str ⟨#[]⟩),nilS] [(0,1),(1,1),(2,1),(3,1),(4,1),(5,1)] [(0,(Y 1)),(1,(Z 11)),(5,(Z 0))]) (.call 222 [(Z 15),(Z 0)] (.wat [] (.rets [])))))))))))))) (Q (.sbin .eql (Z 5) (.lit (.val (.string ⟨#[105,102]⟩)))) (P 0 (D .neq (Z 2) (Y 3) (.call 158 [(Z 0),(Y 1)] (Q (.bld [(iv 0),(iv 0),(iv 0),(iv 0),(str ⟨#[]⟩),nilS] [(0,1),(1,1),(2,1),(3,1),(4,1),(5,1)] [(0,(Y 4)),(1,(Z 6))]) (.call 222 [(Z 10),(Z 0)] (.call 227 [(Z 11),(Z 0),(Z 9),(Z 7)] (.rets [])))))) (Q (.sbin .eql (Z 6) (.lit (.val (.string ⟨#[98,101,103,105,110]⟩)))) (P 0 (D .eql (Z 3) (Y 0) (.call 158 [(Z 0),(Y 1)] (Q (.bld [(iv 0),(iv 0),(iv 0),(iv 0),(str ⟨#[]⟩),nilS] [(0,1),(1,1),(2,1),(3,1),(4,1),(5,1)] [(0,(Y 6)),(1,(Z 7))]) (.call 222 [(Z 11),(Z 0)] (.call 227 [(Z 12),(Z 0),(Z 10),(Z 8)] (.rets [])))))) (Q (.sbin .eql (Z 7) (.lit (.val (.string ⟨#[108,97,109,98,100,97]⟩)))) (P 0 (.ord [0,1,2,3,4,5,6,7,8,9,10,11,12,13,14,15] [0,1,3,7,15,31,63,7,135,391,1023,2047,4095,8191,16383,32767] (D .neq (Z 4) (Y 2) (G 0 (.ret (Z 10)) (G 1 (A 0) (G 2 (F 0 0) (G 3 (L 0) (G 4 (.ret (Z 12)) (G 5 (.idx 1 (Z 0) (Y 0)) (G 6 (L 0) (G 7 (I 4 3 0) (G 8 (F 0 0) (G 9 (L 0) (G 10 (B .neq (Z 0) (Y 4)) (Q (.pickV (Z 11) (.lit (.val (.bool true))) (Z 0)) (.call 158 [(Z 0),(Y 1)] (.wat [] (.ord [0,1,2,3,4,5,6,7,8,9,10,11,12,13,14] [0,0,2,6,14,0,32,96,254,511,1023,2047,2047,4095,16383] (Q (A 23) (Q (F 0 0) (M 0 (Q (.idx 1 (Z 24) (Y 0)) (M 0 (.call 77 [(Z 2),(Z 0)] (.wat [] (.call 247 [(Z 29),(Z 0)] (.wat [] (Q (.aext (Z 0) 0) (Q (.aext (Z 1) 1) (Q (.aun .not (Z 0)) (.call 158 [(Z 0),(Y 1)] (O 3 (D .gtr (Z 0) (Y 3) (.call 158 [(Z 0),(Y 2)] (.ord [0,1,2,3,4,5,6,7,8,10,11,9,12,13] [0,0,2,6,0,0,0,64,224,496,0,0,4080,8191] (Q (.idx 1 (Z 35) (Y 1)) (M 0 (O 8 (Q (.bld [(iv 0),(iv 0),(iv 0),(iv 0),(str ⟨#[]⟩),nilS] [(0,1),(1,1),(2,1),(3,1),(4,1),(5,1)] [(0,(Y 5)),(1,(Z 37)),(2,(Z 0))]) (.call 222 [(Z 41),(Z 0)] (.wat [⟨none,(.lod (Z 4)),(Z 3)⟩,⟨none,(.idx 1 (Z 40) (Y 1)),(Z 4)⟩] (.call 248 [(Z 38),(Z 11)] (.wat [⟨none,(.lod (Z 5)),(Z 4)⟩,⟨none,(.idx 1 (Z 41) (Y 1)),(Z 5)⟩] (.call 190 [(Z 43),(Z 4),(Z 1),(Z 0)] (.wat [] (.rets []))))))))))))))))))))))))))))))))))))))))))))) (Q (.sbin .eql (Z 8) (.lit (.val (.string ⟨#[108,101,116]⟩)))) (P 0 (.call 249 [(Z 10),(Z 8),(Z 7),(Z 6)] (.rets [])) (D .neq (Z 5) (Y 2) (.call 158 [(Z 0),(Y 1)] (Q (.slc 1 (Z 10) none (some (Y 1)) none) (.call 247 [(Z 13),(Z 0)] (Q (.aext (Z 0) 0) (Q (.aext (Z 1) 1) (Q (.aun .not (Z 0)) (G 0 (.ret (Z 16)) (G 1 (.sbin .eql (Z 0) (.lit (.val (.string ⟨#[100,101,102,105,110,101]⟩)))) (G 2 (.ret (Z 0)) (.gog (Z 0) true true (.ret (Z 17)) (.gog (Z 1) true true (B .geq (Z 0) (Y 0)) (G 5 (.pickV (Z 2) (Z 0) (.lit (.val (.bool false)))) (Q (.pickV (Z 6) (.lit (.val (.bool true))) (Z 0)) (.call 158 [(Z 0),(Y 1)] (.jn 491519 [0,2,3,4,13,15] (.ord [0,1,2,3,4,5,6,7,8,9,10,12,11,13] [0,0,2,6,0,0,0,0,128,384,992,2032,0,8191] (Q (.idx 1 (Z 1) (Y 1)) (M 0 (Q (.idx 1 (Z 6) (Y 0)) (M 0 (Q (.bld [(iv 0),(iv 0),(iv 0),(iv 0),(str ⟨#[]⟩),nilS] [(0,1),(1,1),(2,1),(3,1),(4,1),(5,1)] [(0,(Z 9)),(1,(Z 6)),(4,(Z 0))]) (.call 222 [(Z 5),(Z 0)] (.wat [⟨none,(.lod (Z 5)),(Z 4)⟩,⟨none,(.idx 1 (Z 7) (Y 1)),(Z 5)⟩] (.call 190 [(Z 6),(Z 4),(Z 0),(Z 9)] (.wat [] (.rets []))))))))))) (Q (.sbin .eql (Z 24) (.lit (.val (.string ⟨#[115,101,116,33]⟩)))) (P 0 (Q (.idx 1 (Z 11) (Y 0)) (M 0 (.call 225 [(Z 24),(Z 0)] (Q (.aext (Z 0) 0) (Q (.aext (Z 1) 1) (Q (.aext (Z 2) 2) (.call 158 [(Z 0),(Y 1)] (.jump 0 [(Z 33),(Z 31),(Z 30),(Z 29),(Z 18),(Y 7)])))))))) (.jump 0 [(Z 26),(Z 24),(Z 23),(Z 22),(Z 11),(Y 8)])))))))))))))))))))))))))))))
theorem QxM:okF TT Tryz.f226 5 x226=true:=by decide+kernel
def Qa4 (a0 a1 a2 a3 a4:AV) (σ:AH) (R:AEnd→AH→Prop):Prop:=den TP TT R x226 [a4,a3,a2,a1,a0] [] σ
theorem Qdv (h:Qa4 a0 a1 a2 a3 a4 σ R):acall TP QaH [a0,a1,a2,a3,a4] σ R:=Qb (ρ:=[a4,a3,a2,a1,a0]) Qg Tryz.func226 rfl x226 QxM rfl h
def x227:Sx:=O 1 (.lp [0,1,3,10,11,12] (D .lss (Z 5) (Z 4) (P 0 (J 1 4 6 (M 0 (.call 190 [(Z 3),(Z 0),(Z 4),(Z 5)] (D .add (Z 9) (Y 1) (.jump 0 [(Z 5),(Z 6),(Z 7),(Z 8),(Z 9),(Z 0)]))))) (.rets []))) [(Z 4),(Z 3),(Z 1),(Z 2),(Z 0),(Y 0)])
theorem QxN:okF TT Tryz.f227 4 x227=true:=by decide+kernel
def QcD (a0 a1 a2 a3:AV) (σ:AH) (R:AEnd→AH→Prop):Prop:=den TP TT R x227 [a3,a2,a1,a0] [] σ
theorem Qgo (h:QcD a0 a1 a2 a3 σ R):acall TP Qaa [a0,a1,a2,a3] σ R:=Qb (ρ:=[a3,a2,a1,a0]) Qg Tryz.func227 rfl x227 QxN rfl h
def x236:Sx:= .jn 15 [0,4] (Q (.lenStr (Z 0)) (D .sub (Z 0) (Z 2) (D .lss (Z 0) (Y 1) (G 0 (.ret (Z 3)) (G 1 (.lenStr (Z 0)) (G 2 (.ret (Z 6)) (G 3 (B .sub (Z 1) (Z 0)) (G 4 (B .gtr (Z 0) (Y 10)) (Q (.pickV (Z 5) (.lit (.val (.bool true))) (Z 0)) (P 0 (.rets [(Y 0),(.lit (.val (.bool false)))]) (.lp [0,4,5,6] (Q (.lenStr (Z 0)) (D .lss (Z 4) (Z 0) (P 0 (Q (.idxStr (Z 2) (Z 5)) (D .lss (Z 0) (.lit (.val (.int .u8 48))) (G 0 (.ret (Z 4)) (G 1 (.ret (Z 8)) (G 2 (.idxStr (Z 1) (Z 0)) (G 3 (B .gtr (Z 0) (.lit (.val (.int .u8 57)))) (Q (.pickV (Z 4) (.lit (.val (.bool true))) (Z 0)) (P 0 (.rets [(Y 0),(.lit (.val (.bool false)))]) (D .mul (Z 11) (Y 10) (Q (.idxStr (Z 10) (Z 13)) (D .sub (Z 0) (.lit (.val (.int .u8 48))) (Q (.conv .i64 (Z 0)) (D .add (Z 3) (Z 0) (D .add (Z 17) (Y 1) (.jump 0 [(Z 15),(Z 16),(Z 1),(Z 0)]))))))))))))))) (.jn 255 [0,5] (.jn 511 [2,3] (.rets [(Z 0),(Z 1)]) (.call 130 [(Z 1)] (H 0 (.ret (Z 2)) (.gpick (Z 1) (.call 22 [(Z 0)] (Q (.sbin .eql (Z 0) (Z 3)) (.jump 0 [(Z 5),(Z 0)]))) (.jump 0 [(Z 3),(.lit (.val (.bool false)))]) (.no))))) (D .eql (Z 3) (Y 1) (P 0 (Q (.aun .neg (Z 5)) (.jump 0 [(Z 4),(Z 0)])) (.jump 0 [(Z 3),(Z 5)]))))))) [(Z 9),(Z 10),(Y 0),(Z 10)]))))))))))) (Q (.lenStr (Z 0)) (D .gtr (Z 0) (Y 0) (H 0 (.ret (Z 2)) (H 1 (.idxStr (Z 0) (Y 0)) (H 2 (B .eql (Z 0) (.lit (.val (.int .u8 45)))) (Q (.pickV (Z 3) (Z 0) (.lit (.val (.bool false)))) (P 0 (.jump 0 [(Z 6),(Y 1)]) (.jump 0 [(Z 6),(Y 0)]))))))))
theorem QxO:okF TT Tryz.f236 1 x236=true:=by decide+kernel
def Qhm (a0:AV) (σ:AH) (R:AEnd→AH→Prop):Prop:=den TP TT R x236 [a0] [] σ
theorem Qk1 (h:Qhm a0 σ R):acall TP QfC [a0] σ R:=Qb (ρ:=[a0]) Qg Tryz.func236 rfl x236 QxO rfl h
def x237:Sx:=Q (A 2) (Q (F 0 0) (M 0 (J 4 0 4 (.jn 29 [2,8,27] (P 2 (.rets [(.lit (str ⟨#[]⟩)),(Y 1)]) (.lp [2,8,9] (O 0 (D .lss (Z 3) (Z 0) (P 0 (.ord [0,1,2,3,4,5,6,7,8] [0,0,3,7,0,16,48,112,255] (J 1 2 4 (M 0 (Q (A 5) (Q (F 3 0) (M 0 (Q (.sbin .eql (Z 3) (Z 0)) (P 0 (.rets [(.lit (str ⟨#[]⟩)),(Y 1)]) (D .add (Z 10) (Y 1) (.jump 0 [(Z 9),(Z 10),(Z 0)])))))))))) (Q (A 3) (Q (F 3 0) (M 0 (.rets [(Z 0),(Y 0)]))))))) [(Z 0),(Z 1),(Y 0)])) (Q (A 0) (Q (F 0 0) (M 0 (D .neq (Z 0) (Y 3) (G 0 (.ret (Z 4)) (G 1 (A 0) (G 2 (F 3 0) (G 3 (L 0) (.gpick (Z 4) (.jump 0 [(Z 12),(Z 8),(.lit (.val (.bool true)))]) (.call 178 [(Z 0)] (.jump 0 [(Z 13),(Z 9),(Z 0)])) (.no))))))))))))))
theorem QxP:okF TT Tryz.f237 3 x237=true:=by decide+kernel
def Qhn (a0 a1 a2:AV) (σ:AH) (R:AEnd→AH→Prop):Prop:=den TP TT R x237 [a2,a1,a0] [] σ
theorem Qk2 (h:Qhn a0 a1 a2 σ R):acall TP Qcl [a0,a1,a2] σ R:=Qb (ρ:=[a2,a1,a0]) Qg Tryz.func237 rfl x237 QxP rfl h
def x238:Sx:=Q (A 2) (Q (F 2 0) (M 0 (Q (.bld [nilS,(iv 0)] [(0,1),(1,1)] [(0,(Z 4)),(1,(Z 3))]) (.bsl 2 [nilS,(iv 0)] 1 [(0,(Z 0))] (.app 2 (Z 2) (Z 0) (Q (A 8) (Q (F 2 0) (.sto 1 (Z 0) (Z 2) (Q (A 10) (Q (F 2 0) (M 0 (O 0 (D .sub (Z 0) (Y 1) (.ret (Z 0)))))))))))))))
theorem QxQ:okF TT Tryz.f238 3 x238=true:=by decide+kernel
def QiP (a0 a1 a2:AV) (σ:AH) (R:AEnd→AH→Prop):Prop:=den TP TT R x238 [a2,a1,a0] [] σ
theorem Qma (h:QiP a0 a1 a2 σ R):acall TP Qg0 [a0,a1,a2] σ R:=Qb (ρ:=[a2,a1,a0]) Qg Tryz.func238 rfl x238 QxQ rfl h
def x245:Sx:= .call 246 [(Z 1),(Z 0)] (D .geq (Z 0) (Y 0) (.ret (Z 0)))
theorem QxR:okF TT Tryz.f245 2 x245=true:=by decide+kernel
def UZ (a0 a1:AV) (σ:AH) (R:AEnd→AH→Prop):Prop:=den TP TT R x245 [a1,a0] [] σ
theorem QaK (h:UZ a0 a1 σ R):acall TP UT [a0,a1] σ R:=Qb (ρ:=[a1,a0]) Qg Tryz.func245 rfl x245 QxR rfl h
def x246:Sx:=O 1 (.lp [0,1,7,8] (D .lss (Z 3) (Z 2) (P 0 (J 1 1 4 (M 0 (Q (.sbin .eql (Z 4) (Z 0)) (P 0 (.ret (Z 7)) (D .add (Z 7) (Y 1) (.jump 0 [(Z 5),(Z 6),(Z 7),(Z 0)])))))) (.ret (Y (-1))))) [(Z 2),(Z 1),(Z 0),(Y 0)])
theorem QxS:okF TT Tryz.f246 2 x246=true:=by decide+kernel
def QaL (a0 a1:AV) (σ:AH) (R:AEnd→AH→Prop):Prop:=den TP TT R x246 [a1,a0] [] σ
theorem QbY (h:QaL a0 a1 σ R):acall TP Qaq [a0,a1] σ R:=Qb (ρ:=[a1,a0]) Qg Tryz.func246 rfl x246 QxS rfl h
def x247:Sx:= .bsl 1 [(str ⟨#[]⟩)] 0 [] (O 1 (.lp [0,6,11,12,13] (D .lss (Z 4) (Z 3) (P 0 (J 1 3 5 (M 0 (Q (A 3) (Q (F 0 0) (M 0 (J 4 0 3 (Q (.lodA 4 (Z 0)) (.new [(iv 0),(iv 0),(iv 0),(str ⟨#[]⟩)] (.sto 4 (Z 0) (Z 1) (.jn 29901 [0,6,9,11,12,13,37] (P 6 (.rets [(.lit nilS),(.lit (.val (.bool false)))]) (Q (F 3 2) (M 0 (.bsl 1 [(str ⟨#[]⟩)] 1 [(0,(Z 0))] (.app 1 (Z 4) (Z 0) (D .add (Z 9) (Y 1) (.jump 0 [(Z 5),(Z 1),(Z 8),(Z 9),(Z 0)]))))))) (.frz 13 (Z 0) (Q (F 0 0) (M 0 (D .neq (Z 0) (Y 3) (G 0 (F 3 3) (G 1 (L 0) (.gpick (Z 2) (.jump 0 [(Z 15),(Z 16),(Z 5),(Z 17),(Z 18),(Z 19),(.lit (.val (.bool true)))]) (.call 224 [(Z 0)] (G 0 (.ret (Z 17)) (G 1 (F 3 7) (G 2 (L 0) (.gpick (Z 3) (.jump 0 [(Z 19),(Z 20),(Z 9),(Z 21),(Z 22),(Z 23),(.lit (.val (.bool true)))]) (.call 245 [(Z 2),(Z 0)] (.jump 0 [(Z 20),(Z 21),(Z 10),(Z 22),(Z 23),(Z 24),(Z 0)])) (.no)))))) (.no)))))))))))))))))) (.rets [(Z 2),(.lit (.val (.bool true)))]))) [(Z 3),(Z 1),(Z 2),(Z 0),(Y 0)]))
theorem QxT:okF TT Tryz.f247 2 x247=true:=by decide+kernel
def QbZ (a0 a1:AV) (σ:AH) (R:AEnd→AH→Prop):Prop:=den TP TT R x247 [a1,a0] [] σ
theorem QeY (h:QbZ a0 a1 σ R):acall TP Qbi [a0,a1] σ R:=Qb (ρ:=[a1,a0]) Qg Tryz.func247 rfl x247 QxT rfl h
def x248:Sx:= .call 254 [(Z 1)] (.bsl 1 [nilS] 1 [(0,(Z 1))] (.app 1 (Z 1) (Z 0) (.ret (Z 0))))
theorem QxU:okF TT Tryz.f248 2 x248=true:=by decide+kernel
def QjZ (a0 a1:AV) (σ:AH) (R:AEnd→AH→Prop):Prop:=den TP TT R x248 [a1,a0] [] σ
theorem Qnc (h:QjZ a0 a1 σ R):acall TP Qiu [a0,a1] σ R:=Qb (ρ:=[a1,a0]) Qg Tryz.func248 rfl x248 QxU rfl h
def x249:Sx:= .ord [0,1,2,3,4,5,6,7,8,9,10,11,12,13,14,15,16] [0,1,3,7,15,31,63,127,15,271,783,2047,4095,8191,16383,32767,65535] (O 2 (D .neq (Z 0) (Y 2) (G 0 (.ret (Z 5)) (G 1 (A 0) (G 2 (F 0 0) (G 3 (L 0) (G 4 (.ret (Z 8)) (G 5 (.idx 1 (Z 0) (Y 0)) (G 6 (L 0) (G 7 (I 4 3 0) (G 8 (F 0 0) (G 9 (L 0) (G 10 (B .neq (Z 0) (Y 4)) (Q (.pickV (Z 11) (.lit (.val (.bool true))) (Z 0)) (.call 158 [(Z 0),(Y 1)] (.wat [] (.bsl 1 [(iv 0)] 0 [] (.bsl 1 [(iv 0)] 0 [] (.ord [0,1,2,3,4,5,6,9,7,8] [0,1,3,7,0,16,48,127,255,0] (Q (A 20) (Q (F 0 0) (M 0 (Q (.idx 1 (Z 22) (Y 0)) (M 0 (.call 77 [(Z 2),(Z 0)] (.wat [] (O 0 (.lp [0,1,2,3,8,9,42,43,44] (D .lss (Z 8) (Z 7) (P 0 (J 1 7 9 (M 0 (Q (A 3) (Q (F 0 0) (M 0 (.call 77 [(Z 0),(Z 3)] (Q (A 7) (Q (F 0 0) (M 0 (J 4 0 7 (Q (F 0 0) (M 0 (D .neq (Z 0) (Y 4) (G 0 (.ret (Z 7)) (G 1 (N 0) (G 2 (B .neq (Z 0) (Y 2)) (Q (.pickV (Z 3) (.lit (.val (.bool true))) (Z 0)) (.call 158 [(Z 0),(Y 1)] (.ord [0,1,2,3,4,6,7,8,9,10,5,11,12,13] [0,0,2,6,14,31,0,0,128,384,896,2047,4095,8191] (Q (.idx 1 (Z 12) (Y 0)) (M 0 (Q (.bslR 1 [(iv 0)] 1 [(0,(Z 0))]) (Q (.idx 1 (Z 15) (Y 1)) (M 0 (Q (.bslR 1 [(iv 0)] 1 [(0,(Z 0))]) (.app 1 (Z 29) (Z 3) (.wat [⟨none,(.lod (Z 3)),(Z 2)⟩,⟨none,(.idx 1 (Z 19) (Y 1)),(Z 3)⟩] (.app 1 (Z 31) (Z 1) (.wat [] (D .add (Z 35) (Y 1) (.jump 0 [(Z 28),(Z 29),(Z 30),(Z 31),(Z 2),(Z 1),(Z 34),(Z 35),(Z 0)]))))))))))))))))))))))))))))))) (.call 247 [(Z 1),(Z 5)] (Q (.aext (Z 0) 0) (Q (.aext (Z 1) 1) (Q (.aun .not (Z 0)) (.call 158 [(Z 0),(Y 1)] (O 3 (D .gtr (Z 0) (Y 3) (.call 158 [(Z 0),(Y 2)] (Q (.bld [(iv 0),(iv 0),(iv 0),(iv 0),(str ⟨#[]⟩),nilS] [(0,1),(1,1),(2,1),(3,1),(4,1),(5,1)] [(0,(Y 9)),(1,(Z 11))]) (.call 222 [(Z 10),(Z 0)] (.ord [0,1,2,3,4,5,6,7,8,10,11,9,12,13] [0,0,2,6,0,0,0,64,224,496,0,0,4080,8191] (Q (.idx 1 (Z 12) (Y 1)) (M 0 (O 10 (Q (.bld [(iv 0),(iv 0),(iv 0),(iv 0),(str ⟨#[]⟩),nilS] [(0,1),(1,1),(2,1),(3,1),(4,1),(5,1)] [(0,(Y 5)),(1,(Z 3)),(2,(Z 0))]) (.call 222 [(Z 15),(Z 0)] (.wat [⟨none,(.lod (Z 4)),(Z 3)⟩,⟨none,(.idx 1 (Z 17) (Y 1)),(Z 4)⟩] (.call 248 [(Z 19),(Z 13)] (.wat [⟨none,(.lod (Z 5)),(Z 4)⟩,⟨none,(.idx 1 (Z 18) (Y 1)),(Z 5)⟩] (.call 190 [(Z 17),(Z 4),(Z 1),(Z 0)] (.wat [] (.call 227 [(Z 18),(Z 7),(Z 23),(Z 21)] (.rets []))))))))))))))))))))))))) [(Z 27),(Z 26),(Z 25),(Z 24),(Z 8),(Z 7),(Z 1),(Z 0),(Y 0)]))))))))))))))))))))))))))))
theorem QxV:okF TT Tryz.f249 4 x249=true:=by decide+kernel
def QcE (a0 a1 a2 a3:AV) (σ:AH) (R:AEnd→AH→Prop):Prop:=den TP TT R x249 [a3,a2,a1,a0] [] σ
theorem Qgp (h:QcE a0 a1 a2 a3 σ R):acall TP Qcm [a0,a1,a2,a3] σ R:=Qb (ρ:=[a3,a2,a1,a0]) Qg Tryz.func249 rfl x249 QxV rfl h
def x254:Sx:= .cmp .eql 283 (Z 0) (.lit nilS) (P 0 (.ret (.lit nilS)) (.bsl 1 [nilS] 0 [] (.app 1 (Z 0) (Z 2) (.ret (Z 0)))))
theorem QxW:okF TT Tryz.f254 1 x254=true:=by decide+kernel
def Qdh (a0:AV) (σ:AH) (R:AEnd→AH→Prop):Prop:=den TP TT R x254 [a0] [] σ
theorem Qho (h:Qdh a0 σ R):acall TP QiZ [a0] σ R:=Qb (ρ:=[a0]) Qg Tryz.func254 rfl x254 QxW rfl h
end Go.Proofs.YtggnjjalfnhiiaaGreatDoor.E
/- Texts: bytes of a text, trimming by a set of bytes, names. -/
set_option linter.unusedSectionVars false
set_option linter.unusedSimpArgs false
set_option linter.unusedVariables false
namespace Go.Proofs.YtggnjjalfnhiiaaGreatDoor.E
open Go Go.RowKit
variable [L:Lam]
variable {σ:AH} {R:AEnd→AH→Prop}
abbrev u8v (n:Int):AV:= .val (.int .u8 n)
abbrev bs (l:List UInt8):ByteArray:=⟨l.toArray⟩
abbrev by8 (s:ByteArray):List UInt8:=s.data.toList
theorem Qqh (s:ByteArray):bs (by8 s)=s:=by cases s;simp
theorem Qqi (s:ByteArray):s.size=(by8 s).length:=by show s.data.size=s.data.toList.length;simp
theorem Qo (l:List UInt8):(bs l).size=l.length:=by show l.toArray.size=l.length;simp
theorem Qhp (i d:Nat):abd (some (iv (i:Nat))) d=some i:=by simp [abd]
theorem Qz8 {l:List UInt8} {i:Nat} (h:i<l.length):(bs l)[i]? =some l[i]:=by
 have h':i<(bs l).size:=by rw [Qo];exact h
 rw [getElem?_pos (bs l) i h']
 rfl
theorem Q2 {l:List UInt8} {i:Nat} (h:i<l.length):idxStr (str (bs l)) (.val (.int .i64 (i:Int)))=some (u8v (l[i].toNat:Nat)):=by
 simp only [idxStr,Int.toNat_natCast,Qz8 h]
 rw [if_pos (by omega)]
theorem Qtu {b:UInt8} {l:List UInt8}:slcStr (str (bs (b::l))) (some (.val (.int .i64 1))) none=some (str (bs l)):=by
 have e1:abd (some (AV.val (.int .i64 1))) 0=some 1:=rfl
 have e2:abd none (bs (b::l)).size=some (bs (b::l)).size:=rfl
 simp only [slcStr,e1,e2]
 rw [if_pos ⟨by rw [Qo];simp,Nat.le_refl _⟩]
 congr 3
 apply ByteArray.ext
 rw [ByteArray.data_extract,Qo];simp
theorem QuQ {b:UInt8} {l:List UInt8}:slcStr (str (bs (l++[b]))) none (some (.val (.int .i64 (l.length:Nat))))=some (str (bs l)):=by
 have e1:abd none 0=some 0:=rfl
 have e2:abd (some (AV.val (.int .i64 ((l.length:Nat):Int)))) (bs (l++[b])).size=some l.length:=Qhp _ _
 simp only [slcStr,e1,e2]
 rw [if_pos ⟨Nat.zero_le _,by rw [Qo];simp⟩]
 congr 3
 apply ByteArray.ext
 rw [ByteArray.data_extract];simp
theorem JF (a b:Int):ibin .geq (u8v a) (u8v b)=some (bv (decide (b≤a)))∧ibin .leq (u8v a) (u8v b)=some (bv (decide (a≤b)))∧ibin .lss (u8v a) (u8v b)=some (bv (decide (a<b)))∧ibin .gtr (u8v a) (u8v b)=some (bv (decide (b<a)))∧
  ibin .eql (u8v a) (u8v b)=some (bv (decide (a=b)))∧ibin .neq (u8v a) (u8v b)=some (bv (!decide (a=b))):=⟨id rfl,id rfl,id rfl,id rfl,id rfl,id rfl⟩
theorem QxX {cs:List AV} {off:Nat} {σ:AH}:lod (.rop cs off) σ=cs[off]? :=by
 unfold lod Jh
 simp only []
 rcases Nat.lt_or_ge off cs.length with h|h
 ·rw [List.drop_eq_getElem_cons h,List.getElem?_eq_getElem h]
 ·rw [List.drop_eq_nil_of_le h,List.getElem?_eq_none h]
theorem QiQ (p:UInt8→Bool):∀l:List UInt8,l.dropWhile p=[]↔∀b,b∈l→p b=true:=by
 intro l
 induction l with
 |nil=>simp
 |cons b l ih=>
  rw [List.dropWhile_cons]
  by_cases h:p b=true
  ·rw [if_pos h,ih];simp [h]
  ·rw [if_neg h];simp [h]
theorem Qqj (c:List UInt8) (b:UInt8):(c.any fun x=>x.toNat==b.toNat)=c.contains b:=by
 induction c with
 |nil=>rfl
 |cons x c ih=>
  rw [List.any_cons,List.contains_cons,ih]
  congr 1
  by_cases e:x=b
  ·subst e;simp
  ·have h1:x.toNat≠b.toNat:=fun h=>e (UInt8.toNat_inj.1 h)
   have h2:(x.toNat==b.toNat)=false:=by simpa using h1
   have h3:(b==x)=false:=by simpa using Ne.symm e
   rw [h2,h3]
def setC (c:List UInt8):List AV:=(List.range 256).map fun j=>bv (c.any fun b=>b.toNat==j)
theorem QaM (c:List UInt8):(setC c).length=256:=by simp [setC]
theorem QuR:setC []=List.replicate 256 (bv false):=by
 unfold setC
 simp only [List.any_nil]
 rw [List.map_const',List.length_range]
theorem Qoi (c:List UInt8) {n:Nat} (h:n<256):(setC c)[n]? =some (bv (c.any fun b=>b.toNat==n)):=by simp [setC,h]
theorem Qtv (c:List UInt8) (b:UInt8):(setC c).set b.toNat (bv true)=setC (c++[b]):=by
 apply List.ext_getElem?
 intro j
 by_cases hj:j<256
 ·rw [Qoi _ hj,List.getElem?_set]
  by_cases e:b.toNat=j
  ·rw [if_pos e,if_pos (by rw [QaM];exact e▸hj)];simp [e]
  ·rw [if_neg e,Qoi _ hj];simp [e]
 ·rw [List.getElem?_eq_none (by rw [List.length_set,QaM];omega),List.getElem?_eq_none (by rw [QaM];omega)]
theorem Qsp (b:UInt8):b.toNat<256:=b.toNat_lt
theorem Qgq {c:List UInt8} (hc:∀b,b∈c→b.toNat<128) (hl:c.length≤1000000) (h:R (.ret (.tup [.agg (setC c),bv true])) σ):acall TP Qa0 [str (bs c)] σ R:=by
 refine Qd2 ?_
 unfold Qbl x163;dsimp only [den,dE,di,tupL,lTup,dwat,Qe,List.map,Option.map,den0,den1,den2,den3,den4]
 intro φ hφ
 simp only [List.length_replicate]
 refine Qc4 c.length (fun i=>(str (bs c),.ptr φ 0 0 0,iv (i:Int),())) (fun i σ'=>σ'=σ.set φ ⟨0,256,[setC (c.take i)]⟩) rfl (by rw [List.take_zero,QuR]) ?_
 rintro i σ' hi rfl R' hR'
 have hF:(σ.set φ ⟨0,256,[setC (c.take i)]⟩) φ=some ⟨0,256,[setC (c.take i)]⟩:=AH.set_same ..
 have hsz:(bs c).size=c.length:=Qo c
 simp only [RR,hsz]
 by_cases hlt:i<c.length
 ·have g:(i:Int)<(c.length:Int):=by omega
  have hb:=hc _ (List.getElem_mem hlt)
  have g2:¬(128:Int)≤((c[i].toNat:Nat):Int):=by omega
  have e1:idxArr 256 1 (.ptr φ 0 0 0) (u8v (c[i].toNat:Nat))=some (.ptr φ 0 0 c[i].toNat):=by
   simp only [idxArr]
   rw [if_pos ⟨by omega,by omega⟩];simp
  simp only [g,Q2 hlt,JF,g2,e1,Qj hlt (by omega),RR]
  refine Q0 (sz:=256) (off:=c[i].toNat) (i:=0) (cs:=setC (c.take i)) (v:=bv true) hF rfl (Qsp _) rfl rfl ?_
  have ht:c.take i++[c[i]]=c.take (i+1):=List.take_append_getElem hlt
  simp only [List.set_cons_zero,AH.set_set,Qtv,ht]
  exact hR' hlt _ _ (.refl _) rfl
 ·have g:¬(i:Int)<(c.length:Int):=by omega
  obtain rfl:i=c.length:=by omega
  rw [List.take_length] at hF ⊢
  have e1:=UG (σ:=σ.set φ ⟨0,256,[setC c]⟩) (st:=0) (i:=0) (n:=256) (cs:=setC c) hF rfl rfl (QaM c)
  simp only [g,e1,RR]
  refine QG (es:=[setC c]) (cs:=setC c) hF (by simp) (QaM c) rfl (QaM c) ?_ ?_
  ·intro x hx
   obtain ⟨j,_,rfl⟩:=List.mem_map.1 hx;rfl
  simp only [List.set_cons_zero,AH.set_set,e1,RR]
  exact U7 (Qru (.refl _) hφ) h
theorem U5 {c:List UInt8} {b:UInt8} (h:R (.ret (bv (c.contains b))) σ):acall TP UY [.rop (setC c) 0,u8v (b.toNat:Nat)] σ R:=by
 refine Qcr ?_
 unfold U4 x202;dsimp only [den,dE,di,tupL,lTup,dwat,Qe,List.map,Option.map,den0,den1,den2,den3,den4]
 have e1:idxArr 256 1 (.rop (setC c) 0) (u8v (b.toNat:Nat))=some (.rop (setC c) b.toNat):=by
  have:=Qsp b
  simp only [idxArr]
  rw [if_pos ⟨by omega,by omega⟩];simp
 have e2:lod (.rop (setC c) b.toNat) σ=some (bv (c.contains b)):=by
  have hb:=Qsp b
  have hi:b.toNat<(setC c).length:=by rw [QaM];exact hb
  have e:=Qoi c hb
  rw [QxX,e,Qqj]
 simp only [RR,e1,e2]
 exact Qa h
def Qav (p:UInt8→Bool) (l:List UInt8):List UInt8:=l.dropWhile p
def Ua (p:UInt8→Bool) (l:List UInt8):List UInt8:=(l.reverse.dropWhile p).reverse
theorem Qsq (p:UInt8→Bool) (l:List UInt8) (b:UInt8):Ua p (l++[b])=if p b then Ua p l else l++[b]:=by
 unfold Ua
 rw [List.reverse_append]
 simp only [List.reverse_cons,List.reverse_nil,List.nil_append,List.singleton_append,List.dropWhile_cons]
 split<;>simp
theorem QuS (p:UInt8→Bool):∀l:List UInt8,Qav p (Ua p l)=[]↔l.all p=true:=by
 intro l
 have hR:Ua p l=[]↔l.all p=true:=by
  unfold Ua
  rw [List.reverse_eq_nil_iff,QiQ]
  simp [List.all_eq_true]
 constructor
 ·intro h
  unfold Qav at h
  rw [QiQ] at h
  refine hR.1 ?_
  by_cases e:Ua p l=[]
  ·exact e
  ·exfalso
   have hne:l.reverse.dropWhile p≠[]:=fun h'=>e (by unfold Ua;rw [h'];rfl)
   have h1:=List.head_dropWhile_not p hne
   have h2:=h ((l.reverse.dropWhile p).head hne) (by unfold Ua;rw [List.mem_reverse];exact List.head_mem hne)
   rw [h1] at h2;cases h2
 ·intro h
  rw [hR.2 h];rfl
theorem QeZ {c l:List UInt8} (hl:l.length≤1000000) (h:R (.ret (str (bs (Ua c.contains l)))) σ):acall TP Qat [str (bs l),.rop (setC c) 0] σ R:=by
 refine Qdf ?_
 unfold QaJ x165;dsimp only [den,dE,di,tupL,lTup,dwat,Qe,List.map,Option.map,den0,den1,den2,den3,den4]
 refine QkA (fun x σ'=>σ'=σ∧x=(str (bs (Ua c.contains l)),())) ?_ ?_
 ·rintro x σ' ⟨rfl,rfl⟩;exact Qa h
 intro k hk
 refine QH (fun n x σ'=>∃l',x=(str (bs l'),.rop (setC c) 0,())∧σ'=σ∧l'.length=n∧n≤1000000∧Ua c.contains l'=Ua c.contains l) l.length ⟨l,rfl,rfl,rfl,hl,rfl⟩ ?_
 rintro n x σ' ⟨l',rfl,rfl,hn,hn2,ht⟩ R' hR'
 have hsz:(bs l').size=l'.length:=Qo l'
 simp only [RR,hsz]
 rcases List.eq_nil_or_concat l' with rfl|⟨m,b,rfl⟩
 ·have e:Ua c.contains l=[]:=ht.symm
  have g:¬(0:Int)<(([]:List UInt8).length:Int):=by simp
  simp only [g,RR]
  exact hk _ _ ⟨rfl,by rw [e];rfl⟩
 ·rw [List.concat_eq_append] at ht hn hsz ⊢
  have hlen:(m++[b]).length=m.length+1:=by simp
  have g:(0:Int)<((m++[b]).length:Int):=by omega
  have e1:ibin .sub (.val (.int .i64 ((m++[b]).length:Int))) (.val (.int .i64 1))=some (iv (m.length:Nat)):=by rw [QR (by omega) (by omega)];congr 3;omega
  have e2:idxStr (str (bs (m++[b]))) (.val (.int .i64 (m.length:Nat)))=some (u8v (b.toNat:Nat)):=by
   rw [Q2 (by omega)];simp
  rw [Qsq] at ht
  simp only [g,e1,e2,hsz,RR]
  refine U5 ?_
  by_cases hb:c.contains b=true
  ·rw [if_pos hb] at ht
   simp only [hb,e1,QuQ,RR]
   exact hR' _ _ m.length σ' (by omega) (.refl _) ⟨m,rfl,rfl,rfl,by omega,ht⟩
  ·rw [if_neg hb] at ht
   have hb':c.contains b=false:=by simpa using hb
   simp only [hb',RR]
   exact hk _ _ ⟨rfl,by rw [ht];rfl⟩
theorem Qfc {c l:List UInt8} (hl:l.length≤1000000) (h:R (.ret (str (bs (Qav c.contains l)))) σ):acall TP QaF [str (bs l),.rop (setC c) 0] σ R:=by
 refine Qdt ?_
 unfold Qa2 x164;dsimp only [den,dE,di,tupL,lTup,dwat,Qe,List.map,Option.map,den0,den1,den2,den3,den4]
 refine QkA (fun x σ'=>σ'=σ∧x=(str (bs (Qav c.contains l)),())) ?_ ?_
 ·rintro x σ' ⟨rfl,rfl⟩;exact Qa h
 intro k hk
 refine QH (fun n x σ'=>∃l',x=(str (bs l'),.rop (setC c) 0,())∧σ'=σ∧l'.length=n∧n≤1000000∧Qav c.contains l'=Qav c.contains l) l.length ⟨l,rfl,rfl,rfl,hl,rfl⟩ ?_
 rintro n x σ' ⟨l',rfl,rfl,hn,hn2,ht⟩ R' hR'
 have hsz:(bs l').size=l'.length:=Qo l'
 simp only [RR,hsz]
 match l',ht,hn,hsz with
 |[],ht,hn,hsz=>
  have e:Qav c.contains l=[]:=ht.symm
  have g:¬(0:Int)<(([]:List UInt8).length:Int):=by simp
  simp only [g,RR]
  exact hk _ _ ⟨rfl,by rw [e];rfl⟩
 |b::m,ht,hn,hsz=>
  have g:(0:Int)<((b::m).length:Int):=by rw [List.length_cons];omega
  have e2:idxStr (str (bs (b::m))) (.val (.int .i64 0))=some (u8v (b.toNat:Nat)):=Q2 (l:=b::m) (i:=0) (by simp)
  unfold Qav at ht
  rw [List.dropWhile_cons] at ht
  simp only [g,e2,RR]
  refine U5 ?_
  by_cases hb:c.contains b=true
  ·rw [if_pos hb] at ht
   simp only [hb,Qtu,RR]
   exact hR' _ _ m.length σ' (by simp at hn;omega) (.refl _) ⟨m,rfl,rfl,rfl,by simp at hn;omega,ht⟩
  ·rw [if_neg hb] at ht
   have hb':c.contains b=false:=by simpa using hb
   simp only [hb',RR]
   refine hk _ _ ⟨rfl,?_⟩
   show (str (bs (b::m)),())=(str (bs (Qav c.contains l)),())
   unfold Qav;rw [←ht]
theorem Qoj {c l:List UInt8} (hc:∀b,b∈c→b.toNat<128) (hc2:2≤c.length) (hcl:c.length≤1000000) (hl:l.length≤1000000) (h:R (.ret (str (bs (Qav c.contains (Ua c.contains l))))) σ):acall TP Qfz [str (bs l),str (bs c)] σ R:=by
 refine QkW ?_
 unfold Qhh x135;dsimp only [den,dE,di,tupL,lTup,dwat,Qe,List.map,Option.map,den0,den1,den2,den3,den4]
 have hsz:(bs c).size=c.length:=Qo c
 have ce:¬bs c=(⟨#[]⟩:ByteArray):=by
  intro e
  have:=congrArg ByteArray.size e
  rw [Qo] at this
  change c.length=0 at this;omega
 have g1:¬((c.length:Int)=1):=by omega
 by_cases le:l=[]
 ·subst le
  have e:(bs ([]:List UInt8))=(⟨#[]⟩:ByteArray):=rfl
  simp only [e,Jt,RR]
  exact Qa h
 ·have e:¬bs l=(⟨#[]⟩:ByteArray):=by
   intro e
   have:=congrArg ByteArray.size e
   rw [Qo] at this
   exact le (List.eq_nil_of_length_eq_zero this)
  simp only [e,ce,Jt,hsz,g1,RR]
  refine Qgq hc hcl ?_
  simp only [QuL,List.getElem?_cons_zero,List.getElem?_cons_succ,RR]
  refine Jn rfl (QaM c) List.length_replicate (fun y hy=>by obtain ⟨j,_,rfl⟩:=List.mem_map.1 hy;rfl) ?_
  refine QeZ hl ?_
  simp only [RR]
  refine Qfc ?_ ?_
  ·have:(Ua c.contains l).length≤l.length:=by
    unfold Ua
    rw [List.length_reverse]
    have:=(List.dropWhile_sublist c.contains (l:=l.reverse)).length_le
    rwa [List.length_reverse] at this
   omega
  simp only [RR]
  exact Qa h
end Go.Proofs.YtggnjjalfnhiiaaGreatDoor.E
/- Numbers, names, kinds. -/
namespace Go.Proofs.YtggnjjalfnhiiaaGreatDoor.E
open Go Go.RowKit
variable [L:Lam]
variable {σ:AH} {R:AEnd→AH→Prop}
def inB (lo hi x:Int):Bool:=decide (lo≤x)&&decide (x≤hi)
theorem Us {lo hi x:Int}:inB lo hi x=true↔lo≤x∧x≤hi:=by simp [inB]
theorem UK {x lo hi:Int} (h:R (.ret (bv (inB lo hi x))) σ):acall TP QhN [iv x,iv lo,iv hi] σ R:=by
 refine Qqf ?_
 unfold QoY x72;dsimp only [den,dE,di,tupL,lTup,dwat,Qe,List.map,Option.map,den0,den1,den2,den3,den4]
 unfold inB at h
 by_cases h1:lo≤x
 ·simp only [h1,RR,Bool.true_and] at h ⊢;exact Qa h
 ·simp only [h1,RR,Bool.false_and] at h ⊢;exact Qa h
theorem UU {x lo hi:Int} (h:R (.ret (bv (inB lo hi x))) σ):acall TP Qew [iv x,iv lo,iv hi] σ R:=by
 refine Qoa ?_
 unfold Qlo x68;dsimp only [den,dE,di,tupL,lTup,dwat,Qe,List.map,Option.map,den0,den1,den2,den3,den4]
 unfold inB at h
 by_cases h1:lo≤x
 ·simp only [h1,RR,Bool.true_and] at h ⊢;exact Qa h
 ·simp only [h1,RR,Bool.false_and] at h ⊢;exact Qa h
def numB (n:Int):Bool:=inB (-1000000000) 1000000000 n
theorem Qj0 {n:Int} (h:R (.ret (bv (numB n))) σ):acall TP Qdq [iv n] σ R:=Qm2 (UU (Qa h))
theorem Qnd {n:Int} (h:R (.ret (iv (if numB n then 0 else 3))) σ):acall TP QbE [iv n] σ R:=by
 refine Qdg (UK ?_)
 change R (.ret (iv (if inB (-1000000000) 1000000000 n then 0 else 3))) σ at h
 cases c:inB (-1000000000) 1000000000 n<;>rw [c] at h<;>simp only [RR]<;>exact Qa h
def cutset:List UInt8:=[97,98,99,100,101,102,103,104,105,106,107,108,109,110,111,112,113,114,115,116,117,118,119,120,121,122,43,45,42,47,60,61,63,33]
def symB (b:UInt8):Bool:=cutset.contains b
def Qd3 (s:ByteArray):Bool:=inB 1 12 s.size&&(by8 s).all symB
theorem Qf1 {s:ByteArray} (h:R (.ret (iv (if Qd3 s then 0 else 5))) σ):acall TP QeB [str s] σ R:=by
 refine QjF ?_
 unfold QfO x102;dsimp only [den,dE,di,tupL,lTup,dwat,Qe,List.map,Option.map,den0,den1,den2,den3,den4]
 unfold Qd3 at h
 simp only [jn,RR]
 refine UK ?_
 cases c:inB 1 12 (s.size:Int)
 ·rw [c] at h
  simp only [RR];exact Qa h
 ·rw [c] at h
  have hi:=Us.1 c
  have hl:(by8 s).length≤1000000:=by rw [←Qqi];omega
  simp only [RR]
  rw [←Qqh s]
  refine Qoj (c:=cutset) (by decide) (by decide) (by decide) hl ?_
  have ht:=QuS symB (by8 s)
  have e:(bs (Qav cutset.contains (Ua cutset.contains (by8 s)))=(⟨#[]⟩:ByteArray))↔(by8 s).all symB=true:=by
   rw [←ht]
   constructor
   ·intro e
    have:=congrArg (fun b:ByteArray=>b.data.toList) e
    exact this
   ·intro e
    have e:Qav cutset.contains (Ua cutset.contains (by8 s))=[]:=e
    rw [e]
  cases ha:(by8 s).all symB
  ·rw [ha] at h e
   have e:¬bs (Qav cutset.contains (Ua cutset.contains (by8 s)))=(⟨#[]⟩:ByteArray):=fun h=>by have:=e.1 h;cases this
   simp only [Qaz,e,RR];exact Qa h
  ·rw [ha] at h e
   have e:=e.2 rfl
   simp only [Qaz,e,RR];exact Qa h
def signs:List UInt8:=[43,45,42,47,60,61,63,33]
theorem QxY (b:UInt8):symB b=((decide (97≤b.toNat)&&decide (b.toNat≤122))||signs.contains b):=by
 have key:∀n:Fin 256,symB (UInt8.ofNat n.val)=((decide (97≤n.val)&&decide (n.val≤122))||signs.contains (UInt8.ofNat n.val)):=by decide+kernel
 have hk:=key ⟨b.toNat,b.toNat_lt⟩
 rw [UInt8.ofNat_toNat] at hk
 exact hk
theorem Qpm {b:UInt8} (h:R (.ret (bv (symB b))) σ):acall TP QgP [u8v (b.toNat:Nat)] σ R:=by
 refine QlX ?_
 unfold QiC x128;dsimp only [den,dE,di,tupL,lTup,dwat,Qe,List.map,Option.map,den0,den1,den2,den3,den4]
 rw [QxY] at h
 by_cases c:97≤b.toNat∧b.toNat≤122
 · have g1:(97:Int)≤((b.toNat:Nat):Int):=by omega
   have g2:((b.toNat:Nat):Int)≤122:=by omega
   simp only [JF,g1,g2,RR]
   rw [decide_eq_true c.1,decide_eq_true c.2] at h
   exact Qa h
 have e:(decide (97≤b.toNat)&&decide (b.toNat≤122))=false:=by simpa using c
 rw [e,Bool.false_or] at h
 have loop:∀(i:Nat) (_:i≤signs.length) (_:∀j,j<i→signs[j]? ≠some b) (R':Tup [0,3,4]→AH→Prop),(i<signs.length→signs[i]? ≠some b→R' (u8v (b.toNat:Nat),str (bs signs),iv ((i+1:Nat):Int),()) σ)→
     (og (lenStr (str (bs signs))) fun v13=>og (ibin .lss (iv (i:Int)) v13) fun v14=>apick v14
       (og (idxStr (str (bs signs)) (iv (i:Int))) fun v19=>og (ibin .eql v19 (u8v (b.toNat:Nat))) fun v21=>apick v21 (aret (bv true) σ R)
         (og (ibin .add (iv (i:Int)) (.val (.int .i64 1))) fun v16=>R' (u8v (b.toNat:Nat),str (bs signs),v16,()) σ)) (aret (bv false) σ R)):=by
   intro i hi hj R' hR'
   have hsz:(bs signs).size=signs.length:=Qo _
   have hsg:signs.length=8:=rfl
   by_cases hlt:i<signs.length
   · have g:(i:Int)<(signs.length:Int):=by omega
     simp only [RR,hsz,g,Q2 hlt,JF,Qj hlt (by omega)]
     have e1:=List.getElem?_eq_getElem hlt
     by_cases q:signs[i]=b
     · have q1:((signs[i].toNat:Nat):Int)=((b.toNat:Nat):Int):=by rw [q]
       simp only [q1,RR]
       refine Qa ?_
       rw [List.contains_iff_mem.2 (List.mem_of_getElem? (e1.trans (congrArg some q)))] at h
       exact h
     · have q1:¬((signs[i].toNat:Nat):Int)=((b.toNat:Nat):Int):=fun e=>q (UInt8.toNat_inj.1 (by omega))
       simp only [q1,RR]
       exact hR' hlt (by rw [e1];exact fun e=>q (Option.some.inj e))
   · have g:¬(i:Int)<(signs.length:Int):=by omega
     simp only [RR,hsz,g]
     refine Qa ?_
     have:signs.contains b=false:=by
       rw [Bool.eq_false_iff]
       intro hc
       obtain ⟨j,hj1,hj2⟩:=List.getElem_of_mem (List.contains_iff_mem.1 hc)
       exact hj j (by omega) (by rw [List.getElem?_eq_getElem hj1,hj2])
     rw [this] at h;exact h
 have go:lp (X:=Tup [0,3,4]) (fun R1 y1 σ=>og (lenStr y1.2.1) fun v13=>og (ibin .lss y1.2.2.1 v13) fun v14=>apick v14
       (og (idxStr y1.2.1 y1.2.2.1) fun v19=>og (ibin .eql v19 y1.1) fun v21=>apick v21 (aret (bv true) σ R)
         (og (ibin .add y1.2.2.1 (.val (.int .i64 1))) fun v16=>R1 (y1.1,y1.2.1,v16,()) σ)) (aret (bv false) σ R)) (u8v (b.toNat:Nat),str (bs signs),.val (.int .i64 0),()) σ:=by
   refine UW signs.length (fun i=>(u8v (b.toNat:Nat),str (bs signs),iv (i:Int),())) (fun i=>∀j,j<i→signs[j]? ≠some b) rfl (fun j hj=>by omega) ?_
   intro i hi hj R' hR'
   refine loop i hi hj R' fun hlt hne=>hR' hlt ?_ σ (.refl _)
   intro j hj'
   rcases Nat.lt_or_ge j i with h1|h1
   · exact hj j h1
   · obtain rfl:j=i:=by omega
     exact hne
 by_cases h1:(97:Int)≤((b.toNat:Nat):Int)
 · have g2:¬((b.toNat:Nat):Int)≤122:=by omega
   simp only [JF,h1,g2,RR]
   exact go
 · simp only [JF,h1,RR]
   exact go
theorem Qj1 {i:Nat} {Q:Nat→Prop} (h:∀j,j<i→Q j) (hi:Q i):∀j,j<i+1→Q j:=by
 intro j hj
 rcases Nat.lt_or_ge j i with h1|h1
 ·exact h j h1
 ·obtain rfl:j=i:=by omega
  exact hi
theorem Qj2 {s:ByteArray} (hs:s.size≤1099511627776) (h:R (.ret (bv (Qd3 s))) σ):acall TP Qdp [str s] σ R:=by
 refine Qm1 ?_
 unfold QjE x96;dsimp only [den,dE,di,tupL,lTup,dwat,Qe,List.map,Option.map,den0,den1,den2,den3,den4]
 unfold Qd3 at h
 refine UW (by8 s).length (fun i=>(str s,iv (i:Int),())) (fun i=>∀j (hj:j<(by8 s).length),j<i→symB (by8 s)[j]=true) rfl (fun j _ hj=>by omega) ?_
 intro i hi hj R' hR'
 have hsz:=Qqi s
 by_cases hlt:i<(by8 s).length
 ·have g:(i:Int)<(s.size:Int):=by omega
  have e1:idxStr (str s) (iv (i:Int))=some (u8v ((by8 s)[i].toNat:Nat)):=by
   have:=Q2 hlt
   rwa [Qqh] at this
  simp only [RR,g,e1]
  refine Qpm ?_
  cases c:symB (by8 s)[i]
  ·simp only [RR]
   refine Qa ?_
   have:(by8 s).all symB=false:=by
    rw [Bool.eq_false_iff]
    intro ha
    have:=List.all_eq_true.1 ha _ (List.getElem_mem hlt)
    rw [c] at this;cases this
   rw [this,Bool.and_false] at h;exact h
  ·simp only [Qj hlt (by omega),RR]
   refine hR' hlt ?_ σ (.refl _)
   intro j hj' hlt'
   rcases Nat.lt_or_ge j i with h1|h1
   ·exact hj j hj' h1
   ·obtain rfl:j=i:=by omega
    exact c
 ·have g:¬(i:Int)<(s.size:Int):=by omega
  simp only [RR,g]
  refine UU ?_
  simp only [RR]
  refine Qa ?_
  have:(by8 s).all symB=true:=by
   rw [List.all_eq_true]
   intro b hb
   obtain ⟨j,hj1,rfl⟩:=List.getElem_of_mem hb
   exact hj j hj1 (by omega)
  rw [this,Bool.and_true] at h;exact h
def Qcs (kind num:Int) (name:ByteArray):Int:=
 if kind=1 then (if numB num then 0 else 3) else if kind=2 then (if inB 0 1 num then 0 else 3) else if kind=3 then (if Qd3 name then 0 else 5) else 0
theorem Qmb {kind n:Int} {s:ByteArray} (h:R (.ret (iv (Qcs kind n s))) σ):acall TP QdC [iv kind,iv 1,iv 3,iv 2,iv n,str s] σ R:=by
 refine Qi2 ?_
 unfold QeS x168;dsimp only [den,dE,di,tupL,lTup,dwat,Qe,List.map,Option.map,den0,den1,den2,den3,den4]
 unfold Qcs at h
 simp only [jn,RR]
 by_cases c1:kind=1
 ·simp only [c1,RR]
  rw [if_pos c1] at h
  refine Qnd ?_
  simp only [RR];exact Qa h
 rw [if_neg c1] at h
 simp only [c1,RR]
 by_cases c2:kind=2
 ·simp only [c2,RR]
  rw [if_pos c2] at h
  refine UK ?_
  cases c:inB 0 1 n<;>rw [c] at h<;>simp only [RR]<;>exact Qa h
 rw [if_neg c2] at h
 simp only [c2,RR]
 by_cases c3:kind=3
 ·simp only [c3,RR]
  rw [if_pos c3] at h
  refine Qf1 ?_
  simp only [RR];exact Qa h
 rw [if_neg c3] at h
 simp only [c3,RR]
 exact Qa h
end Go.Proofs.YtggnjjalfnhiiaaGreatDoor.E
/- Data: their faults. -/
namespace Go.Proofs.YtggnjjalfnhiiaaGreatDoor.E
open Go Go.RowKit
variable [L:Lam]
variable {σ:AH} {R:AEnd→AH→Prop}
def upW (p:Int→Int) (at_ to:Int):Bool:=if at_<0 then false else if at_=to then true else if p at_<at_ then upW p (p at_) to else false
termination_by (at_+1).toNat
decreasing_by omega
def QX (p:Int→Int) (at_:Int):Nat:=if at_<0 then 0 else if p at_<at_ then QX p (p at_)+1 else 0
termination_by (at_+1).toNat
decreasing_by omega
theorem Qmc (p:Int→Int) (n:Nat):∀at_:Int,(at_+1).toNat≤n→QX p at_≤n:=by
 induction n with
 |zero=>intro a h;rw [QX];split<;>omega
 |succ n ih=>
  intro a h
  rw [QX]
  split
  ·omega
  ·split
   ·have:=ih (p a) (by omega);omega
   ·omega
theorem Qq6 {f:AV} {p:Int→Int} {n from_ to:Int} (hf:∀(a:Int) (R:AEnd→AH→Prop),0≤a→a<n→R (.ret (iv (p a))) σ→UI TP f [iv a] σ R) (hp:∀a,0≤a→a<n→p a<a) (hn:from_<n)
  (h:R (.ret (bv (upW p from_ to))) σ):acall TP Qjm [f,iv from_,iv to] σ R:=by
 refine Qof ?_
 unfold Qlt x169;dsimp only [den,dE,di,tupL,lTup,dwat,Qe,List.map,Option.map,den0,den1,den2,den3,den4]
 refine QH (fun k x σ'=>∃a:Int,x=(f,iv to,iv a,())∧σ'=σ∧(a+1).toNat=k∧a<n∧upW p a to=upW p from_ to) (from_+1).toNat ⟨from_,rfl,rfl,rfl,hn,rfl⟩ ?_
 rintro k x σ' ⟨a,rfl,rfl,hk,ha,e⟩ R' hR'
 rw [upW] at e
 by_cases c0:0≤a
 ·rw [if_neg (by omega)] at e
  by_cases c1:a=to
  ·rw [if_pos c1] at e
   rw [←e] at h
   simp only [c0,c1,RR]
   have c0':0≤to:=by omega
   simp only [c0',RR]
   exact Qa h
  ·rw [if_neg c1,if_pos (hp a c0 ha)] at e
   simp only [c0,c1,RR]
   refine hf a _ c0 ha ?_
   simp only [RR]
   have:=hp a c0 ha
   exact hR' _ _ ((p a)+1).toNat σ' (by omega) (.refl _) ⟨p a,rfl,rfl,rfl,by omega,e⟩
 ·rw [if_pos (by omega)] at e
  rw [←e] at h
  simp only [c0,RR]
  exact Qa h
def dat (ds:List Dat) (i:Nat):Dat:=ds.getD i default
def par (ds:List Dat) (a:Int):Int:=(dat ds a.toNat).parent
theorem QY {ds:List Dat} {i:Nat} (h:i<ds.length):ds[i]=dat ds i:=by simp [dat,List.getD,h]
theorem Qrx {ds:List Dat} {i:Nat} (h:i<ds.length):dat ds i∈ds:=by rw [←QY h];exact List.getElem_mem h
def Qd4 (x:Dat):Bool:=inB 1 4 x.kind&&(decide (x.kind=1)||decide (x.kind=2)||decide (x.num=0))&&(decide (x.kind=3)||decide (x.name=(⟨#[]⟩:ByteArray)))
def datF (ds:List Dat) (i:Nat):Int:=
 if Qd4 (dat ds i)=false then 1
 else if Qcs (dat ds i).kind (dat ds i).num (dat ds i).name≠0 then Qcs (dat ds i).kind (dat ds i).num (dat ds i).name
 else if i=0 then (if (dat ds i).parent≠ -1 then 3 else 0)
 else if inB 0 ((i:Int) - 1) (dat ds i).parent=false then 3
 else if (dat ds (dat ds i).parent.toNat).kind≠4∨upW (par ds) ((i:Int) - 1) (dat ds i).parent=false then 1
 else if 12<QX (par ds) i then 2 else 0
def Qdi (f:Nat→Int):Nat→Nat→Int
 |_,0=>0
 |i,n+1=>if f i≠0 then f i else Qdi f (i+1) n
theorem Qne {f:Nat→Int}:∀(n i:Nat),(∀j,i≤j→j<i+n→f j=0)→Qdi f i n=0:=by
 intro n
 induction n with
 |zero=>intro i _;rfl
 |succ n ih=>
  intro i h
  simp only [Qdi]
  rw [if_neg (by rw [h i (Nat.le_refl _) (by omega)];simp)]
  exact ih _ fun j h1 h2=>h j (by omega) (by omega)
theorem QoZ {f:Nat→Int} {k:Nat} (hk:f k≠0):∀(n i:Nat),i≤k→k<i+n→(∀j,i≤j→j<k→f j=0)→Qdi f i n=f k:=by
 intro n
 induction n with
 |zero=>intro i h1 h2;omega
 |succ n ih=>
  intro i h1 h2 h
  simp only [Qdi]
  by_cases e:i=k
  ·subst e;rw [if_pos hk]
  ·rw [if_neg (by rw [h i (Nat.le_refl _) (by omega)];simp)]
   exact ih _ (by omega) (by omega) fun j h1 h2=>h j (by omega) h2
theorem Qlw {f:Nat→Int}:∀(n i:Nat),Qdi f i n=0→∀j,i≤j→j<i+n→f j=0:=by
 intro n
 induction n with
 |zero=>intro i _ j h1 h2;omega
 |succ n ih=>
  intro i h j h1 h2
  simp only [Qdi] at h
  split at h
  ·rename_i hc;exact absurd h hc
  ·rename_i hc
   by_cases e:j=i
   ·subst e;simpa using hc
   ·exact ih _ h j (by omega) (by omega)
def Uo (ds:List Dat):Int:=if inB 1 80 (ds.length:Int) then Qdi (datF ds) 0 ds.length else 2
def Pars (ds:List Dat) (i:Nat):Prop:=∀a:Int,0≤a→a<i→par ds a<a∧ -1≤par ds a
theorem QuT {ds:List Dat} {i:Nat} (h:datF ds i=0):par ds (i:Int)<i∧ -1≤par ds (i:Int):=by
 unfold datF at h
 have e:((i:Int)).toNat=i:=by omega
 unfold par
 rw [e]
 split at h
 ·cases h
 split at h
 ·rename_i hk;exact absurd h hk
 split at h
 ·rename_i h0
  split at h
  ·cases h
  ·rename_i h1;omega
 ·rename_i h0
  split at h
  ·cases h
  ·rename_i h1
   have:inB 0 ((i:Int) - 1) (dat ds i).parent=true:=by simpa using h1
   have:=Us.1 this
   omega
theorem QkB {ds:List Dat} {i:Nat} (h:∀j,j<i→datF ds j=0):Pars ds i:=by
 intro a h0 h1
 have:=QuT (h a.toNat (by omega))
 rw [show ((a.toNat:Nat):Int)=a by omega] at this
 exact this
def sD (ds:List Dat):Prop:=∀d,d∈ds→d.name.size≤1099511627776
theorem Qi6 {ds:List Dat} {a:Int} (h0:0≤a) (h1:a<ds.length) (h:R (.ret (iv (par ds a))) σ):acall TP Qcj [iv a,.rop [roD ds] 0] σ R:=by
 refine Qgm ?_
 unfold QcB x170;dsimp only [den,dE,di,tupL,lTup,dwat,Qe,List.map,Option.map,den0,den1,den2,den3,den4]
 have hi:a.toNat<ds.length:=by omega
 simp only [Qn7,QgJ h0 hi Qk,RR,RT]
 rw [QY hi]
 exact Qa h
theorem Qq7 {ds:List Dat} {i:Nat} (hi:i<ds.length) (hl:ds.length≤1000) (hP:Pars ds (i+1)) (h:R (.ret (iv (QX (par ds) i:Nat))) σ):acall TP QeJ [roD ds,iv (i:Int)] σ R:=by
 refine Qog ?_
 unfold Qlu x171;dsimp only [den,dE,di,tupL,lTup,dwat,Qe,List.map,Option.map,den0,den1,den2,den3,den4]
 refine QH (fun k x σ'=>∃(a:Int) (c:Nat),x=(roD ds,iv a,iv (c:Nat),())∧σ'=σ∧(a+1).toNat=k∧a≤i∧c+QX (par ds) a=QX (par ds) i) ((i:Int)+1).toNat ⟨i,0,rfl,rfl,rfl,by omega,by omega⟩ ?_
 rintro k x σ' ⟨a,c,rfl,rfl,hk,ha,e⟩ R' hR'
 rw [QX] at e
 have hd:=Qmc (par ds) (i+1) i (by omega)
 by_cases c0:0≤a
 ·have hp:=hP a c0 (by omega)
  rw [if_neg (by omega),if_pos hp.1] at e
  have hi':a.toNat<ds.length:=by omega
  have e1:ibin .add (iv (c:Nat)) (.val (.int .i64 1))=some (iv ((c+1:Nat):Int)):=by rw [Q6 (by omega) (by omega)];rfl
  simp only [c0,e1,QgJ c0 hi' Qk,RR,RT]
  rw [QY hi']
  exact hR' _ _ (par ds a+1).toNat σ' (by omega) (.refl _) ⟨par ds a,c+1,rfl,rfl,rfl,by omega,by omega⟩
 ·rw [if_pos (by omega)] at e
  simp only [c0,RR]
  rw [Nat.add_zero] at e
  rw [e]
  exact Qa h
theorem Qqk (x:Dat):(!inB 1 4 x.kind|| !decide (x.num=0)&& !decide (x.kind=1)&& !decide (x.kind=2)|| !decide (x.name={data:=#[]})&& !decide (x.kind=3))= !Qd4 x:=by
 unfold Qd4
 generalize inB 1 4 x.kind=a
 generalize decide (x.num=0)=b
 generalize decide (x.kind=1)=c
 generalize decide (x.kind=2)=d
 generalize decide (x.kind=3)=e
 generalize decide (x.name={data:=#[]})=f
 cases a<;>cases b<;>cases c<;>cases d<;>cases e<;>cases f<;>rfl
theorem Qk3 {ds:List Dat} {i:Nat} (hi:i<ds.length) (hl:ds.length≤80) (hP:Pars ds i) (h:R (.ret (iv (datF ds i))) σ):acall TP Qdd [roD ds,iv (i:Int)] σ R:=by
 refine Qh1 ?_
 unfold QdS x136;dsimp only [den,dE,di,tupL,lTup,dwat,Qe,List.map,Option.map,den0,den1,den2,den3,den4]
 refine UX rfl ?_
 simp only [Qn7,Qu hi Qk,RR,RT]
 refine Qsk rfl ?_
 rw [QY hi]
 simp only [RR,RT]
 refine UK ?_
 simp only [RR,RT,RG,Qaz]
 unfold datF at h
 refine Jz (fun c1=>?_) (fun c1=>?_)
 ·rw [Qqk] at c1
  rw [if_pos (by simpa using c1)] at h
  exact Qa h
 rw [Qqk] at c1
 have c1:Qd4 (dat ds i)=true:=by simpa using c1
 rw [if_neg (by rw [c1];simp)] at h
 refine Qmb ?_
 simp only [RR]
 by_cases c2:Qcs (dat ds i).kind (dat ds i).num (dat ds i).name=0
 case neg=>
  rw [if_pos c2] at h
  simp only [c2,RR]
  exact Qa h
 rw [if_neg (by simpa using c2)] at h
 simp only [c2,RR]
 by_cases c3:i=0
 ·have g:((i:Int)=0):=by omega
  rw [if_pos c3] at h
  simp only [g,RR]
  by_cases c4:(dat ds i).parent= -1
  ·rw [if_neg (by simpa using c4)] at h
   simp only [c4,RR];exact Qa h
  ·rw [if_pos c4] at h
   simp only [c4,RR];exact Qa h
 have g:¬((i:Int)=0):=by omega
 rw [if_neg c3] at h
 have hs:ibin .sub (iv (i:Int)) (.val (.int .i64 1))=some (iv ((i:Int) - 1)):=QR (by omega) (by omega)
 simp only [g,hs,RR]
 refine UK ?_
 simp only [RR]
 refine Jz (fun c4=>?_) (fun c4=>?_)
 ·rw [if_pos (by simpa using c4)] at h
  exact Qa h
 have c4:inB 0 ((i:Int) - 1) (dat ds i).parent=true:=by simpa using c4
 rw [if_neg (by rw [c4];simp)] at h
 obtain ⟨p0,p1⟩:=Us.1 c4
 have hpi:(dat ds i).parent.toNat<ds.length:=by omega
 have hPar:Pars ds (i+1):=by
  intro a h0 h1
  by_cases e:a<(i:Int)
  ·exact hP a h0 e
  ·obtain rfl:a=(i:Int):=by omega
   have:par ds (i:Int)=(dat ds i).parent:=by unfold par;rw [show ((i:Int)).toNat=i by omega]
   rw [this];omega
 have tail:¬((dat ds (dat ds i).parent.toNat).kind≠4∨upW (par ds) ((i:Int) - 1) (dat ds i).parent=false)→acall TP QeJ [roD ds,iv (i:Int)] σ (onr (fun v83 σ=>og (ibin .gtr v83 (.val (.int .i64 12))) fun v84=>apick v84 (aret (.val (.int .i64 2)) σ R) (aret (.val (.int .i64 0)) σ R)) (fun v σ=>apan v σ R)):=by
  intro hc
  rw [if_neg hc] at h
  refine Qq7 hi (by omega) hPar ?_
  simp only [RR]
  by_cases c6:12<QX (par ds) (i:Int)
  ·have g6:(12:Int)<((QX (par ds) (i:Int):Nat):Int):=by omega
   rw [if_pos c6] at h
   simp only [g6,RR];exact Qa h
  ·have g6:¬(12:Int)<((QX (par ds) (i:Int):Nat):Int):=by omega
   rw [if_neg c6] at h
   simp only [g6,RR];exact Qa h
 simp only [Qn7,jn,QgJ p0 hpi Qk,RR,RT]
 rw [QY hpi]
 refine Qgk (fun c5=>?_) (fun c5=>?_)
 ·have c5:(dat ds (dat ds i).parent.toNat).kind≠4:=by simpa using c5
  rw [if_pos (.inl c5)] at h
  exact Qa h
 have c5:(dat ds (dat ds i).parent.toNat).kind=4:=by simpa using c5
 refine Qq6 (p:=par ds) (n:=(i:Int)) (fun a R h0 h1 h=>Qsj (Qi6 h0 (by omega) h)) (fun a h0 h1=>(hP a h0 h1).1) (by omega) ?_
 simp only [RR]
 refine Jz (fun c6=>?_) (fun c6=>?_)
 ·have c6:upW (par ds) ((i:Int) - 1) (dat ds i).parent=false:=by simpa using c6
  rw [if_pos (.inr c6)] at h
  exact Qa h
 ·have c6:upW (par ds) ((i:Int) - 1) (dat ds i).parent=true:=by simpa using c6
  exact tail (by rw [c6,c5];simp)
theorem Qmd {ds:List Dat} (h:R (.ret (iv (Uo ds))) σ):acall TP QdA [roD ds] σ R:=by
 refine Qi1 ?_
 unfold QeQ x103;dsimp only [den,dE,di,tupL,lTup,dwat,Qe,List.map,Option.map,den0,den1,den2,den3,den4]
 unfold Uo at h
 simp only [RR,RT]
 refine UK ?_
 simp only [RR]
 refine Jz (fun c1=>?_) (fun c1=>?_)
 ·have c1:inB 1 80 (ds.length:Int)=false:=by simpa using c1
  rw [if_neg (by rw [c1];simp)] at h
  exact Qa h
 have c1:inB 1 80 (ds.length:Int)=true:=by simpa using c1
 rw [if_pos c1] at h
 have hl:=Us.1 c1
 refine UW ds.length (fun i=>(roD ds,iv (ds.length:Int),iv (i:Int),())) (fun i=>∀j,j<i→datF ds j=0) rfl (fun j hj=>by omega) ?_
 intro i hi hj R' hR'
 by_cases hlt:i<ds.length
 ·have g:(i:Int)<(ds.length:Int):=by omega
  simp only [g,RR]
  refine Qk3 hlt (by omega) (QkB hj) ?_
  simp only [RR]
  by_cases c2:datF ds i=0
  ·simp only [c2,Qj hlt (by omega),RR]
   exact hR' hlt (Qj1 hj c2) σ (.refl _)
  ·simp only [c2,RR]
   rw [QoZ c2 ds.length 0 (Nat.zero_le _) (by omega) (fun j _ h2=>hj j h2)] at h
   exact Qa h
 ·have g:¬(i:Int)<(ds.length:Int):=by omega
  obtain rfl:i=ds.length:=by omega
  simp only [g,RR]
  rw [Qne _ _ (fun j _ h2=>hj j (by omega))] at h
  exact Qa h
end Go.Proofs.YtggnjjalfnhiiaaGreatDoor.E
/- Data: their faults, by the reference. -/
namespace Go.Proofs.YtggnjjalfnhiiaaGreatDoor.E
open Go Go.RowKit
variable [L:Lam]
variable {σ:AH} {R:AEnd→AH→Prop}
theorem Qpn {x:Dat} (h:R (.ret (bv (Qd4 x))) σ):acall TP QgQ [.rop (Qc x) 0] σ R:=by
 refine QlY ?_
 unfold QiD x129;dsimp only [den,dE,di,tupL,lTup,dwat,Qe,List.map,Option.map,den0,den1,den2,den3,den4]
 simp only [RR,RT,RG]
 refine UU ?_
 simp only [RR,RT,RG,Jt]
 refine Qa ?_
 unfold Qd4 at h
 exact h
theorem Qpo {ds:List Dat} {i:Nat} (hi:i<ds.length) (hl:ds.length≤1000) (hP:Pars ds i) (h:R (.ret (bv (upW (par ds) ((i:Int) - 1) (dat ds i).parent&&decide ((dat ds (dat ds i).parent.toNat).kind=4)))) σ):acall TP QgR [roD ds,iv (i:Int)] σ R:=by
 refine QlZ ?_
 unfold QiE x131;dsimp only [den,dE,di,tupL,lTup,dwat,Qe,List.map,Option.map,den0,den1,den2,den3,den4]
 simp only [QR (a:=(i:Int)) (b:=1) (by omega) (by omega),RR]
 refine QH (fun k x σ'=>∃a:Int,x=(roD ds,iv (i:Int),iv a,())∧σ'=σ∧(a+1).toNat=k∧a<i∧upW (par ds) a (dat ds i).parent=upW (par ds) ((i:Int) - 1) (dat ds i).parent) ((i:Int) - 1+1).toNat ⟨(i:Int) - 1,rfl,rfl,rfl,by omega,rfl⟩ ?_
 rintro k x σ' ⟨a,rfl,rfl,hk,ha,e⟩ R' hR'
 rw [upW] at e
 by_cases c0:0≤a
 ·rw [if_neg (by omega)] at e
  have ha':a.toNat<ds.length:=by omega
  simp only [c0,Qu hi Qk,QgJ c0 ha' Qk,RR,RT]
  rw [QY hi,QY ha']
  by_cases c1:a=(dat ds i).parent
  ·rw [if_pos c1] at e
   rw [←e,Bool.true_and,←c1] at h
   simp only [c1,RR]
   rw [←c1]
   exact Qa h
  ·rw [if_neg c1,if_pos (hP a c0 (by omega)).1] at e
   simp only [c1,RR]
   have:=(hP a c0 (by omega)).1
   exact hR' _ _ (par ds a+1).toNat σ' (by omega) (.refl _) ⟨par ds a,rfl,rfl,rfl,by omega,e⟩
 ·rw [if_pos (by omega)] at e
  rw [←e,Bool.false_and] at h
  simp only [c0,RR]
  exact Qa h
theorem Qbt {ds:List Dat} {i:Nat} (hi:i<ds.length) (hl:ds.length≤90) (hP:Pars ds (i+1)) (h:R (.ret (iv (QX (par ds) i:Nat))) σ):acall TP QgS [roD ds,iv (i:Int)] σ R:=by
 refine Ql0 ?_
 unfold QiF x132;dsimp only [den,dE,di,tupL,lTup,dwat,Qe,List.map,Option.map,den0,den1,den2,den3,den4]
 refine QH (fun k x σ'=>∃(a:Int) (c:Nat),x=(roD ds,iv a,iv (c:Nat),())∧σ'=σ∧(a+1).toNat=k∧a≤i∧c+QX (par ds) a=QX (par ds) i) ((i:Int)+1).toNat ⟨i,0,rfl,rfl,rfl,by omega,by omega⟩ ?_
 rintro k x σ' ⟨a,c,rfl,rfl,hk,ha,e⟩ R' hR'
 rw [QX] at e
 have hd:=Qmc (par ds) (i+1) i (by omega)
 by_cases c0:0≤a
 ·have hp:=hP a c0 (by omega)
  rw [if_neg (by omega),if_pos hp.1] at e
  have hi':a.toNat<ds.length:=by omega
  have e1:ibin .add (iv (c:Nat)) (.val (.int .i64 1))=some (iv ((c+1:Nat):Int)):=by rw [Q6 (by omega) (by omega)];rfl
  have g:((c:Nat):Int)<100:=by omega
  simp only [c0,g,e1,QgJ c0 hi' Qk,RR,RT]
  rw [QY hi']
  exact hR' _ _ (par ds a+1).toNat σ' (by omega) (.refl _) ⟨par ds a,c+1,rfl,rfl,rfl,by omega,by omega⟩
 ·rw [if_pos (by omega)] at e
  simp only [c0,RR]
  rw [Nat.add_zero] at e
  rw [e]
  exact Qa h
def kB2 (x:Dat):Bool:=(decide (x.kind=1)&& !numB x.num)||(decide (x.kind=2)&& !inB 0 1 x.num)
def kB3 (x:Dat):Bool:=decide (x.kind=3)&& !Qd3 x.name
theorem QxZ {x:Dat} (h:kB2 x=true):Qcs x.kind x.num x.name=3:=by
 unfold kB2 at h
 unfold Qcs
 by_cases c1:x.kind=1
 ·rw [if_pos c1];cases c:numB x.num
  ·rfl
  ·simp [c1,c] at h
 ·rw [if_neg c1]
  by_cases c2:x.kind=2
  ·rw [if_pos c2];cases c:inB 0 1 x.num
   ·rfl
   ·simp [c2,c] at h
  ·simp [c1,c2] at h
theorem Qx0 {x:Dat} (h:kB3 x=true):Qcs x.kind x.num x.name=5:=by
 unfold kB3 at h
 simp only [Bool.and_eq_true,decide_eq_true_eq,Bool.not_eq_true'] at h
 unfold Qcs
 rw [if_neg (by omega),if_neg (by omega),if_pos h.1,h.2];rfl
theorem Qx1 {x:Dat} (h:kB2 x=false) (h3:kB3 x=false):Qcs x.kind x.num x.name=0:=by
 unfold kB2 at h
 unfold kB3 at h3
 unfold Qcs
 by_cases c1:x.kind=1
 ·rw [if_pos c1];cases c:numB x.num
  ·simp [c1,c] at h
  ·rfl
 ·rw [if_neg c1]
  by_cases c2:x.kind=2
  ·rw [if_pos c2];cases c:inB 0 1 x.num
   ·simp [c2,c] at h
   ·rfl
  ·rw [if_neg c2]
   by_cases c3:x.kind=3
   ·rw [if_pos c3];cases c:Qd3 x.name
    ·simp [c3,c] at h3
    ·rfl
   ·rw [if_neg c3]
theorem Qok {ds:List Dat} (hs:sD ds) (h:R (.ret (iv (Uo ds))) σ):acall TP Qfw [roD ds] σ R:=by
 refine QkS ?_
 unfold Qhd x97;dsimp only [den,dE,di,tupL,lTup,dwat,Qe,List.map,Option.map,den0,den1,den2,den3,den4]
 unfold Uo at h
 simp only [RR,RT,RG]
 refine Jz (fun c1=>?_) (fun c1=>?_)
 ·have c1:inB 1 80 (ds.length:Int)=false:=by
   simp only [Bool.or_eq_true,decide_eq_true_eq] at c1
   rw [Bool.eq_false_iff];intro hc;have:=Us.1 hc;omega
  rw [if_neg (by rw [c1];simp)] at h
  exact Qa h
 have hl:1≤ds.length∧ds.length≤80:=by
  simp only [Bool.or_eq_false_iff,decide_eq_false_iff_not] at c1;omega
 rw [if_pos (Us.2 (by omega))] at h
 refine UW ds.length (fun i=>(roD ds,iv (i:Int),())) (fun i=>∀j,j<i→datF ds j=0) rfl (fun j hj=>by omega) ?_
 intro i hi hj R' hR'
 by_cases hlt:i<ds.length
 case neg=>
  have g:¬(i:Int)<(ds.length:Int):=by omega
  obtain rfl:i=ds.length:=by omega
  simp only [g,RR,RT]
  rw [Qne _ _ (fun j _ h2=>hj j (by omega))] at h
  exact Qa h
 have g:(i:Int)<(ds.length:Int):=by omega
 have bad:∀v:Int,datF ds i=v→v≠0→R (.ret (iv v)) σ:=fun v e hv=>by
  rw [QoZ (by rw [e];exact hv) ds.length 0 (Nat.zero_le _) (by omega) (fun j _ h2=>hj j h2),e] at h
  exact h
 have good:datF ds i=0→R' (roD ds,iv ((i+1:Nat):Int),()) σ:=fun e=>hR' hlt (Qj1 hj e) σ (.refl _)
 have hP:=QkB hj
 simp only [g,Qu hlt Qk,RR,RT]
 rw [QY hlt]
 refine Qpn ?_
 simp only [RR]
 refine Jz (fun c2=>?_) (fun c2=>?_)
 ·have c2:Qd4 (dat ds i)=false:=by simpa using c2
  exact Qa (bad 1 (by unfold datF;rw [if_pos c2]) (by decide))
 have c2:Qd4 (dat ds i)=true:=by simpa using c2
 refine QkA (fun x σ'=>σ'=σ∧x=(roD ds,iv (i:Int),.rop (Qc (dat ds i)) 0,bv (kB2 (dat ds i)),())) ?_ ?_
 rotate_left
 ·intro k hk
  unfold kB2 at hk
  simp only [RR,RT,RG]
  by_cases k1:(dat ds i).kind=1
  ·have k2:¬(dat ds i).kind=2:=by omega
   simp only [k1,RR,RT]
   refine Qj0 ?_
   simp only [k1,RR,RT,RG]
   have k3:decide ((1:Int)=2)=false:=rfl
   cases cn:numB (dat ds i).num
   ·simp only [RR,k3]
    exact hk _ _ ⟨rfl,by simp [k1,cn]<;>rfl⟩
   ·simp only [RR,k3]
    exact hk _ _ ⟨rfl,by simp [k1,k2,cn]<;>rfl⟩
  ·simp only [k1,RR,RT,RG]
   refine Qgk (fun k2=>?_) (fun k2=>?_)
   ·simp only [k2,RR]
    refine UU ?_
    simp only [RR]
    have k2:(dat ds i).kind=2:=by simpa using k2
    exact hk _ _ ⟨rfl,by simp [k2]<;>rfl⟩
   ·have k2:¬(dat ds i).kind=2:=by simpa using k2
    exact hk _ _ ⟨rfl,by simp [k1,k2]<;>rfl⟩
 rintro x σ' ⟨rfl,rfl⟩
 refine Jz (fun c3=>?_) (fun c3=>?_)
 ·have e:=QxZ c3
  exact Qa (bad 3 (by unfold datF;rw [if_neg (by rw [c2];simp),if_pos (by rw [e];decide),e]) (by decide))
 refine QkA (fun x σ''=>σ''=σ'∧x=(roD ds,iv (i:Int),.rop (Qc (dat ds i)) 0,bv (kB3 (dat ds i)),())) ?_ ?_
 rotate_left
 ·intro k hk
  unfold kB3 at hk
  simp only [RR,RT,RG]
  refine Qgk (fun k1=>?_) (fun k1=>?_)
  ·simp only [k1,RR]
   refine Qj2 (hs _ (Qrx hlt)) ?_
   simp only [RR]
   exact hk _ _ ⟨rfl,by rw [k1,Bool.true_and];rfl⟩
  ·exact hk _ _ ⟨rfl,by rw [k1,Bool.false_and];rfl⟩
 rintro x σ ⟨rfl,rfl⟩
 refine Jz (fun c4=>?_) (fun c4=>?_)
 ·have e:=Qx0 c4
  exact Qa (bad 5 (by unfold datF;rw [if_neg (by rw [c2];simp),if_pos (by rw [e];decide),e]) (by decide))
 have ek:=Qx1 c3 c4
 have hd:datF ds i=if i=0 then (if (dat ds i).parent≠ -1 then 3 else 0) else if inB 0 ((i:Int) - 1) (dat ds i).parent=false then 3
   else if (dat ds (dat ds i).parent.toNat).kind≠4∨upW (par ds) ((i:Int) - 1) (dat ds i).parent=false then 1 else if 12<QX (par ds) i then 2 else 0:=by
  unfold datF;rw [if_neg (by rw [c2];simp),if_neg (by rw [ek];simp)]
 have hsub:ibin .sub (iv (i:Int)) (.val (.int .i64 1))=some (iv ((i:Int) - 1)):=QR (by omega) (by omega)
 refine QkA (fun x σ'=>σ'=σ∧x=(roD ds,iv (i:Int),bv ((decide (i=0)&& !decide ((dat ds i).parent= -1))||(!decide (i=0)&& !inB 0 ((i:Int) - 1) (dat ds i).parent)),())) ?_ ?_
 rotate_left
 ·intro k hk
  simp only [RR,RT,RG]
  by_cases i0:i=0
  ·have g0:(i:Int)=0:=by omega
   have g1:¬(0:Int)<(i:Int):=by omega
   simp only [g0,RR,RT,RG]
   cases cp:decide ((dat ds i).parent= -1)
   ·simp only [RR]
    exact hk _ _ ⟨rfl,by subst i0;simp [cp]<;>rfl⟩
   ·simp only [RR]
    have g3:decide ((0:Int)<0)=false:=rfl
    simp only [g3,RR]
    exact hk _ _ ⟨rfl,by subst i0;simp [cp]<;>rfl⟩
  ·have g0:¬(i:Int)=0:=by omega
   have g1:(0:Int)<(i:Int):=by omega
   simp only [g0,g1,hsub,RR,RT,RG]
   refine UU ?_
   simp only [RR]
   exact hk _ _ ⟨rfl,by simp [i0]<;>rfl⟩
 rintro x σ' ⟨rfl,rfl⟩
 refine Jz (fun c5=>?_) (fun c5=>?_)
 ·refine Qa (bad 3 ?_ (by decide))
  rw [hd]
  by_cases i0:i=0
  ·rw [if_pos i0];rw [if_pos];simpa [i0] using c5
  ·rw [if_neg i0];rw [if_pos];simpa [i0] using c5
 by_cases i0:i=0
 ·rw [if_pos i0] at hd
  have hp:(dat ds i).parent= -1:=by simpa [i0] using c5
  rw [if_neg (by simpa using hp)] at hd
  have g1:¬(0:Int)<(i:Int):=by omega
  have hPar:Pars ds (i+1):=QkB (Qj1 hj hd)
  simp only [jn,g1,RR,RT]
  refine Qbt hlt (by omega) hPar ?_
  have hdeep:=Qmc (par ds) 1 (i:Int) (by omega)
  have g6:¬(12:Int)<((QX (par ds) (i:Int):Nat):Int):=by omega
  simp only [g6,Qj hlt (by omega),RR]
  exact good hd
 rw [if_neg i0] at hd
 have c5:inB 0 ((i:Int) - 1) (dat ds i).parent=true:=by simpa [i0] using c5
 obtain ⟨p0,p1⟩:=Us.1 c5
 rw [if_neg (by rw [c5];simp)] at hd
 have g1:(0:Int)<(i:Int):=by omega
 have hPar:Pars ds (i+1):=by
  intro a h0 h1
  by_cases e:a<(i:Int)
  ·exact hP a h0 e
  ·obtain rfl:a=(i:Int):=by omega
   have:par ds (i:Int)=(dat ds i).parent:=by unfold par;rw [show ((i:Int)).toNat=i by omega]
   rw [this];omega
 simp only [jn,g1,RR,RT]
 refine Qpo hlt (by omega) hP ?_
 simp only [RR]
 refine Jz (fun c6=>?_) (fun c6=>?_)
 ·refine Qa (bad 1 ?_ (by decide))
  rw [hd,if_pos]
  cases cu:upW (par ds) ((i:Int) - 1) (dat ds i).parent
  ·exact .inr rfl
  ·rw [cu] at c6
   exact .inl (by simpa using c6)
 have c6:upW (par ds) ((i:Int) - 1) (dat ds i).parent=true∧(dat ds (dat ds i).parent.toNat).kind=4:=by simpa using c6
 rw [if_neg (by rw [c6.1,c6.2];simp)] at hd
 refine Qbt hlt (by omega) hPar ?_
 simp only [RR]
 by_cases c7:12<QX (par ds) (i:Int)
 ·have g6:(12:Int)<((QX (par ds) (i:Int):Nat):Int):=by omega
  rw [if_pos c7] at hd
  simp only [g6,RR]
  exact Qa (bad 2 hd (by decide))
 ·have g6:¬(12:Int)<((QX (par ds) (i:Int):Nat):Int):=by omega
  rw [if_neg c7] at hd
  simp only [g6,Qj hlt (by omega),RR]
  exact good hd
end Go.Proofs.YtggnjjalfnhiiaaGreatDoor.E
/- Operations and blocks: their faults. -/
namespace Go.Proofs.YtggnjjalfnhiiaaGreatDoor.E
open Go Go.RowKit
variable [L:Lam]
variable {σ:AH} {R:AEnd→AH→Prop}
theorem QbG {φ n:Nat} {zs cs:List AV} (hφ:σ φ=none) (hz:zs.length=n) (hc:cs.length=n) (h1:∀x,x∈cs→x.one=true) (h:R (.ret (.agg cs)) σ):
  sto n (.ptr φ 0 0 0) (.agg cs) (σ.set φ ⟨0,n,[zs]⟩) fun σ=>og (lodA n (.ptr φ 0 0 0) σ) fun r=>aret r σ R:=by
 refine QG (es:=[zs]) (cs:=cs) (AH.set_same ..) (by simp) (by simpa using hz) rfl hc h1 ?_
 simp only [List.set_cons_zero,AH.set_set]
 have e:=UG (σ:=σ.set φ ⟨0,n,[cs]⟩) (φ:=φ) (st:=0) (i:=0) (n:=n) (cs:=cs) (AH.set_same ..) rfl rfl hc
 simp only [e,RR]
 exact U7 (Qru (.refl _) hφ) h
theorem one2 {a b:AV} (ha:a.one=true) (hb:b.one=true):∀x,x∈[a,b]→x.one=true:=by
 intro x hx
 simp only [List.mem_cons,List.not_mem_nil,or_false] at hx
 rcases hx with rfl|rfl<;>assumption
theorem Qf2 {os:List OpD} {j:Nat} (h:j<os.length):os[j]=os.getD j default:=by simp [List.getD,h]
end Go.Proofs.YtggnjjalfnhiiaaGreatDoor.E
/- The harness of the laws whose results are numbers. -/
namespace Go.Proofs.YtggnjjalfnhiiaaGreatDoor.E
open Go Go.RowKit
variable [L:Lam]
variable {σ:AH} {R:AEnd→AH→Prop}
theorem Qs {cs:List AV} {n:Nat} (h:cs.length=n):lodA n (.rop cs 0) σ=some (.agg cs):=by
 have:=(At.rop σ cs).lodA (n:=n) (by omega)
 rw [this,List.take_of_length_le (by omega)]
def bD (N:Nat) (ds:List Dat):Prop:=ds.length≤N∧∀d,d∈ds→d.name.size≤N
def bO (N:Nat) (os:List OpD):Prop:=os.length≤N∧∀o,o∈os→o.name.size≤N∧bD N o.data
def bC (N:Nat) (bs:List Blk):Prop:=bs.length≤N∧∀b,b∈bs→bO N b.ops
theorem Qol {X:Type} {enc:X→List AV} {sz:Nat} {xs:List X} {f:FuncId} (hl:∀x,(enc x).length=sz) (hn:xs.length≤1048576)
  (hc:∀x,x∈xs→∀(σ:AH) (R:AEnd→AH→Prop),R (.ret (bv true)) σ→acall TP f [.agg (enc x),.agg (enc x)] σ R) (h:R (.ret (bv true)) σ):
  lp (X:=Tup [0,1,5]) (fun R1 y1 σ=>
   og (lenS y1.1) fun v13=>
   og (ibin .lss y1.2.2.1 v13) fun v14=>
   apick v14 (
    og (idx sz y1.1 y1.2.2.1 σ) fun v19=>
    og (lodA sz v19 σ) fun v20=>
    og (idx sz y1.2.1 y1.2.2.1 σ) fun v23=>
    og (lodA sz v23 σ) fun v24=>
    acall TP f [v20,v24] σ (onr (fun v25 σ=>
    (True)∧
    og (aun .not v25) fun v26=>
    apick v26 (
     aret (bv false) σ R) (
     og (ibin .add y1.2.2.1 (iv 1)) fun v16=>
     R1 (y1.1,y1.2.1,v16,()) σ)) (fun v σ=>apan v σ R))) (
    aret (bv true) σ R)) (.ro (xs.map enc),.ro (xs.map enc),iv 0,()) σ:=by
 refine UW xs.length (fun i=>(.ro (xs.map enc),.ro (xs.map enc),iv (i:Int),())) (fun _=>True) rfl trivial ?_
 intro i hi _ R' hR'
 by_cases hlt:i<xs.length
 ·have g:(i:Int)<(xs.length:Int):=by omega
  simp only [QB,g,Qu hlt hl,Qs (hl _),RR]
  refine hc _ (List.getElem_mem hlt) _ _ ?_
  simp only [Qj hlt (by omega),RR]
  exact ⟨trivial,hR' hlt trivial _ (.refl _)⟩
 ·have g:¬(i:Int)<(xs.length:Int):=by omega
  simp only [QB,g,RR]
  exact Qa h
theorem JJ {v:AV} (h:v.one=true):JD v=some [v]:=by
 cases v<;>first|rfl|(cases h)|(rename_i u;cases u<;>first|rfl|cases h)
theorem Qh2 {φ n off:Nat} {zs:List AV} {v:AV} {k:AH→Prop} (ho:off<n) (h1:v.one=true) (h:k (σ.set φ ⟨0,n,[zs.set off v]⟩)):sto 1 (.ptr φ 0 0 off) v (σ.set φ ⟨0,n,[zs]⟩) k:=by
 refine Q0 (es:=[zs]) (cs:=zs) (AH.set_same ..) rfl ho (JJ h1) h1 ?_
 simp only [List.set_cons_zero,AH.set_set]
 exact h
theorem Qsr {x:AV} {xs z1 z2:List AV} {k:AV→AV→AV→AH→Prop} (hx:JD x=some xs)
  (h:∀φ2 φ3:Nat,φ2≠φ3→σ φ2=none→σ φ3=none→k (.rop xs 0) (.ptr φ2 0 0 0) (.ptr φ3 0 0 0) ((σ.set φ2 ⟨0,z1.length,[z1]⟩).set φ3 ⟨0,z2.length,[z2]⟩)):
  abox x σ fun v1 σ=>new z1 σ fun v2 σ=>frz v1 σ fun f1 σ=>new z2 σ fun v3 σ=>k f1 v2 v3 σ:=by
 unfold abox;rw [hx]
 intro φ1 h1
 intro φ2 h2
 rw [AH.set_none] at h2
 rw [AH.set_comm _ _ _ (Ne.symm h2.1)]
 refine QI (AH.set_none.2 ⟨Ne.symm h2.1,h1⟩) rfl ?_
 intro φ3 h3
 rw [AH.set_none] at h3
 exact h φ2 φ3 (Ne.symm h3.1) h2.2 h3.2
theorem QuU {φ2 φ3 n:Nat} {z cs:List AV} (hne:φ2≠φ3) (h2:σ φ2=none) (h3:σ φ3=none) (hz:z.length=n) (hc:cs.length=n) (h1:∀x,x∈cs→x.one=true) (h:R (.ret (.agg cs)) σ):
  frz (.ptr φ3 0 0 0) ((σ.set φ2 ⟨0,n,[z]⟩).set φ3 ⟨0,n,[cs]⟩) fun f3 σ=>og (lodA n f3 σ) fun v16=>sto n (.ptr φ2 0 0 0) v16 σ fun σ=>og (lodA n (.ptr φ2 0 0 0) σ) fun r2=>aret r2 σ R:=by
 refine QI (AH.set_none.2 ⟨Ne.symm hne,h3⟩) hc ?_
 simp only [Qs hc,RR]
 exact QbG h2 hz hc h1 h
theorem JK {α:Type} [DecidableEq α] (a:α):(!decide (a=a))=false:=by simp
theorem Qh3 {x y:AV} {xs ys:List AV} {k:AV→AV→AH→Prop} (hx:JD x=some xs) (hy:JD y=some ys) (h:k (.rop xs 0) (.rop ys 0) σ):
  abox x σ fun v2 σ=>abox y σ fun v3 σ=>frz v2 σ fun f2 σ=>frz v3 σ fun f3 σ=>k f2 f3 σ:=by
 unfold abox;rw [hx,hy]
 intro φ1 h1 φ2 h2
 rw [AH.set_none] at h2
 rw [AH.set_comm _ _ _ (Ne.symm h2.1)]
 refine QI (AH.set_none.2 ⟨Ne.symm h2.1,h1⟩) rfl ?_
 exact QI h2.2 rfl h
theorem Qom {d:Dat} (h:R (.ret (bv true)) σ):acall TP Qci [.agg (Qc d),.agg (Qc d)] σ R:=by
 refine QkX ?_
 unfold Qhi x143;dsimp only [den,dE,di,tupL,lTup,dwat,Qe,List.map,Option.map,den0,den1,den2,den3,den4]
 refine Qh3 rfl rfl ?_
 simp only [RR,RT,JK,Qaz]
 exact Qa h
theorem Qnf {ds:List Dat} (hb:ds.length≤1048576) (h:R (.ret (bv true)) σ):acall TP QeC [roD ds,roD ds] σ R:=by
 refine QjG ?_
 unfold QfP x109;dsimp only [den,dE,di,tupL,lTup,dwat,Qe,List.map,Option.map,den0,den1,den2,den3,den4]
 simp only [RR,QB,JK]
 exact Qol (f:=Qci) Qk hb (fun x hx σ R h=>Qom h) h
theorem Qq8 {o:OpD} (hb:o.data.length≤1048576) (h:R (.ret (bv true)) σ):acall TP Qex [.agg (Qp o),.agg (Qp o)] σ R:=by
 refine Qob ?_
 unfold Qlp x79;dsimp only [den,dE,di,tupL,lTup,dwat,Qe,List.map,Option.map,den0,den1,den2,den3,den4]
 refine Qh3 rfl rfl ?_
 simp only [RR,RT,JK,Qaz]
 refine Qnf hb ?_
 simp only [RR]
 exact Qa h
theorem Qql {os:List OpD} (hb:bO 1048576 os) (h:R (.ret (bv true)) σ):acall TP Qim [roO os,roO os] σ R:=by
 refine QmX ?_
 unfold Qjv x54;dsimp only [den,dE,di,tupL,lTup,dwat,Qe,List.map,Option.map,den0,den1,den2,den3,den4]
 simp only [RR,QB,JK]
 exact Qol (f:=Qex) Jg hb.1 (fun x hx σ R h=>Qq8 (hb.2 x hx).2.1 h) h
theorem Qon {b:Blk} (hb:bO 1048576 b.ops) (h:R (.ret (bv true)) σ):acall TP Qcg [.agg (QL b),.agg (QL b)] σ R:=by
 refine QkI ?_
 unfold Qg2 x31;dsimp only [den,dE,di,tupL,lTup,dwat,Qe,List.map,Option.map,den0,den1,den2,den3,den4]
 refine Qh3 rfl rfl ?_
 simp only [RR,RT,JK]
 refine Qql hb ?_
 simp only [RR]
 exact Qa h
theorem Qng {bs:List Blk} (hb:bC 1048576 bs) (h:R (.ret (bv true)) σ):acall TP Qeq [roBk bs,roBk bs] σ R:=by
 refine Qjp ?_
 unfold QfD x11;dsimp only [den,dE,di,tupL,lTup,dwat,Qe,List.map,Option.map,den0,den1,den2,den3,den4]
 simp only [RR,QB,JK]
 exact Qol (f:=Qcg) JX hb.1 (fun x hx σ R h=>Qon (hb.2 x hx) h) h
end Go.Proofs.YtggnjjalfnhiiaaGreatDoor.E
/- Operations: what they take and put, where they lead; heights. -/
namespace Go.Proofs.YtggnjjalfnhiiaaGreatDoor.E
open Go Go.RowKit
variable [L:Lam]
variable {σ:AH} {R:AEnd→AH→Prop}
def Qtw (o:OpD):Int:=if o.kind=6∨o.kind=7∨o.kind=8∨o.kind=9 then 1 else if o.kind=10 then o.a+1 else 0
def Qz9 (o:OpD):Int:=if o.kind=1∨o.kind=2∨o.kind=3∨o.kind=4∨o.kind=8∨o.kind=9∨o.kind=10 then 1 else if o.kind=15 then 2 else 0
def QAa (k:Int):Bool:= !(decide (k=5)||decide (k=11)||inB 12 14 k)
def tgtN (o:OpD):Int:=if o.kind=5∨o.kind=6 then o.a else if o.kind=16 then o.c else -1
def QvW (o:OpD) (h:Int):Bool:=if o.kind=12 then decide (h=1) else if o.kind=11 then decide (h=o.a+1) else if o.kind=13∨o.kind=14 then decide (h=0) else decide (Qtw o≤h)
def smO (o:OpD):Prop:=0≤o.a∧o.a≤999∧0≤o.b∧o.b≤999∧0≤o.c∧o.c≤999∧0≤o.d∧o.d≤999
def tgtP (o:OpD):AV:=if o.kind=5∨o.kind=6 then .rop (Qp o) 1 else if o.kind=16 then .rop (Qp o) 3 else .val (.pointer none)
theorem Qme {o:OpD} (h:R (.ret (tgtP o)) σ):acall TP Qa7 [.rop (Qp o) 0] σ R:=by
 refine QcA ?_
 unfold QbF x123;dsimp only [den,dE,di,tupL,lTup,dwat,Qe,List.map,Option.map,den0,den1,den2,den3,den4]
 unfold tgtP at h
 simp only [RR,RT,jn]
 by_cases c1:o.kind=5
 ·rw [if_pos (by omega)] at h;simp only [c1,RR];exact Qa h
 by_cases c2:o.kind=6
 ·rw [if_pos (by omega)] at h;simp only [c2,RR];exact Qa h
 rw [if_neg (by omega)] at h
 by_cases c3:o.kind=16
 ·rw [if_pos c3] at h;simp only [c3,RR];exact Qa h
 rw [if_neg c3] at h
 simp only [c1,c2,c3,RR];exact Qa h
def isPt (T:Tab) (t:TypeId):Bool:=match T t with
 |some ti=>match ti.under with
  | .pointer _=>true
  |_=>false
 |none=>false
theorem Qry {T:Tab} {t:TypeId} {cs:List AV} {off:Nat} {k:AV→Prop} (hu:isPt T t=true) (h:k (bv true)):abin T .neq t (.rop cs off) (.val (.pointer none)) k:=by
 unfold isPt at hu
 split at hu
 case h_2=>cases hu
 rename_i ti ht
 split at hu
 case h_2=>cases hu
 rename_i e he
 unfold abin
 simp only
 unfold aeql
 simp only [ht,he]
 exact h
theorem Qrz {T:Tab} {t:TypeId} {k:AV→Prop} (hu:isPt T t=true) (h:k (bv false)):abin T .neq t (.val (.pointer none)) (.val (.pointer none)) k:=by
 unfold isPt at hu
 split at hu
 case h_2=>cases hu
 rename_i ti ht
 split at hu
 case h_2=>cases hu
 rename_i e he
 unfold abin
 simp only
 unfold aeql
 simp only [ht,he]
 exact h
theorem Qtx {T:Tab} {t:TypeId} {o:OpD} {X Y:Prop} (hs:smO o) (hu:isPt T t=true) (h1:0≤tgtN o→∀p,anil (tgtP o)=some p→(∀τ,lod p τ=some (iv (tgtN o)))→X) (h2:tgtN o= -1→Y):
  abin T .neq t (tgtP o) (.val (.pointer none)) fun v=>apick v X Y:=by
 unfold tgtP tgtN at*
 by_cases c1:o.kind=5∨o.kind=6
 ·simp only [if_pos c1] at h1 ⊢
  refine Qry hu ?_
  simp only [RR]
  exact h1 hs.1 _ rfl fun _=>rfl
 ·simp only [if_neg c1] at h1 h2 ⊢
  by_cases c2:o.kind=16
  ·simp only [if_pos c2] at h1 ⊢
   refine Qry hu ?_
   simp only [RR]
   exact h1 hs.2.2.2.2.1 _ rfl fun _=>rfl
  ·simp only [if_neg c2] at h2 ⊢
   refine Qrz hu ?_
   simp only [RR]
   exact h2 trivial
theorem Qnh {o:OpD} (h:R (.ret (iv (tgtN o))) σ):acall TP QeH [.rop (Qp o) 0] σ R:=by
 refine QjN ?_
 unfold QfU x151;dsimp only [den,dE,di,tupL,lTup,dwat,Qe,List.map,Option.map,den0,den1,den2,den3,den4]
 unfold tgtN at h
 simp only [RR,RT,jn]
 by_cases c1:o.kind=5
 ·rw [if_pos (by omega)] at h;simp only [c1,RR];exact Qa h
 by_cases c2:o.kind=6
 ·rw [if_pos (by omega)] at h;simp only [c2,RR];exact Qa h
 rw [if_neg (by omega)] at h
 by_cases c3:o.kind=16
 ·rw [if_pos c3] at h;simp only [c3,RR,RT];exact Qa h
 rw [if_neg c3] at h
 simp only [c1,c2,c3,RR];exact Qa h
end Go.Proofs.YtggnjjalfnhiiaaGreatDoor.E
/- Heights of a block: the plain law. -/
namespace Go.Proofs.YtggnjjalfnhiiaaGreatDoor.E
open Go Go.RowKit
variable [L:Lam]
def opA (os:List OpD) (i:Nat):OpD:=os.getD i default
def QAb (o:OpD) (i:Nat):List Int:=(if QAa o.kind then [(i:Int)+1] else [])++(if 0≤tgtN o then [tgtN o] else [])
def QAc (o:OpD) (h:Int):Int:=h - Qtw o+Qz9 o
inductive Reach (os:List OpD):Nat→Int→Prop
 |start:Reach os 0 0
 |step {i:Nat} {h t:Int} (hr:Reach os i h) (hi:i<os.length) (hh:QvW (opA os i) h=true) (ht:t∈QAb (opA os i) i):Reach os t.toNat (QAc (opA os i) h)
def smB (os:List OpD):Prop:=∀o,o∈os→smO o
def atH (out:List Int) (i:Nat):Int:=out.getD i (-1)
structure HOk (os:List OpD) (out:List Int):Prop where
 len:out.length=os.length
 pos:0<os.length
 tgt:∀o,o∈os→tgtN o<os.length
 sound:∀i v,Reach os i v→i<os.length∧atH out i=v∧QvW (opA os i) v=true
 own:∀i,i<os.length→atH out i= -1∨(0≤atH out i∧Reach os i (atH out i))
 bnd:∀i,i<os.length→atH out i≤1000000
open Classical in
noncomputable def hts (os:List OpD):Option (List Int):=if h:∃out,HOk os out then some h.choose else none
end Go.Proofs.YtggnjjalfnhiiaaGreatDoor.E
/- From the library's contracts on sorted slices to calls in abstract values: what a row of numbers becomes. -/
namespace Go.Proofs.YtggnjjalfnhiiaaGreatDoor.E
open Go Go.RowKit
variable [L:Lam]
def putL:List (List AV)→Nat→List Int→List (List AV)
 |es,_,[]=>es
 |es,i,y::ys=>putL (es.set i [iv y]) (i+1) ys
theorem Stp.ints {κ:Kap} {φ st:Nat} {r:Reg}:∀(ys:List Int) (i:Nat) (es:List (List AV)) (σ:AH) (w:World),Rel κ σ w→σ φ=some ⟨st,1,es⟩→κ.ρ φ st=some r→r.sz=1→r.lo≤i→i+ys.length≤es.length→(∀c,c∈es→c.length=1)→
  Stp κ σ w κ (σ.set φ ⟨st,1,putL es i ys⟩) (w.setCells r.b (r.base+(i - r.lo)) (ys.map (Value.int .i64))):=by
 intro ys
 induction ys with
 |nil=>
  intro i es σ w hr hF _ _ _ _ _
  have:σ.set φ ⟨st,1,putL es i []⟩=σ:=AH.set_self hF
  rw [this]
  exact .refl hr
 |cons y ys ih=>
  intro i es σ w hr hF hρ hsz hlo hl hz
  have hi:i<es.length:=by simp at hl;omega
  have key:=(Stp.cell (P:=default) hr hF hρ hlo (j:=0) hi (by show 0<1;omega) (VR.val (Value.int .i64 y)) rfl).2
  have e1:r.base+(i - r.lo)*r.sz+0=r.base+(i - r.lo):=by rw [hsz];omega
  rw [e1] at key
  have e2:Fam.cellSet ⟨st,1,es⟩ i 0 (.val (.int .i64 y))=⟨st,1,es.set i [iv y]⟩:=by
   unfold Fam.cellSet
   have h1:(es.getD i []).length=1:=by
    have e:es.getD i []=es[i]:=by simp [List.getD,hi]
    rw [e];exact hz _ (List.getElem_mem hi)
   simp only
   obtain ⟨x,hx⟩:∃x,es.getD i []=[x]:=List.length_eq_one_iff.1 h1
   rw [hx];rfl
  rw [e2] at key
  have h2:=ih (i+1) (es.set i [iv y]) _ _ key.rel (AH.set_same ..) hρ hsz (by omega) (by simp at hl ⊢;omega) (fun c hc=>by
   rcases List.mem_or_eq_of_mem_set hc with h|rfl
   ·exact hz c h
   ·rfl)
  rw [AH.set_set] at h2
  have e3:r.base+(i+1 - r.lo)=r.base+(i - r.lo)+1:=by omega
  rw [e3] at h2
  exact key.trans h2
theorem Qqm:∀(ys:List Int) (pre es:List (List AV)),ys.length≤es.length→putL (pre++es) pre.length ys=pre++(ys.map fun x=>[iv x])++es.drop ys.length:=by
 intro ys
 induction ys with
 |nil=>intro pre es _;simp [putL]
 |cons y ys ih=>
  intro pre es h
  cases es with
  |nil=>simp at h
  |cons e es=>
   simp only [putL]
   have:(pre++e::es).set pre.length [iv y]=(pre++[[iv y]])++es:=by simp
   rw [this]
   have h2:=ih (pre++[[iv y]]) es (by simpa using h)
   simp only [List.length_append,List.length_cons,List.length_nil,Nat.zero_add] at h2
   rw [h2]
   simp
theorem Stp.grown {κ0 κ:Kap} {σ0 σ:AH} {w0:World}:∀(os:List Obj) (w:World),Stp κ0 σ0 w0 κ σ w→Stp κ0 σ0 w0 κ σ (Go.Sort.grow w os.toArray):=by
 intro os
 induction os with
 |nil=>intro w h;simpa using h
 |cons o os ih=>
  intro w h
  have:Go.Sort.grow w (o::os).toArray=Go.Sort.grow (w.alloc o) os.toArray:=by
   rw [Go.Sort.alloc_eq_grow,Go.Sort.grow_grow]
   congr 1
   simp
  rw [this]
  exact ih _ (h.lay o)
theorem QrA {κ:Kap} {σ:AH} {w:World} {φ st:Nat} {es:List (List AV)} {xs:List Int} {v:Value} (hr:Rel κ σ w) (hF:σ φ=some ⟨st,1,es⟩) (hx:∀(i:Nat) (h:i<xs.length),es[i]? =some [iv xs[i]]) (hv:VR κ (.own φ st 0 xs.length) v):
  (xs=[]∧∃a cap,v= .slice a 0 cap∧∀w',VR κ (.own φ st 0 0) (.slice a 0 cap)∨w'=w)∨∃r:Reg,κ.ρ φ st=some r∧r.lo=0∧r.sz=1∧xs.length≤r.cap∧v= .slice (some ⟨r.b,r.base,none⟩) xs.length r.cap∧r.b<w.heap.size∧Go.Sort.Holds (Value.int .i64) w r.b r.base xs.toArray:=by
 generalize hn:xs.length=n at hv
 cases hv with
 |ownEnd h hoff=>
  left
  have:xs=[]:=List.length_eq_zero_iff.1 hn
  exact ⟨this,_,_,rfl,fun _=> .inl (.ownEnd h hoff)⟩
 |own h hlo hle=>
  rename_i r
  right
  subst hn
  obtain ⟨r',e1,hB,H⟩:=hr.has φ _ hF
  have e1':κ.ρ φ st=some r':=e1
  rw [h] at e1'
  obtain rfl:=Option.some.inj e1'
  have hlo0:r.lo=0:=by omega
  have hsz:r.sz=1:=H.sz
  refine ⟨r,h,hlo0,hsz,by omega,?_,?_,?_⟩
  ·simp [hlo0]
  ·obtain ⟨c,e,fz,hh,_⟩:=H.row
   exact (Array.getElem?_eq_some_iff.1 hh).1
  ·intro j hj
   have hj':j<xs.length:=by simpa using hj
   have hjl:j<es.length:=(List.getElem?_eq_some_iff.1 (hx j hj')).1
   obtain ⟨u,hc,hu⟩:=H.cell j 0 (by omega) hjl (by show 0<1;omega)
   have ej:(es.getD j []).getD 0 .any=iv xs[j]:=by simp [List.getD,hx j hj']
   have hu':VR κ (iv xs[j]) u:=ej▸hu
   have e2:r.base+(j - r.lo)*r.sz+0=r.base+j:=by rw [hlo0,hsz];omega
   rw [e2] at hc
   refine ⟨?_,H.free _ ?_⟩
   ·rw [hc]
    cases hu'
    simp [hj']
   ·have:r.cap*r.sz=r.cap:=by rw [hsz];omega
    omega
theorem Qss {P : Program} {f : FuncId} {fn : Func} (hf : P.funcs[f]? = some fn) (hb : fn.body.isNone = false) (hg : (fn.name == "runtime.NumGoroutine") = false)
  (h0:∀(p:Option Addr) (cap:Nat) (w:World),Calls P f #[.slice p 0 cap] w fun e w'=>e= .returned (.tuple #[])∧w'=w)
  (h1:∀(blk off cap:Nat) (zs:List Int) (w:World),Go.Sort.Holds (Value.int .i64) w blk off zs.toArray→blk<w.heap.size→zs.length<4611686018427387904→
   Calls P f #[.slice (some ⟨blk,off,none⟩) zs.length cap] w fun e w'=>e= .returned (.tuple #[])∧∃n os,w'=Go.Sort.grow (Go.Sort.putRow (Value.int .i64) (Go.Sort.ahead w n) blk off (zs.mergeSort fun x y=>decide (x≤y)).toArray) os)
  {σ:AH} {R:AEnd→AH→Prop} {φ st:Nat} {xs:List Int} (hF:σ φ=some ⟨st,1,xs.map fun x=>[iv x]⟩) (hl:xs.length<4611686018427387904) (h:R (.ret (.tup [])) (σ.set φ ⟨st,1,(xs.mergeSort fun x y=>decide (x≤y)).map fun x=>[iv x]⟩)):
  acall P f [.own φ st 0 xs.length] σ R:=by
 refine ⟨fn,hf,hb,hg,fun κ w vs hr hv=>?_⟩
 obtain ⟨v,rfl⟩:∃v,vs=[v]:=List.length_eq_one_iff.1 hv.1.symm
 have hv0:VR κ (.own φ st 0 xs.length) v:=hv.2 0 (by simp)
 have htup:VR κ (.tup []) (.tuple #[]):= .tup (vs:=[]) rfl fun i hi=>absurd hi (Nat.not_lt_zero i)
 rcases QrA hr hF (fun i hi=>by simp [hi]) hv0 with ⟨rfl,a,cap,rfl,_⟩|⟨r,hρ,hlo,hsz,hcap,rfl,hblk,hH⟩
 ·refine (h0 a cap w).mono fun e w' ⟨he,hw⟩=>?_
  subst he;subst hw
  refine ⟨κ,_,_,h,?_,htup⟩
  have:σ.set φ ⟨st,1,(([]:List Int).mergeSort fun x y=>decide (x≤y)).map fun x=>[iv x]⟩=σ:=AH.set_self (by rw [hF];simp)
  rw [this]
  exact .refl hr
 ·refine (h1 r.b r.base r.cap xs w hH hblk hl).mono fun e w' ⟨he,q,os,hw⟩=>?_
  subst he
  rw [Lib.sorted_world _ w r.b r.base q xs.toArray _ os hH (by simp)] at hw
  subst hw
  refine ⟨κ,_,_,h,?_,htup⟩
  have hd:Stp κ σ w κ σ (w.drewN q):= .world hr rfl rfl rfl rfl
  have hs:=Stp.ints (xs.mergeSort fun x y=>decide (x≤y)) 0 _ σ (w.drewN q) hd.rel hF hρ hsz (by omega) (by simp) (fun c hc=>by obtain ⟨x,_,rfl⟩:=List.mem_map.1 hc;rfl)
  have e:=Qqm (xs.mergeSort fun x y=>decide (x≤y)) [] (xs.map fun x=>[iv x]) (by simp)
  simp only [List.nil_append,List.length_nil] at e
  rw [e] at hs
  have e2:((xs.map fun x=>[iv x]).drop (xs.mergeSort fun x y=>decide (x≤y)).length)=([]:List (List AV)):=List.drop_eq_nil_of_le (by simp)
  rw [e2,List.append_nil] at hs
  have e3:r.base+(0 - r.lo)=r.base:=by omega
  rw [e3] at hs
  exact Stp.grown os.toList _ (hd.trans hs)
theorem Qoo {P : Program} {f : FuncId} {fn : Func} (hf : P.funcs[f]? = some fn) (hb : fn.body.isNone = false) (hg : (fn.name == "runtime.NumGoroutine") = false)
  (h0:∀(p:Option Addr) (cap:Nat) (w:World),Calls P f #[.slice p 0 cap] w fun e w'=>e= .returned (.tuple #[])∧w'=w)
  {σ:AH} {R:AEnd→AH→Prop} (h:R (.ret (.tup [])) σ):acall P f [.emp] σ R:=by
 refine ⟨fn,hf,hb,hg,fun κ w vs hr hv=>?_⟩
 obtain ⟨v,rfl⟩:∃v,vs=[v]:=List.length_eq_one_iff.1 hv.1.symm
 have hv0:VR κ .emp v:=hv.2 0 (by simp)
 cases hv0
 refine (h0 _ _ w).mono fun e w' ⟨he,hw⟩=>?_
 subst he;subst hw
 exact ⟨κ,_,_,h,.refl hr,.tup (vs:=[]) rfl fun i hi=>absurd hi (Nat.not_lt_zero i)⟩
theorem Qk4 {P : Program} {f : FuncId} {fn : Func} (hf : P.funcs[f]? = some fn) (hb : fn.body.isNone = false) (hg : (fn.name == "runtime.NumGoroutine") = false)
  (h0:∀(p:Option Addr) (cap:Nat) (w:World),Calls P f #[.slice p 0 cap] w fun e w'=>e= .returned (.slice p 0 cap)∧w'=w)
  {σ:AH} {R:AEnd→AH→Prop} (h:R (.ret .emp) σ):acall P f [.emp] σ R:=by
 refine ⟨fn,hf,hb,hg,fun κ w vs hr hv=>?_⟩
 obtain ⟨v,rfl⟩:∃v,vs=[v]:=List.length_eq_one_iff.1 hv.1.symm
 have hv0:VR κ .emp v:=hv.2 0 (by simp)
 cases hv0
 refine (h0 _ _ w).mono fun e w' ⟨he,hw⟩=>?_
 subst he;subst hw
 exact ⟨κ,_,_,h,.refl hr,VR.emp _⟩
theorem Qpp {P : Program} {f : FuncId} {fn : Func} (hf : P.funcs[f]? = some fn) (hb : fn.body.isNone = false) (hg : (fn.name == "runtime.NumGoroutine") = false)
  (h0:∀(p:Option Addr) (cap:Nat) (w:World),Calls P f #[.slice p 0 cap] w fun e w'=>e= .returned (.slice p 0 cap)∧w'=w)
  (h1:∀(blk off cap:Nat) (zs:List Int) (w:World),Go.Sort.Holds (Value.int .i64) w blk off zs.toArray→zs.length≤9223372036854775807→zs.length≤cap→
   Calls P f #[.slice (some ⟨blk,off,none⟩) zs.length cap] w fun e w'=>e= .returned (.slice (some ⟨blk,off,none⟩) (Lib.compact zs).length cap)∧∃q,w'=Go.Sort.putRow (Value.int .i64) (Go.Sort.ahead w q) blk off (Lib.compact zs++List.replicate (zs.length - (Lib.compact zs).length) 0).toArray)
  (hc:∀zs:List Int,(Lib.compact zs).length≤zs.length)
  {σ:AH} {R:AEnd→AH→Prop} {φ st:Nat} {xs:List Int} (hF:σ φ=some ⟨st,1,xs.map fun x=>[iv x]⟩) (hl:xs.length<4611686018427387904)
  (h:R (.ret (.own φ st 0 (Lib.compact xs).length)) (σ.set φ ⟨st,1,(Lib.compact xs++List.replicate (xs.length - (Lib.compact xs).length) 0).map fun x=>[iv x]⟩)):
  acall P f [.own φ st 0 xs.length] σ R:=by
 refine ⟨fn,hf,hb,hg,fun κ w vs hr hv=>?_⟩
 obtain ⟨v,rfl⟩:∃v,vs=[v]:=List.length_eq_one_iff.1 hv.1.symm
 have hv0:VR κ (.own φ st 0 xs.length) v:=hv.2 0 (by simp)
 have hcl:=hc xs
 rcases QrA hr hF (fun i hi=>by simp [hi]) hv0 with ⟨rfl,a,cap,rfl,_⟩|⟨r,hρ,hlo,hsz,hcap,rfl,hblk,hH⟩
 ·have hz:(Lib.compact ([]:List Int)).length=0:=by simpa using hcl
  have hz2:Lib.compact ([]:List Int)=[]:=List.length_eq_zero_iff.1 hz
  refine (h0 a cap w).mono fun e w' ⟨he,hw⟩=>?_
  subst he;subst hw
  refine ⟨κ,_,_,h,?_,by rw [hz];exact hv0⟩
  have:σ.set φ ⟨st,1,(Lib.compact ([]:List Int)++List.replicate (([]:List Int).length - (Lib.compact ([]:List Int)).length) 0).map fun x=>[iv x]⟩=σ:=AH.set_self (by rw [hF,hz2];simp)
  rw [this]
  exact .refl hr
 ·refine (h1 r.b r.base r.cap xs w hH (by omega) hcap).mono fun e w' ⟨he,q,hw⟩=>?_
  subst he
  have hlen:(Lib.compact xs++List.replicate (xs.length - (Lib.compact xs).length) 0).length=xs.length:=by simp;omega
  have hg2:=Lib.sorted_world (Value.int .i64) w r.b r.base q xs.toArray (Lib.compact xs++List.replicate (xs.length - (Lib.compact xs).length) 0) #[] hH (by rw [hlen];simp)
  rw [Go.Sort.grow_empty,Go.Sort.grow_empty] at hg2
  rw [hg2] at hw
  subst hw
  refine ⟨κ,_,_,h,?_,?_⟩
  ·have hd:Stp κ σ w κ σ (w.drewN q):= .world hr rfl rfl rfl rfl
   have hs:=Stp.ints (Lib.compact xs++List.replicate (xs.length - (Lib.compact xs).length) 0) 0 _ σ (w.drewN q) hd.rel hF hρ hsz (by omega) (by rw [hlen];simp) (fun c hc=>by obtain ⟨x,_,rfl⟩:=List.mem_map.1 hc;rfl)
   have e:=Qqm (Lib.compact xs++List.replicate (xs.length - (Lib.compact xs).length) 0) [] (xs.map fun x=>[iv x]) (by rw [hlen];simp)
   simp only [List.nil_append,List.length_nil] at e
   rw [e] at hs
   have e2:((xs.map fun x=>[iv x]).drop (Lib.compact xs++List.replicate (xs.length - (Lib.compact xs).length) 0).length)=([]:List (List AV)):=List.drop_eq_nil_of_le (by rw [hlen];simp)
   rw [e2,List.append_nil] at hs
   have e3:r.base+(0 - r.lo)=r.base:=by omega
   rw [e3] at hs
   exact hd.trans hs
  ·have:=VR.own (κ:=κ) (φ:=φ) (st:=st) (off:=0) (n:=(Lib.compact xs).length) hρ (by omega) (by omega)
   show VR κ _ _
   simpa [hlo] using this
theorem Qgr (zs:List Int):(Lib.compact zs).length≤zs.length:=by
 unfold Lib.compact Lib.compactUpTo
 rw [List.length_map]
 have:=List.length_filter_le (Lib.keeps zs.toArray) (List.range zs.length)
 rw [List.length_range] at this
 exact this
theorem Qq9 {zs:List Int} {x:Int}:x∈Lib.compact zs↔x∈zs:=by
 unfold Lib.compact Lib.compactUpTo
 have e:∀j,j<zs.length→zs.toArray[j]! =zs.getD j 0:=by
  intro j hj
  simp [hj,List.getD]
 constructor
 ·intro h
  obtain ⟨j,hj,rfl⟩:=List.mem_map.1 h
  have hj1:=List.mem_range.1 (List.mem_filter.1 hj).1
  rw [e j hj1]
  simp [List.getD,hj1]
 ·intro h
  obtain ⟨k,hk,hx⟩:=List.getElem_of_mem h
  have key:∀n,∀k (hk:k<zs.length),k≤n→zs[k]=x→∃j,∃hj:j<zs.length,zs[j]=x∧Lib.keeps zs.toArray j=true:=by
   intro n
   induction n with
   |zero=>
    intro k hk h0 hx
    obtain rfl:k=0:=by omega
    exact ⟨0,hk,hx,Lib.keeps_lt_one _ 0 (by omega)⟩
   |succ n ih=>
    intro k hk hn hx
    by_cases c:Lib.keeps zs.toArray k=true
    ·exact ⟨k,hk,hx,c⟩
    ·have h0:k≠0:=by rintro rfl;exact c (Lib.keeps_lt_one _ 0 (by omega))
     have h2:zs.toArray[k]! =zs.toArray[k - 1]! :=Classical.byContradiction fun h=>c (Lib.keeps_pos h)
     refine ih (k - 1) (by omega) (by omega) ?_
     rw [e k hk,e (k - 1) (by omega)] at h2
     have e1:zs.getD k 0=zs[k]:=by simp [List.getD,hk]
     have e2:zs.getD (k - 1) 0=zs[k - 1]:=by simp [List.getD,show k - 1<zs.length by omega]
     rw [←e2,←h2,e1,hx]
  obtain ⟨j,hj,h1,h2⟩:=key k k hk (Nat.le_refl _) hx
  refine List.mem_map.2 ⟨j,List.mem_filter.2 ⟨List.mem_range.2 hj,h2⟩,?_⟩
  rw [e j hj]
  simp [List.getD,hj,h1]
end Go.Proofs.YtggnjjalfnhiiaaGreatDoor.E
/- The library's contracts at this program. -/
namespace Go.Proofs.YtggnjjalfnhiiaaGreatDoor.E
open Go Go.Proofs
open Go.Shelf
def Qj3:Go.Shelf.Ren:=⟨fun|43=>125|n=>n,fun|22=>82|23=>2|3=>3|4=>4|0=>0|n=>n,fun|n=>n⟩
theorem Qhq:Go.Proofs.SlLaysN.n43 Tryz.prog Qj3:={
 mixed:=by kernel_rfl
 f43:=⟨Tryz.f125.name,by decide,Tryz.func125.trans (congrArg some (by kernel_rfl))⟩
 t0:=Tryz.underlying0
 a0:=Tryz.isAgg0
 z0:=Tryz.sizeOf0
 v0:=Tryz.zeroValue0
 t3:=Tryz.underlying3
 a3:=Tryz.isAgg3
 z3:=Tryz.sizeOf3
 v3:=Tryz.zeroValue3
 t4:=Tryz.underlying4
 a4:=Tryz.isAgg4
 z4:=Tryz.sizeOf4
 v4:=Tryz.zeroValue4
 t22:=Tryz.underlying82
 a22:=Tryz.isAgg82
 z22:=Tryz.sizeOf82
 v22:=Tryz.zeroValue82
 t23:=Tryz.underlying2
 a23:=Tryz.isAgg2
 z23:=Tryz.sizeOf2
 v23:=Tryz.zeroValue2
 i23:=by kernel_rfl}
open Go.RowKit Go.Lib Go.Sort in
theorem Qhr (blk off cap:Nat) (zs:List Int) (w:World) (hH:Go.Sort.Holds (Value.int .i64) w blk off zs.toArray) (hsz:zs.length≤9223372036854775807) (hcap:zs.length≤cap):
  Calls Tryz.prog 125 #[.slice (some ⟨blk,off,none⟩) zs.length cap] w fun e w'=>e= .returned (.slice (some ⟨blk,off,none⟩) (Lib.compact zs).length cap)∧∃q,w'=putRow (Value.int .i64) (Sort.ahead w q) blk off (Lib.compact zs++List.replicate (zs.length - (Lib.compact zs).length) 0).toArray:=AnyG.slices_Compact_int Qhq blk off cap zs w hH hsz hcap
open Go.RowKit Go.Lib Go.Sort in
theorem U6 (a:Option Addr) (cap:Nat) (w:World):
  Calls Tryz.prog 125 #[.slice a 0 cap] w fun e w'=>e= .returned (.slice a 0 cap)∧w'=w:=AnyG.slices_Compact_int_empty Qhq a cap w
def Qk5:Go.Shelf.Ren:=⟨fun|5=>124|8=>160|7=>159|19=>201|20=>138|10=>192|11=>193|12=>194|13=>195|14=>196|15=>197|16=>198|17=>199|18=>200|30=>228|31=>229|32=>230|33=>231|34=>232|35=>233|40=>250|n=>n,fun|23=>82|25=>2|3=>3|32=>184|22=>82|0=>0|44=>181|46=>134|4=>4|36=>260|35=>259|41=>264|5=>5|9=>9|53=>288|57=>292|63=>307|64=>308|n=>n,fun|n=>n⟩
theorem QiR:Go.Proofs.SlLaysM.n5 Tryz.prog Qk5:={
 mixed:=by kernel_rfl
 f5:=⟨Tryz.f124.name,by decide,Tryz.func124.trans (congrArg some (by kernel_rfl))⟩
 f7:=⟨Tryz.f159.name,by decide,Tryz.func159.trans (congrArg some (by kernel_rfl))⟩
 f8:=Tryz.func160.trans (congrArg some (by kernel_rfl))
 f10:=⟨Tryz.f192.name,by decide,Tryz.func192.trans (congrArg some (by kernel_rfl))⟩
 f11:=⟨Tryz.f193.name,by decide,Tryz.func193.trans (congrArg some (by kernel_rfl))⟩
 f12:=⟨Tryz.f194.name,by decide,Tryz.func194.trans (congrArg some (by kernel_rfl))⟩
 f13:=⟨Tryz.f195.name,by decide,Tryz.func195.trans (congrArg some (by kernel_rfl))⟩
 f14:=⟨Tryz.f196.name,by decide,Tryz.func196.trans (congrArg some (by kernel_rfl))⟩
 f15:=⟨Tryz.f197.name,by decide,Tryz.func197.trans (congrArg some (by kernel_rfl))⟩
 f16:=⟨Tryz.f198.name,by decide,Tryz.func198.trans (congrArg some (by kernel_rfl))⟩
 f17:=⟨Tryz.f199.name,by decide,Tryz.func199.trans (congrArg some (by kernel_rfl))⟩
 f18:=⟨Tryz.f200.name,by decide,Tryz.func200.trans (congrArg some (by kernel_rfl))⟩
 f19:=Tryz.func201.trans (congrArg some (by kernel_rfl))
 f20:=Tryz.func138.trans (congrArg some (by kernel_rfl))
 f30:=⟨Tryz.f228.name,by decide,Tryz.func228.trans (congrArg some (by kernel_rfl))⟩
 f31:=Tryz.func229.trans (congrArg some (by kernel_rfl))
 f32:=Tryz.func230.trans (congrArg some (by kernel_rfl))
 f33:=⟨Tryz.f231.name,by decide,Tryz.func231.trans (congrArg some (by kernel_rfl))⟩
 f34:=⟨Tryz.f232.name,by decide,Tryz.func232.trans (congrArg some (by kernel_rfl))⟩
 f35:=⟨Tryz.f233.name,by decide,Tryz.func233.trans (congrArg some (by kernel_rfl))⟩
 f40:=⟨Tryz.f250.name,by decide,Tryz.func250.trans (congrArg some (by kernel_rfl))⟩
 t0:=Tryz.underlying0
 a0:=Tryz.isAgg0
 z0:=Tryz.sizeOf0
 v0:=Tryz.zeroValue0
 t3:=Tryz.underlying3
 a3:=Tryz.isAgg3
 z3:=Tryz.sizeOf3
 v3:=Tryz.zeroValue3
 t4:=Tryz.underlying4
 a4:=Tryz.isAgg4
 z4:=Tryz.sizeOf4
 v4:=Tryz.zeroValue4
 t5:=Tryz.underlying5
 a5:=Tryz.isAgg5
 z5:=Tryz.sizeOf5
 v5:=Tryz.zeroValue5
 t9:=Tryz.underlying9
 a9:=Tryz.isAgg9
 z9:=Tryz.sizeOf9
 v9:=Tryz.zeroValue9
 t22:=Tryz.underlying82
 a22:=Tryz.isAgg82
 z22:=Tryz.sizeOf82
 v22:=Tryz.zeroValue82
 t23:=Tryz.underlying82
 a23:=Tryz.isAgg82
 z23:=Tryz.sizeOf82
 v23:=Tryz.zeroValue82
 t25:=Tryz.underlying2
 a25:=Tryz.isAgg2
 z25:=Tryz.sizeOf2
 v25:=Tryz.zeroValue2
 t32:=Tryz.underlying184
 a32:=Tryz.isAgg184
 z32:=Tryz.sizeOf184
 v32:=Tryz.zeroValue184
 t35:=Tryz.underlying259
 a35:=Tryz.isAgg259
 z35:=Tryz.sizeOf259
 v35:=Tryz.zeroValue259
 t36:=Tryz.underlying260
 a36:=Tryz.isAgg260
 z36:=Tryz.sizeOf260
 v36:=Tryz.zeroValue260
 t41:=Tryz.underlying264
 a41:=Tryz.isAgg264
 z41:=Tryz.sizeOf264
 v41:=Tryz.zeroValue264
 t44:=Tryz.underlying181
 a44:=Tryz.isAgg181
 z44:=Tryz.sizeOf181
 v44:=Tryz.zeroValue181
 t46:=Tryz.underlying134
 a46:=Tryz.isAgg134
 z46:=Tryz.sizeOf134
 v46:=Tryz.zeroValue134
 t53:=Tryz.underlying288
 a53:=Tryz.isAgg288
 z53:=Tryz.sizeOf288
 v53:=Tryz.zeroValue288
 t57:=Tryz.underlying292
 a57:=Tryz.isAgg292
 z57:=Tryz.sizeOf292
 v57:=Tryz.zeroValue292
 t63:=Tryz.underlying307
 a63:=Tryz.isAgg307
 z63:=Tryz.sizeOf307
 v63:=Tryz.zeroValue307
 t64:=Tryz.underlying308
 a64:=Tryz.isAgg308
 z64:=Tryz.sizeOf308
 v64:=Tryz.zeroValue308}
open Go.Sort Go.RowKit in
theorem Qj4 (blk off cap:Nat) (zs:List Int) (w:World) (hH:Go.Sort.Holds (Value.int .i64) w blk off zs.toArray) (hblk:blk<w.heap.size) (hsz:zs.length<4611686018427387904):
  Calls Tryz.prog 124 #[.slice (some ⟨blk,off,none⟩) zs.length cap] w fun e w'=>
   e= .returned (.tuple #[])∧∃n os,w'=grow (putRow (Value.int .i64) (Sort.ahead w n) blk off (zs.mergeSort fun x y=>decide (x≤y)).toArray) os:=AnyM.slices_Sort_int QiR blk off cap zs w hH hblk hsz
open Go.RowKit Go.Sort in
theorem Qa5 (p:Option Addr) (cap:Nat) (w:World):
  Calls Tryz.prog 124 #[.slice p 0 cap] w fun e w'=>e= .returned (.tuple #[])∧w'=w:=AnyM.slices_Sort_int_none QiR p cap w
section
open Go.RowKit
variable [L:Lam]
variable {σ:AH} {R:AEnd→AH→Prop}
theorem Qpq {φ st:Nat} {xs:List Int} (hF:σ φ=some ⟨st,1,xs.map fun x=>[iv x]⟩) (hl:xs.length<4611686018427387904) (h:R (.ret (.tup [])) (σ.set φ ⟨st,1,(xs.mergeSort fun x y=>decide (x≤y)).map fun x=>[iv x]⟩)):
  acall TP QgO [.own φ st 0 xs.length] σ R:=
 Qss Tryz.func124 rfl (by decide) (fun p cap w=>Qa5 p cap w) (fun blk off cap zs w h1 h2 h3=>Qj4 blk off cap zs w h1 h2 h3) hF hl h
theorem Qmf {φ st:Nat} {xs:List Int} (hF:σ φ=some ⟨st,1,xs.map fun x=>[iv x]⟩) (hl:xs.length<4611686018427387904)
  (h:R (.ret (.own φ st 0 (Lib.compact xs).length)) (σ.set φ ⟨st,1,(Lib.compact xs++List.replicate (xs.length - (Lib.compact xs).length) 0).map fun x=>[iv x]⟩)):acall TP QdB [.own φ st 0 xs.length] σ R:=
 Qpp Tryz.func125 rfl (by decide) (fun p cap w=>U6 p cap w) (fun blk off cap zs w h1 h2 h3=>Qhr blk off cap zs w h1 h2 h3) Qgr hF hl h
theorem Qk6 (h:R (.ret (.tup [])) σ):acall TP QgO [.emp] σ R:=
 Qoo Tryz.func124 rfl (by decide) (fun p cap w=>Qa5 p cap w) h
theorem Qh4 (h:R (.ret .emp) σ):acall TP QdB [.emp] σ R:=
 Qk4 Tryz.func125 rfl (by decide) (fun p cap w=>U6 p cap w) h
end
end Go.Proofs.YtggnjjalfnhiiaaGreatDoor.E
/- Targets. -/
namespace Go.Proofs.YtggnjjalfnhiiaaGreatDoor.E
open Go Go.RowKit
variable [L:Lam]
variable {σ:AH} {R:AEnd→AH→Prop}
abbrev ivs (xs:List Int):List (List AV):=xs.map fun x=>[iv x]
theorem QuV {φ st off n:Nat} {es:List (List AV)} {x:Int} {k:AV→AH→Prop} (hF:σ φ=some ⟨st,1,es⟩) (hl:es.length=off+n) (hb:n+1≤4294967296)
  (h:∀ψ st',σ ψ=none→k (.own φ st' off (n+1)) ((σ.set ψ ⟨0,1,[[iv x]]⟩).set φ ⟨st',1,es++[[iv x]]⟩)):bsl 1 [iv 0] 1 [(0,iv x)] σ fun v σ=>app 1 (.own φ st off n) v σ k:=by
 refine ⟨by decide,?_⟩
 rw [if_neg (by decide)]
 intro ψ hψ
 have hne:φ≠ψ:=by rintro rfl;rw [hF] at hψ;cases hψ
 show app 1 (.own φ st off n) (.own ψ 0 0 1) (σ.set ψ ⟨0,1,[[iv x]]⟩) k
 unfold app
 have e:QF (σ.set ψ ⟨0,1,[[iv x]]⟩) (.own ψ 0 0 1)=some [[iv x]]:=by simp [QF]
 have e2:(σ.set ψ ⟨0,1,[[iv x]]⟩) φ=some ⟨st,1,es⟩:=by rw [AH.set_ne' hne];exact hF
 rw [e]
 simp only [e2]
 refine ⟨by simp,trivial,trivial,by omega,by simpa using hb,by intro c hc y hy;simp at hc;subst hc;simp at hy;subst hy;rfl,?_⟩
 have c:¬off+n+[[iv x]].length≤es.length:=by simp;omega
 simp only [if_neg c]
 have e3:es.take (off+n)++[[iv x]]++es.drop (off+n+[[iv x]].length)=es++[[iv x]]:=by
  rw [List.take_of_length_le (by omega),List.drop_eq_nil_of_le (by simp;omega)];simp
 rw [e3]
 exact h ψ (st+1) hψ
theorem QuW {x:Int} {k:AV→AH→Prop} (h:∀ψ φ,σ ψ=none→σ φ=none→φ≠ψ→k (.own φ 0 0 1) ((σ.set ψ ⟨0,1,[[iv x]]⟩).set φ ⟨0,1,[[iv x]]⟩)):bsl 1 [iv 0] 1 [(0,iv x)] σ fun v σ=>app 1 .emp v σ k:=by
 refine ⟨by decide,?_⟩
 rw [if_neg (by decide)]
 intro ψ hψ
 show app 1 .emp (.own ψ 0 0 1) (σ.set ψ ⟨0,1,[[iv x]]⟩) k
 unfold app
 have e:QF (σ.set ψ ⟨0,1,[[iv x]]⟩) (.own ψ 0 0 1)=some [[iv x]]:=by simp [QF]
 rw [e]
 refine ⟨by simp,by simp,by simp,fun _ φ hφ=>?_⟩
 rw [AH.set_none] at hφ
 exact h ψ φ hψ hφ.2 hφ.1
def Gr (σ τ:AH) (a:AV) (xs:List Int):Prop:=(a= .emp∧xs=[]∧τ=σ)∨∃φ st,σ φ=none∧a= .own φ st 0 xs.length∧τ=σ.set φ ⟨st,1,ivs xs⟩
theorem Gr.push {τ:AH} {a:AV} {xs:List Int} {x:Int} {k:AV→AH→Prop} (h:Gr σ τ a xs) (hb:xs.length+1≤4294967296) (hk:∀a' τ' τ'',Gr σ τ' a' (xs++[x])→AH.Sub τ' τ''→k a' τ''):bsl 1 [iv 0] 1 [(0,iv x)] τ fun v τ=>app 1 a v τ k:=by
 rcases h with ⟨rfl,rfl,rfl⟩|⟨φ,st,hφ,rfl,rfl⟩
 ·refine QuW fun ψ φ h1 h2 h3=>hk _ (τ.set φ ⟨0,1,[[iv x]]⟩) _ (.inr ⟨φ,0,h2,rfl,rfl⟩) ?_
  exact AH.Sub.set_both (.set (.refl τ) _ h1) _ _
 ·refine QuV (AH.set_same ..) (by simp) (by simpa using hb) fun ψ st' h1=>?_
  rw [AH.set_none] at h1
  have e:((σ.set φ ⟨st,1,ivs xs⟩).set ψ ⟨0,1,[[iv x]]⟩).set φ ⟨st',1,ivs xs++[[iv x]]⟩=(σ.set ψ ⟨0,1,[[iv x]]⟩).set φ ⟨st',1,ivs (xs++[x])⟩:=by
   rw [AH.set_comm _ _ _ (Ne.symm h1.1),AH.set_set];simp [ivs]
  rw [e]
  exact hk _ (σ.set φ ⟨st',1,ivs (xs++[x])⟩) _ (.inr ⟨φ,st',hφ,by simp,rfl⟩) (AH.Sub.set_both (.set (.refl σ) _ h1.2) _ _)
def tgts (os:List OpD):List Int:=(os.map tgtN).filter fun t=>decide (0≤t)
theorem Qo0 {os:List OpD} {i:Nat} (h:i<os.length):tgts (os.take (i+1))=tgts (os.take i)++if 0≤tgtN os[i] then [tgtN os[i]] else []:=by
 unfold tgts
 rw [List.take_succ_eq_append_getElem h,List.map_append,List.filter_append]
 congr 1
 simp only [List.map_cons,List.map_nil,List.filter_cons,List.filter_nil,decide_eq_true_eq]
theorem Qmg (os:List OpD):(tgts os).length≤os.length:=by
 unfold tgts
 exact Nat.le_trans (List.length_filter_le _ _) (by simp)
theorem QuX {os:List OpD} {t:Int}:t∈tgts os↔0≤t∧∃o,o∈os∧tgtN o=t:=by
 unfold tgts
 rw [List.mem_filter,List.mem_map,decide_eq_true_eq]
 constructor
 ·rintro ⟨⟨o,h1,h2⟩,h3⟩;exact ⟨h3,o,h1,h2⟩
 ·rintro ⟨h3,o,h1,h2⟩;exact ⟨⟨o,h1,h2⟩,h3⟩
def tgtL (os:List OpD):List Int:=Lib.compact ((tgts os).mergeSort fun x y=>decide (x≤y))
theorem QuY {os:List OpD} {t:Int}:t∈tgtL os↔0≤t∧∃o,o∈os∧tgtN o=t:=by
 unfold tgtL
 rw [Qq9,List.mem_mergeSort,QuX]
theorem QuZ (os:List OpD):(tgtL os).length≤os.length:=by
 unfold tgtL
 exact Nat.le_trans (Qgr _) (by simpa using Qmg os)
theorem Qu0:isPt TT Qiv=true:=by kernel_rfl
theorem Qj5 {b:Blk} (hs:smB b.ops) (hl:b.ops.length≤200)
  (h0:tgtL b.ops=[]→R (.ret .emp) σ)
  (h:∀φ st fs,σ φ=none→R (.ret (.own φ st 0 (tgtL b.ops).length)) (σ.set φ ⟨st,1,ivs (tgtL b.ops++fs)⟩)):acall TP Qch [.agg (QL b)] σ R:=by
 refine QkR ?_
 unfold Qhc x88;dsimp only [den,dE,di,tupL,lTup,dwat,Qe,List.map,Option.map,den0,den1,den2,den3,den4]
 refine Qsl ?_
 refine ⟨by decide,?_⟩
 rw [if_pos rfl]
 simp only [RR,RT,QB]
 refine J4 b.ops.length (fun i x τ=>∃a,x=(a,roO b.ops,iv (b.ops.length:Int),iv (i:Int),())∧Gr σ τ a (tgts (b.ops.take i))) ⟨.emp,rfl,.inl ⟨rfl,rfl,rfl⟩⟩ ?_
 rintro i _ τ hi ⟨a,rfl,hG⟩ R' hR'
 by_cases hlt:i<b.ops.length
 ·have g:(i:Int)<(b.ops.length:Int):=by omega
  have hso:=hs _ (List.getElem_mem hlt)
  simp only [g,jn,Qu hlt Jg,RR,RT]
  refine Qtt rfl ?_
  refine Qme ?_
  simp only [Qj hlt (by omega),RR]
  refine Qtx hso Qu0 (fun h0 p hp hq=>?_) (fun h0=>?_)
  ·simp only [hp,hq,RR]
   refine hG.push (by have:=Qmg (b.ops.take i);simp at this;omega) fun a' τ' τ'' hG' hsub=>?_
   exact hR' _ _ τ' hlt hsub ⟨a',rfl,by rw [Qo0 hlt,if_pos h0];exact hG'⟩
  ·exact hR' _ _ τ hlt (.refl τ) ⟨a,rfl,by rw [Qo0 hlt,if_neg (by omega),List.append_nil];exact hG⟩
 ·have g:¬(i:Int)<(b.ops.length:Int):=by omega
  obtain rfl:i=b.ops.length:=by omega
  rw [List.take_length] at hG
  simp only [g,RR]
  rcases hG with ⟨rfl,he,rfl⟩|⟨φ,st,hφ,rfl,rfl⟩
  ·refine Qk6 ?_
   simp only [RR]
   refine Qh4 ?_
   simp only [RR]
   refine Qa (h0 ?_)
   unfold tgtL
   rw [he]
   have:=Qgr (([]:List Int).mergeSort fun x y=>decide (x≤y))
   exact List.length_eq_zero_iff.1 (by simpa using this)
  ·have hlen:(tgts b.ops).length<4611686018427387904:=by have:=Qmg b.ops;omega
   refine Qpq (AH.set_same ..) hlen ?_
   simp only [RR,AH.set_set]
   have e:(tgts b.ops).length=((tgts b.ops).mergeSort fun x y=>decide (x≤y)).length:=by simp
   rw [e]
   refine Qmf (AH.set_same ..) (by rw [←e];exact hlen) ?_
   simp only [RR,AH.set_set]
   exact Qa (h φ st _ hφ)
end Go.Proofs.YtggnjjalfnhiiaaGreatDoor.E
/- What is owned, lent to a call that only reads it. -/
namespace Go.Proofs.YtggnjjalfnhiiaaGreatDoor.E
open Go Go.RowKit
variable [L:Lam]
inductive Nom:AV→Prop
 |val (v:Value):Nom (.val v)
 |own (φ st off n:Nat):Nom (.own φ st off n)
 |ptr (φ st i off:Nat):Nom (.ptr φ st i off)
 |emp:Nom .emp
 |agg {cs:List AV} (h:∀i,i<cs.length→Nom (cs.getD i .any)):Nom (.agg cs)
 |tup {cs:List AV} (h:∀i,i<cs.length→Nom (cs.getD i .any)):Nom (.tup cs)
theorem Nom.vr {κ κ':Kap} (hρ:κ'.ρ=κ.ρ) {a:AV} (hn:Nom a):∀{v:Value},VR κ a v→VR κ' a v:=by
 induction hn with
 |val u=>intro v h;cases h;exact .val _
 |own φ st off n=>
  intro v h
  cases h with
  |own h1 h2 h3=>exact .own (by rw [hρ];exact h1) h2 h3
  |ownEnd h1 h2=>exact .ownEnd (by rw [hρ];exact h1) h2
 |ptr φ st i off=>
  intro v h
  cases h with
  |ptr h1 h2=>exact .ptr (by rw [hρ];exact h1) h2
 |emp=>intro v h;cases h;exact .emp _
 |agg h ih=>
  intro v k
  cases k with
  |agg hl h2=>exact .agg hl fun i hi=>ih i hi (h2 i hi)
 |tup h ih=>
  intro v k
  cases k with
  |tup hl h2=>exact .tup hl fun i hi=>ih i hi (h2 i hi)
def NomH (σ:AH):Prop:=∀φ F,σ φ=some F→∀i j,i<F.es.length→j<F.sz→Nom ((F.es.getD i []).getD j .any)
def NomE:AEnd→Prop
 | .ret a=>Nom a
 | .pan a=>Nom a
def thaw (σ0 σ σ1:AH):AH:=fun φ=>match σ φ,σ0 φ with
 |some F,none=>some F
 |_,_=>σ1 φ
theorem Qo1 {σ0 σ σ1:AH} {φ:Nat} {F:Fam} (h:σ φ=some F) (h0:σ0 φ=none):thaw σ0 σ σ1 φ=some F:=by simp [thaw,h,h0]
theorem Qct {σ0 σ σ1:AH} {φ:Nat} (h:σ φ=none∨σ0 φ≠none):thaw σ0 σ σ1 φ=σ1 φ:=by
 unfold thaw
 rcases h with h|h
 ·rw [h]
 ·cases e:σ φ with
  |none=>rfl
  |some F=>
   cases e0:σ0 φ with
   |none=>exact absurd e0 h
   |some G=>rfl
theorem Qab {σ0 σ σ1:AH} {φ:Nat} {F:Fam} (h:thaw σ0 σ σ1 φ=some F):(σ φ=some F∧σ0 φ=none)∨((σ φ=none∨σ0 φ≠none)∧σ1 φ=some F):=by
 cases e:σ φ with
 |none=>right;rw [Qct (.inl e)] at h;exact ⟨.inl rfl,h⟩
 |some G=>
  cases e0:σ0 φ with
  |none=>left;rw [Qo1 e e0] at h;exact ⟨h,rfl⟩
  |some K=>right;rw [Qct (.inr (by rw [e0];simp))] at h;exact ⟨.inr (by simp),h⟩
open Classical in
noncomputable def kapT (σ0 σ:AH) (κ κ1:Kap):Kap:=
 {κ1 with M:=fun b o=>if ∃φ F r,σ φ=some F∧σ0 φ=none∧κ.ρ φ F.st=some r∧r.b=b then none else κ1.M b o}
open Classical in
theorem Qni {P:Program} {f:FuncId} {args args':List AV} {σ0 σ:AH} {Q:AEnd→AH→Prop} (hs:AH.Sub σ0 σ) (hl:args.length=args'.length) (hf:∀i,i<args.length→Fz σ0 σ (args.getD i .any) (args'.getD i .any))
  (h:acall P f args' σ0 fun e σ1=>NomE e∧NomH σ1∧Q e σ1):
  acall P f args σ fun e σ'=>∃σ1,Q e σ1∧σ'=thaw σ0 σ σ1∧∀φ F,σ φ=some F→σ0 φ=none→σ1 φ=none:=by
 obtain ⟨fn,h1,h2,h3,h4⟩:=h
 refine ⟨fn,h1,h2,h3,fun κ w vs hr hv=>?_⟩
 obtain ⟨hS,hV⟩:=Qba hs hr
 have hv':VRs (kapF σ0 σ κ w) args' vs:=⟨hl▸hv.1,fun i hi=>hV _ _ _ (hf i (hl▸hi)) (hv.2 i (hl▸hi))⟩
 refine (h4 _ w vs hS.rel hv').mono ?_
 rintro e w' ⟨κ1,ae,σ1,⟨hne,hnh,hq⟩,hT,hE⟩
 have hρF:(kapF σ0 σ κ w).ρ=κ.ρ:=rfl
 -- the blocks that were lent
 have lent:∀b,(∃φ F r,σ φ=some F∧σ0 φ=none∧κ.ρ φ F.st=some r∧r.b=b)→b<w.heap.size∧w'.heap[b]? =w.heap[b]? ∧(∀φ F r,σ1 φ=some F→κ1.ρ φ F.st=some r→r.b≠b):=by
  rintro b ⟨φ,F,r,hF,h0,hρ,rfl⟩
  have hb:=hr.block_lt hF hρ
  refine ⟨hb,?_⟩
  have key:=hT.fra.blk r.b hb (fun ψ G s hG hs'=>?_)
  ·exact ⟨key.1,key.2.2⟩
  ·have hψ:ψ≠φ:=by rintro rfl;rw [h0] at hG;cases hG
   exact hr.inj ψ φ G F s r (hs ψ G hG) hF hs' hρ hψ
 have ids:∀φ F,σ φ=some F→σ0 φ=none→σ1 φ=none∧∀st,κ1.ρ φ st=κ.ρ φ st:=by
  intro φ F hF h0
  obtain ⟨r,hρ,_,_⟩:=hr.has φ F hF
  exact hT.fra.ids φ h0 ⟨_,r,hρ⟩
 have hρ1:∀φ st r,κ.ρ φ st=some r→κ1.ρ φ st=some r:=fun φ st r h=>hT.ext.ρ φ st r h
 have hM1:∀b o v,κ.M b o=some v→¬(∃φ F r,σ φ=some F∧σ0 φ=none∧κ.ρ φ F.st=some r∧r.b=b):=by
  rintro b o v hm ⟨φ,F,r,hF,h0,hρ,rfl⟩
  rw [hr.off φ F r hF hρ o] at hm;cases hm
 have hext:Ext κ (kapT σ0 σ κ κ1):=by
  refine ⟨hρ1,fun b o v hm=>?_,hT.ext.B,hT.ext.W⟩
  have hn:=hM1 b o v hm
  show (if _ then none else κ1.M b o)=some v
  rw [if_neg hn]
  refine hT.ext.M b o v ?_
  show (if _ then _ else κ.M b o)=some v
  rw [if_neg hn];exact hm
 have hB:(kapT σ0 σ κ κ1).B=κ.B:=hT.ext.B
 refine ⟨kapT σ0 σ κ κ1,ae,thaw σ0 σ σ1,⟨σ1,hq,rfl,fun φ F hF h0=>(ids φ F hF h0).1⟩,⟨hext,?_,?_⟩,?_⟩
 ·refine ⟨?_,?_,?_,?_,?_,?_,?_,?_,hT.rel.obj,Lam.kpm _ _ hext hr.kp⟩
  ·intro φ F hF
   rcases Qab hF with ⟨hF,h0⟩|⟨_,hF⟩
   ·obtain ⟨r,hρ,hb,hH⟩:=hr.has φ F hF
    exact ⟨r,hρ1 _ _ _ hρ,by rw [hB];exact hb,hH.same hext (lent r.b ⟨φ,F,r,hF,h0,hρ,rfl⟩).2.1⟩
   ·obtain ⟨r,hρ,hb,hH⟩:=hT.rel.has φ F hF
    refine ⟨r,hρ,hb,⟨hH.sz,hH.len,hH.row,hH.free,hH.esz,fun i j hlo hi hj=>?_⟩⟩
    obtain ⟨v,hc,hv⟩:=hH.cell i j hlo hi hj
    exact ⟨v,hc,(hnh φ F hF i j hi hj).vr (κ:=κ1) (κ':=kapT σ0 σ κ κ1) rfl hv⟩
  ·intro φ ψ F G r s hF hG hr1 hs1 hne
   rcases Qab hF with ⟨hF,h0⟩|⟨_,hF⟩
   ·have hρF':κ.ρ φ F.st=some r:=by rw [←(ids φ F hF h0).2];exact hr1
    rcases Qab hG with ⟨hG,h0'⟩|⟨_,hG⟩
    ·have hρG':κ.ρ ψ G.st=some s:=by rw [←(ids ψ G hG h0').2];exact hs1
     exact hr.inj φ ψ F G r s hF hG hρF' hρG' hne
    ·exact Ne.symm ((lent r.b ⟨φ,F,r,hF,h0,hρF',rfl⟩).2.2 ψ G s hG hs1)
   ·rcases Qab hG with ⟨hG,h0'⟩|⟨_,hG⟩
    ·have hρG':κ.ρ ψ G.st=some s:=by rw [←(ids ψ G hG h0').2];exact hs1
     exact (lent s.b ⟨ψ,G,s,hG,h0',hρG',rfl⟩).2.2 φ F r hF hr1
    ·exact hT.rel.inj φ ψ F G r s hF hG hr1 hs1 hne
  ·intro b o v hm
   have hm':(if ∃φ F r,σ φ=some F∧σ0 φ=none∧κ.ρ φ F.st=some r∧r.b=b then none else κ1.M b o)=some v:=hm
   split at hm'
   ·cases hm'
   ·exact hT.rel.mem b o v hm'
  ·intro φ F r hF hρ o
   show (if _ then none else κ1.M r.b o)=none
   split
   ·rfl
   ·rename_i hn
    rcases Qab hF with ⟨hF,h0⟩|⟨_,hF⟩
    ·exact absurd ⟨φ,F,r,hF,h0,by rw [←(ids φ F hF h0).2];exact hρ,rfl⟩ hn
    ·exact hT.rel.off φ F r hF hρ o
  ·intro φ F st hF hst
   rcases Qab hF with ⟨hF,h0⟩|⟨_,hF⟩
   ·show κ1.ρ φ st=none
    rw [(ids φ F hF h0).2]
    exact hr.up φ F st hF hst
   ·exact hT.rel.up φ F st hF hst
  ·obtain ⟨n1,k1⟩:=hr.fin
   obtain ⟨n2,k2⟩:=hT.rel.fin
   refine ⟨max n1 n2,fun φ hφ=>?_⟩
   obtain ⟨a1,a2⟩:=k1 φ (by omega)
   obtain ⟨b1,b2⟩:=k2 φ (by omega)
   exact ⟨by rw [Qct (.inl a1)];exact b1,b2⟩
  ·exact hT.rel.bel
  ·exact hT.rel.bw
 ·refine ⟨hT.fra.size,fun b hb hu=>?_,fun φ hn hex=>?_⟩
  ·have hnl:¬(∃φ F r,σ φ=some F∧σ0 φ=none∧κ.ρ φ F.st=some r∧r.b=b):=by
    rintro ⟨φ,F,r,hF,_,hρ,e⟩
    exact hu φ F r hF hρ e
   obtain ⟨c1,c2,c3⟩:=hT.fra.blk b hb (fun φ F r hF hρ=>hu φ F r (hs φ F hF) hρ)
   refine ⟨c1,fun o=>?_,fun φ F r hF hρ=>?_⟩
   ·show (if _ then none else κ1.M b o)=κ.M b o
    rw [if_neg hnl,c2 o]
    show (if _ then _ else κ.M b o)=κ.M b o
    rw [if_neg hnl]
   ·rcases Qab hF with ⟨hF,h0⟩|⟨_,hF⟩
    ·exact hu φ F r hF (by rw [←(ids φ F hF h0).2];exact hρ)
    ·exact c3 φ F r hF hρ
  ·have hn0:σ0 φ=none:=hs.none hn
   obtain ⟨c1,c2⟩:=hT.fra.ids φ hn0 hex
   exact ⟨by rw [Qct (.inl hn)];exact c1,c2⟩
 ·cases ae with
  |ret a=>
   cases e with
   |returned v=>exact (show Nom a from hne).vr (κ:=κ1) (κ':=kapT σ0 σ κ κ1) rfl hE
   |_=>exact hE.elim
  |pan a=>
   cases e with
   |panicked ch=>
    obtain ⟨v,e1,e2⟩:=hE
    exact ⟨v,e1,(show Nom a from hne).vr (κ:=κ1) (κ':=kapT σ0 σ κ κ1) rfl e2⟩
   |_=>exact hE.elim
end Go.Proofs.YtggnjjalfnhiiaaGreatDoor.E
/- Marks: what a law writes into arguments that were lent. -/
namespace Go.Proofs.YtggnjjalfnhiiaaGreatDoor.E
open Go Go.RowKit
variable [L:Lam]
variable {σ τ:AH} {R:AEnd→AH→Prop}
theorem Qlx {T:Tab} {s d:TypeId} {x:AV} {es:List (List AV)} {bs:List UInt8} {k:AV→AH→Prop} (hb:QgA T s d=true) (hx:QF σ x=some es) (ha:Qb7 es=some bs) (hn:∀u,x≠ .val (.string u)) (hi:∀kd n,x≠ .val (.int kd n))
  (h:k (.val (.string ⟨bs.toArray⟩)) σ):QdU T s d x σ k:=by
 unfold QgA at hb
 split at hb
 case h_2=>cases hb
 rename_i ts td h1 h2
 split at hb
 case h_2=>cases hb
 rename_i e h3 h4
 split at hb
 case h_2=>cases hb
 rename_i te h5
 split at hb
 case h_2=>cases hb
 rename_i h6
 unfold QdU
 simp only [h1,h2,h3,h4,h5,h6,hx,ha]
 exact ⟨Nat.eq_of_beq_eq_true hb,hn,h⟩
theorem Qe0 (a b:ByteArray) (h:a.size+b.size≤4611686018427387904):sbin .add (.val (.string a)) (.val (.string b))=some (.val (.string (a++b))):=by
 show Option.map AV.val (if a.size+b.size≤4611686018427387904 then some (.string (a++b)) else none)=_
 rw [if_pos h]
 rfl
theorem Qmh (x:UInt8):(⟨[x].toArray⟩:ByteArray).size=1:=rfl
theorem Qf3:(⟨#[]⟩:ByteArray).size=0:=rfl
theorem QzR:(⟨#[109]⟩:ByteArray).size=1:=rfl
theorem Qqn:QgA TT Qz5 ty_s=true:=by kernel_rfl
end Go.Proofs.YtggnjjalfnhiiaaGreatDoor.E
/- Numbers as texts, by the reference; draws. -/
namespace Go.Proofs.YtggnjjalfnhiiaaGreatDoor.E
open Go Go.RowKit
set_option maxRecDepth 100000
variable [L:Lam]
def itB (n:Int):ByteArray:=⟨(Lib.itoa n).toArray⟩
theorem Qqo {a b:List UInt8} (h:bs a=bs b):a=b:=by
 have:=congrArg (fun x:ByteArray=>x.data.toList) h
 simpa using this
theorem Qj6 (a b:List UInt8):bs a++bs b=bs (a++b):=by
 apply ByteArray.ext
 simp [ByteArray.data_append]
def isDg (c:UInt8):Bool:=decide (48≤c.toNat)&&decide (c.toNat≤57)
theorem QbH {c:UInt8}:isDg c=true↔48≤c.toNat∧c.toNat≤57:=by unfold isDg;rw [Bool.and_eq_true,decide_eq_true_iff,decide_eq_true_iff]
def val (acc:Nat) (l:List UInt8):Nat:=l.foldl (fun a c=>a*10+(c.toNat - 48)) acc
theorem Qqp (acc:Nat) (c:UInt8) (l:List UInt8):val acc (c::l)=val (acc*10+(c.toNat - 48)) l:=by unfold val;rw [List.foldl_cons]
theorem Qu1 {d:Nat} (h:d<10):(UInt8.ofNat (48+d)).toNat=48+d:=by
 rw [UInt8.toNat_ofNat'];omega
theorem QvX {d:Nat} (h:d<10):isDg (UInt8.ofNat (48+d))=true:=by
 rw [QbH,Qu1 h];omega
theorem Qdw {u:Nat} (h:¬u<10):Lib.decDigits u=Lib.decDigits (u / 10)++[UInt8.ofNat (48+u % 10)]:=by rw [Lib.decDigits,dif_neg h]
theorem Qj7:∀(u:Nat),∀c,c∈Lib.decDigits u→isDg c=true:=by
 intro u
 induction u using Nat.strongRecOn with
 |_ u ih=>
  intro c hc
  by_cases h:u<10
  ·rw [Lib.decDigits_one h] at hc
   rw [List.mem_singleton.1 hc]
   exact QvX h
  ·rw [Qdw h] at hc
   rcases List.mem_append.1 hc with hc|hc
   ·exact ih _ (by omega) c hc
   ·rw [List.mem_singleton.1 hc]
    exact QvX (by omega)
theorem Qdx:∀(k u:Nat),u<10 ^ (k+1)→1≤(Lib.decDigits u).length∧(Lib.decDigits u).length≤k+1:=by
 intro k
 induction k with
 |zero=>
  intro u h
  rw [Lib.decDigits_one (by simpa using h)]
  simp
 |succ k ih=>
  intro u h
  by_cases c:u<10
  ·rw [Lib.decDigits_one c]
   simp
  ·rw [Qdw c]
   have:=ih (u / 10) (by rw [Nat.pow_succ] at h;omega)
   simp only [List.length_append,List.length_cons,List.length_nil]
   omega
def sgnB (l:List UInt8):Bool:=match l with|c::_=>decide (c.toNat=45)|[]=>false
def dgsB (l:List UInt8):List UInt8:=if sgnB l then l.tail else l
def Ub (l:List UInt8):Bool:=decide (1≤(dgsB l).length)&&decide ((dgsB l).length≤10)&&(dgsB l).all isDg
def parV (l:List UInt8):Int:=if sgnB l then -(val 0 (dgsB l):Nat) else (val 0 (dgsB l):Nat)
theorem QiS:∀(l:List UInt8) (acc:Nat),(∀c,c∈l→isDg c=true)→(acc+1)*10 ^ l.length≤1000000000000000000→Lib.parseUintM 18446744073709551615 acc l= .ok (val acc l)∧val acc l<(acc+1)*10 ^ l.length:=by
 intro l
 induction l with
 |nil=>intro acc _ _;exact ⟨rfl,by simp [val]⟩
 |cons c l ih=>
  intro acc hd hb
  have h1:=QbH.1 (hd c (.head _))
  rw [List.length_cons,Nat.pow_succ] at hb ⊢
  have hp:1≤10 ^ l.length:=Nat.one_le_pow _ _ (by decide)
  have e:(acc+1)*(10 ^ l.length*10)=((acc+1)*10)*10 ^ l.length:=by rw [Nat.mul_comm (10 ^ l.length) 10,Nat.mul_assoc]
  rw [e] at hb ⊢
  have h2:(acc*10+(c.toNat - 48)+1)*10 ^ l.length≤((acc+1)*10)*10 ^ l.length:=Nat.mul_le_mul_right _ (by omega)
  have h3:(acc+1)*10≤((acc+1)*10)*10 ^ l.length:=Nat.le_mul_of_pos_right _ hp
  obtain ⟨i1,i2⟩:=ih (acc*10+(c.toNat - 48)) (fun x hx=>hd x (.tail _ hx)) (by omega)
  refine ⟨?_,by rw [Qqp];omega⟩
  rw [Lib.parseUintM,if_pos h1,if_neg (by omega),if_neg (by omega),i1,Qqp]
theorem QzS {l:List UInt8} (hd:∀c,c∈l→isDg c=true) (hl:l.length≤10):val 0 l<10 ^ l.length:=by
 have hp:10 ^ l.length≤10 ^ 10:=Nat.pow_le_pow_right (by decide) hl
 have:=(QiS l 0 hd (by rw [Nat.zero_add,Nat.one_mul];omega)).2
 omega
theorem Qmi {l:List UInt8} (hd:∀c,c∈l→isDg c=true) (hl:l.length≤10):val 0 l<10000000000:=by
 have:=QzS hd hl
 have hp:10 ^ l.length≤10 ^ 10:=Nat.pow_le_pow_right (by decide) hl
 omega
def Qbu (l:List UInt8):Bool:=Ub l&&(inB (-1000000000) 1000000000 (parV l)&&decide (itB (parV l)=bs l))
variable {σ τ:AH} {R:AEnd→AH→Prop}
theorem Qst {x:Int} (h0:0≤x) (h1:x≤255):IntKind.u8.wrap x=x:=by
 have e:x % (2 ^ IntKind.u8.bits:Int)=x:=Int.emod_eq_of_lt h0 (by simp [IntKind.bits];omega)
 unfold IntKind.wrap
 simp [e,IntKind.signed]
theorem Qop {n:Nat} (hn:n<10) (h:R (.ret (str (bs (Lib.decDigits n)))) σ):acall TP Ux [iv (n:Int)] σ R:=by
 refine QaI ?_
 unfold Qau x22;dsimp only [den,dE,di,tupL,lTup,dwat,Qe,List.map,Option.map,den0,den1,den2,den3,den4]
 have g1:¬(n:Int)<0:=by omega
 have g2:(n:Int)<10:=by omega
 have e2:ibin .add (.val (.int .i64 48)) (iv (n:Int))=some (iv (48+(n:Int))):=Q6 (by omega) (by omega)
 have e3:UB .u8 (iv (48+(n:Int)))=some (.val (.int .u8 (48+(n:Int)))):=by
  show some (AV.val (.int .u8 (IntKind.u8.wrap (48+(n:Int)))))=_
  rw [Qst (by omega) (by omega)]
 simp only [g1,g2,e2,e3,RR]
 refine ⟨by decide,?_⟩
 rw [if_neg (by decide)]
 intro ψ hψ
 have ha:∀w:Int,QF (σ.set ψ ⟨0,1,[[.val (.int .u8 w)]]⟩) (.own ψ 0 0 1)=some [[.val (.int .u8 w)]]:=fun w=>by simp [QF]
 have hb:∀w:Int,Qb7 [[.val (.int .u8 w)]]=some [UInt8.ofNat w.toNat]:=fun w=>rfl
 refine Qlx Qqn (ha _) (hb _) (by intro u h;cases h) (by intro kd n h;cases h) ?_
 have e:(⟨[UInt8.ofNat (48+(n:Int)).toNat].toArray⟩:ByteArray)=bs (Lib.decDigits n):=by
  rw [Lib.decDigits_one hn,show (48+(n:Int)).toNat=48+n by omega]
 rw [e]
 exact U7 (.set (.refl σ) _ hψ) h
theorem QcF:∀(n:Nat),n≤10000000000→∀{σ:AH} {R:AEnd→AH→Prop},R (.ret (str (bs (Lib.decDigits n)))) σ→acall TP Ux [iv (n:Int)] σ R:=by
 intro n
 induction n using Nat.strongRecOn with
 |_ n ih=>
  intro hn σ R h
  by_cases c:n<10
  ·refine Qop c ?_
   exact h
  refine QaI ?_
  unfold Qau x22;dsimp only [den,dE,di,tupL,lTup,dwat,Qe,List.map,Option.map,den0,den1,den2,den3,den4]
  have g1:¬(n:Int)<0:=by omega
  have g2:¬(n:Int)<10:=by omega
  have e0:ibin .quo (iv (n:Int)) (.val (.int .i64 10))=some (iv ((n / 10:Nat):Int)):=by
   show some (iv (IntKind.i64.wrap ((n:Int).tdiv 10)))=_
   rw [Int.tdiv_eq_ediv_of_nonneg (by omega),Qay (by omega) (by omega)]
   rfl
  have e1:ibin .rem (iv (n:Int)) (.val (.int .i64 10))=some (iv ((n % 10:Nat):Int)):=by
   show some (iv ((n:Int).tmod 10))=_
   rw [Int.tmod_eq_emod_of_nonneg (by omega)]
   rfl
  have e2:ibin .add (.val (.int .i64 48)) (iv ((n % 10:Nat):Int))=some (iv (48+((n % 10:Nat):Int))):=Q6 (by omega) (by omega)
  have e3:UB .u8 (iv (48+((n % 10:Nat):Int)))=some (.val (.int .u8 (48+((n % 10:Nat):Int)))):=by
   show some (AV.val (.int .u8 (IntKind.u8.wrap _)))=_
   rw [Qst (by omega) (by omega)]
  have e4:∀w:Int,bslR 1 [.val (.int .u8 0)] 1 [(0,.val (.int .u8 w))]=some (.ro [[.val (.int .u8 w)]]):=fun w=>by
   show (if 1*1≤2 ^ 24∧(∀c,c∈[[AV.val (.int .u8 w)]]→c.length=1) then some (if 1=0 then AV.emp else .ro [[.val (.int .u8 w)]]) else none)=_
   rw [if_pos ⟨by decide,by simp⟩]
   rfl
  have e5:∀w:Int,b2s (.ro [[.val (.int .u8 w)]])=some (str ⟨[UInt8.ofNat w.toNat].toArray⟩):=fun w=>rfl
  simp only [g1,g2,e0,e1,e2,e3,e4,e5,RR]
  refine ih (n / 10) (by omega) (by omega) ?_
  have hl:=Qdx 10 (n / 10) (by omega)
  have e6:=Qe0 (bs (Lib.decDigits (n / 10))) ⟨[UInt8.ofNat (48+((n % 10:Nat):Int)).toNat].toArray⟩ (by rw [Qo,Qmh];omega)
  have e7:bs (Lib.decDigits (n / 10))++⟨[UInt8.ofNat (48+((n % 10:Nat):Int)).toNat].toArray⟩=bs (Lib.decDigits n):=by
   rw [Qdw c,←Qj6,show (48+((n % 10:Nat):Int)).toNat=48+n % 10 by omega]
  rw [e7] at e6
  refine ⟨trivial,?_⟩
  simp only [e6,RR]
  exact Qa h
theorem QrB {v:Int} (h0: -9223372036854775808≤ -v) (h1: -v≤9223372036854775807):aun .neg (iv v)=some (iv (-v)):=by
 show some (iv (IntKind.i64.wrap (0 - v)))=_
 rw [Int.zero_sub,Qay h0 h1]
theorem Qi7 {v:Int} (h0: -1000000000≤v) (h1:v≤1000000000) (h:R (.ret (str (itB v))) σ):acall TP Ux [iv v] σ R:=by
 unfold itB Lib.itoa at h
 by_cases c:v<0
 ·rw [if_pos c] at h
  refine QaI ?_
  unfold Qau x22;dsimp only [den,dE,di,tupL,lTup,dwat,Qe,List.map,Option.map,den0,den1,den2,den3,den4]
  have e1: -v=((v.natAbs:Nat):Int):=by omega
  simp only [c,QrB (show -9223372036854775808≤ -v by omega) (show -v≤9223372036854775807 by omega),RR]
  rw [e1]
  refine QcF _ (by omega) ?_
  have hl:=Qdx 10 v.natAbs (by omega)
  have e6:=Qe0 ⟨#[45]⟩ (bs (Lib.decDigits v.natAbs)) (by rw [Qo (Lib.decDigits v.natAbs)];show 1+(Lib.decDigits v.natAbs).length≤4611686018427387904;omega)
  have e7:(⟨#[45]⟩:ByteArray)++bs (Lib.decDigits v.natAbs)=bs (45::Lib.decDigits v.natAbs):=Qj6 [45] _
  rw [e7] at e6
  simp only [e6,RR]
  exact Qa h
 ·rw [if_neg c] at h
  have e1:v=((v.toNat:Nat):Int):=by omega
  rw [e1]
  exact QcF _ (by omega) h
theorem Qu2 {l:List UInt8} {j:Nat} (h:j<l.length):val 0 (l.take (j+1))=val 0 (l.take j)*10+(l[j].toNat - 48):=by
 rw [List.take_succ_eq_append_getElem h]
 unfold val
 rw [List.foldl_append,List.foldl_cons,List.foldl_nil]
theorem sub8 {x:Int} (h0:48≤x) (h1:x≤255):ibin .sub (u8v x) (u8v 48)=some (u8v (x - 48)):=by
 show some (u8v (IntKind.u8.wrap (x - 48)))=_
 rw [Qst (by omega) (by omega)]
theorem QAd {x:Int} (h0:0≤x) (h1:x≤255):UB .i64 (u8v x)=some (iv x):=by
 show some (iv (IntKind.i64.wrap x))=_
 rw [Qay (by omega) (by omega)]
theorem UC {X:Type} {B:X→AH→Prop} {E:(X→AH→Prop)→Prop} (P:X→AH→Prop) (hB:∀x σ,P x σ→B x σ) (hE:∀k:X→AH→Prop,(∀x σ,P x σ→k x σ)→E k):jn B E:=hE B hB
theorem Qoq {l:List UInt8} (hl:l.length≤1048576) (h1:Ub l=true→R (.ret (.tup [iv (parV l),bv (inB (-1000000000) 1000000000 (parV l)&&decide (itB (parV l)=bs l))])) σ)
  (h0:Ub l=false→R (.ret (.tup [iv 0,bv false])) σ):acall TP QfC [str (bs l)] σ R:=by
 have fin:∀v:Int,Ub l=true→v=parV l→acall TP Qdq [iv v] σ (onr (fun v58 σ=>
   og (gval v58 true false (some (iv v))) fun v60=>
   gpick v58 (acall TP Ux [v60] σ (onr (fun v61 σ=>og (sbin .eql v61 (str (bs l))) fun v63=>aret (.tup [iv v,v63]) σ R) (fun v σ=>apan v σ R))) (aret (.tup [iv v,bv false]) σ R) False) (fun v σ=>apan v σ R)):=by
  rintro v hok rfl
  have h1:=h1 hok
  refine Qj0 ?_
  unfold numB
  cases c:inB (-1000000000) 1000000000 (parV l) with
  |false=>
   rw [c] at h1
   simp only [RR]
   exact Qa h1
  |true=>
   rw [c] at h1
   have:=Us.1 c
   simp only [RR]
   refine Qi7 this.1 this.2 ?_
   simp only [Jt,RR]
   exact Qa h1
 refine Qk1 ?_
 unfold Qhm x236;dsimp only [den,dE,di,tupL,lTup,dwat,Qe,List.map,Option.map,den0,den1,den2,den3,den4]
 have dm:∀m:Nat,m≤l.length→dgsB l=l.drop m→(dgsB l).length=l.length - m:=fun m h e=>by rw [e,List.length_drop]
 refine UC (P:=fun x τ=>τ=σ∧∃m:Nat,x=(str (bs l),iv (m:Int),())∧m≤l.length∧dgsB l=l.drop m∧sgnB l=decide ((m:Int)=1)) ?_ ?_
 ·rintro x τ ⟨rfl,m,rfl,hm,hd,hs⟩
  have hlen:=dm m hm hd
  have s1:ibin .sub (iv (l.length:Int)) (iv (m:Int))=some (iv ((dgsB l).length:Int)):=by
   rw [QR (by omega) (by omega)];congr 3;omega
  simp only [Qo,s1,RR]
  by_cases c1:((dgsB l).length:Int)<1
  ·have hn:Ub l=false:=by
    unfold Ub
    rw [decide_eq_false (by omega)];rfl
   simp only [c1,RR]
   exact Qa (h0 hn)
  by_cases c2:10<((dgsB l).length:Int)
  ·have hn:Ub l=false:=by
    unfold Ub
    rw [decide_eq_false (show ¬(dgsB l).length≤10 by omega),Bool.and_false];rfl
   simp only [c1,c2,s1,Qo,RR]
   exact Qa (h0 hn)
  simp only [c1,c2,s1,Qo,RR]
  refine UW (dgsB l).length (fun j=>(str (bs l),iv (m:Int),iv ((val 0 ((dgsB l).take j):Nat):Int),iv ((m+j:Nat):Int),())) (fun j=>∀c,c∈(dgsB l).take j→isDg c=true) rfl (by simp) ?_
  intro j hj hH R2 hR2
  by_cases c3:j<(dgsB l).length
  ·have g1:((m+j:Nat):Int)<(l.length:Int):=by omega
   have hmj:m+j<l.length:=by omega
   have eb:l[m+j]=(dgsB l)[j]:=by
    have:(dgsB l)[j]? =(l.drop m)[j]? :=by rw [hd]
    rw [List.getElem?_eq_getElem c3,List.getElem?_drop,List.getElem?_eq_getElem hmj] at this
    exact (Option.some.inj this).symm
   have ix:=Q2 hmj
   rw [eb] at ix
   have bad:isDg (dgsB l)[j]=false→Ub l=false:=by
    intro hf
    unfold Ub
    have:(dgsB l).all isDg=false:=by
     rw [Bool.eq_false_iff]
     intro ha
     have:=List.all_eq_true.1 ha _ (List.getElem_mem c3)
     rw [hf] at this;cases this
    rw [this,Bool.and_false]
   have hb:((dgsB l)[j].toNat:Nat)<256:=(dgsB l)[j].toNat_lt
   by_cases c4:(((dgsB l)[j].toNat:Nat):Int)<48
   ·have hf:isDg (dgsB l)[j]=false:=by
     rw [Bool.eq_false_iff];intro ht;have:=QbH.1 ht;omega
    simp only [Qo,g1,ix,JF,c4,RR]
    exact Qa (h0 (bad hf))
   by_cases c5:57<(((dgsB l)[j].toNat:Nat):Int)
   ·have hf:isDg (dgsB l)[j]=false:=by
     rw [Bool.eq_false_iff];intro ht;have:=QbH.1 ht;omega
    simp only [Qo,g1,ix,JF,c4,c5,RR]
    exact Qa (h0 (bad hf))
   have ht:isDg (dgsB l)[j]=true:=QbH.2 (by omega)
   have hv:=Qmi hH (by rw [List.length_take];omega)
   have hsub:=sub8 (x:=(((dgsB l)[j].toNat:Nat):Int)) (by omega) (by omega)
   have hcv:=QAd (x:=(((dgsB l)[j].toNat:Nat):Int) - 48) (by omega) (by omega)
   have e1:ibin .mul (iv ((val 0 ((dgsB l).take j):Nat):Int)) (iv 10)=some (iv (((val 0 ((dgsB l).take j):Nat):Int)*10)):=QuI (by omega) (by omega)
   have e2:ibin .add (iv (((val 0 ((dgsB l).take j):Nat):Int)*10)) (iv ((((dgsB l)[j].toNat:Nat):Int) - 48))=some (iv ((val 0 ((dgsB l).take (j+1)):Nat):Int)):=by
    rw [Q6 (by omega) (by omega),Qu2 c3];congr 3;omega
   have e3:ibin .add (iv ((m+j:Nat):Int)) (iv 1)=some (iv ((m+(j+1):Nat):Int)):=by
    rw [Q6 (by omega) (by omega)];congr 3
   simp only [Qo,g1,ix,JF,c4,c5,e1,hsub,hcv,e2,e3,RR]
   refine hR2 c3 ?_ _ (.refl _)
   intro c hc
   rw [List.take_succ_eq_append_getElem c3] at hc
   rcases List.mem_append.1 hc with hc|hc
   ·exact hH c hc
   ·rw [List.mem_singleton.1 hc];exact ht
  ·obtain rfl:j=(dgsB l).length:=by omega
   have g1:¬((m+(dgsB l).length:Nat):Int)<(l.length:Int):=by omega
   rw [List.take_length] at hH ⊢
   have hok:Ub l=true:=by
    unfold Ub
    rw [Bool.and_eq_true,Bool.and_eq_true,decide_eq_true_iff,decide_eq_true_iff,List.all_eq_true]
    exact ⟨⟨by omega,by omega⟩,hH⟩
   have hv:=Qmi hH (by omega)
   simp only [Qo,g1,jn,RR]
   by_cases c6:(m:Int)=1
   ·rw [decide_eq_true c6] at hs
    simp only [c6,QrB (v:=((val 0 (dgsB l):Nat):Int)) (by omega) (by omega),RR]
    exact fin _ hok (by unfold parV;rw [hs];rfl)
   ·rw [decide_eq_false c6] at hs
    simp only [c6,RR]
    exact fin _ hok (by unfold parV;rw [hs];rfl)
 ·intro k hk
  cases l with
  |nil=>
   simp only [Qo,List.length_nil,RR]
   exact hk _ _ ⟨rfl,0,rfl,by simp,rfl,rfl⟩
  |cons c r=>
   have ix:=Q2 (l:=c::r) (i:=0) (by simp)
   have g1:(0:Int)<((c::r).length:Int):=by simp only [List.length_cons];omega
   have ix:idxStr (str (bs (c::r))) (iv 0)=some (u8v (c.toNat:Nat)):=ix
   by_cases c1:((c.toNat:Nat):Int)=45
   ·have hs:sgnB (c::r)=true:=by unfold sgnB;simp;omega
    simp only [Qo,g1,ix,JF,c1,RR]
    exact hk _ _ ⟨rfl,1,rfl,by simp,by unfold dgsB;rw [hs];rfl,hs⟩
   ·have hs:sgnB (c::r)=false:=by unfold sgnB;simp;omega
    simp only [Qo,g1,ix,JF,c1,RR]
    exact hk _ _ ⟨rfl,0,rfl,by simp,by unfold dgsB;rw [hs];rfl,hs⟩
end Go.Proofs.YtggnjjalfnhiiaaGreatDoor.E
/- Numbers read from words by the program: the plain law. -/
namespace Go.Proofs.YtggnjjalfnhiiaaGreatDoor.E
open Go Go.RowKit
variable [L:Lam]
def numP (s:ByteArray):Int × Int:=match Lib.parseIntB 64 s.data.toList with
 | .ok v=>if inB (-1000000000) 1000000000 v&&decide (itB v=s) then (v,0) else (0,5)
 |_=>(0,5)
theorem Qu3 {l:List UInt8} (h:Ub l=true):Lib.parseIntB 64 l= .ok (parV l):=by
 unfold Ub at h
 rw [Bool.and_eq_true,Bool.and_eq_true,decide_eq_true_iff,decide_eq_true_iff,List.all_eq_true] at h
 obtain ⟨⟨h1,h2⟩,h3⟩:=h
 have hp:10 ^ (dgsB l).length≤10 ^ 10:=Nat.pow_le_pow_right (by decide) h2
 have e:=(QiS (dgsB l) 0 h3 (by rw [Nat.zero_add,Nat.one_mul];omega)).1
 have hv:=Qmi h3 h2
 have eb:Lib.parseUintB 64 (dgsB l)= .ok (val 0 (dgsB l)):=by
  unfold Lib.parseUintB
  rw [if_neg (by intro hc;rw [hc] at h1;simp at h1)]
  exact e
 cases l with
 |nil=>simp [dgsB,sgnB] at h1
 |cons c r=>
  unfold Lib.parseIntB
  simp only
  have hd:(if c.toNat=43∨c.toNat=45 then r else c::r)=dgsB (c::r):=by
   unfold dgsB sgnB
   by_cases c1:c.toNat=45
   ·simp [c1]
   ·by_cases c2:c.toNat=43
    ·have hx:c∈dgsB (c::r):=by simp [dgsB,sgnB,c1]
     have:=QbH.1 (h3 c hx)
     omega
    ·simp [c1,c2]
  rw [hd,eb]
  simp only
  unfold parV sgnB
  by_cases c1:c.toNat=45
  ·simp only [c1,not_true,false_and,if_false,true_and,decide_true,if_true]
   rw [if_neg (by omega)]
  ·simp only [c1,not_false_iff,true_and,false_and,if_false,decide_false,Bool.false_eq_true]
   rw [if_neg (by omega)]
theorem Qsu {v:Int} (h0: -1000000000≤v) (h1:v≤1000000000):Ub (Lib.itoa v)=true:=by
 have key:∀u:Nat,u≤1000000000→((decide (1≤(Lib.decDigits u).length)&&decide ((Lib.decDigits u).length≤10))&&(Lib.decDigits u).all isDg)=true:=by
  intro u hu
  have:=Qdx 9 u (by omega)
  rw [Bool.and_eq_true,Bool.and_eq_true,decide_eq_true_iff,decide_eq_true_iff,List.all_eq_true]
  exact ⟨⟨this.1,this.2⟩,Qj7 u⟩
 unfold Lib.itoa
 split
 ·have e:dgsB (45::Lib.decDigits v.natAbs)=Lib.decDigits v.natAbs:=by simp [dgsB,sgnB]
  unfold Ub
  rw [e]
  exact key _ (by omega)
 ·have e:dgsB (Lib.decDigits v.toNat)=Lib.decDigits v.toNat:=by
   unfold dgsB
   have:sgnB (Lib.decDigits v.toNat)=false:=by
    have hd:=Qj7 v.toNat
    cases hc:Lib.decDigits v.toNat with
    |nil=>rfl
    |cons c r=>
     rw [hc] at hd
     have:=QbH.1 (hd c (.head _))
     unfold sgnB
     simp only [decide_eq_false_iff_not]
     omega
   rw [this];rfl
  unfold Ub
  rw [e]
  exact key _ (by omega)
theorem Qx2 (l:List UInt8):numP (bs l)=if Qbu l then (parV l,0) else (0,5):=by
 have hl:(bs l).data.toList=l:=by simp
 unfold numP Qbu
 rw [hl]
 cases hp:Ub l with
 |true=>
  rw [Qu3 hp]
  simp only [Bool.true_and]
 |false=>
  simp only [Bool.false_and,Bool.false_eq_true,if_false]
  cases h:Lib.parseIntB 64 l with
  |ok v=>
   simp only
   rw [if_neg ?_]
   intro hc
   rw [Bool.and_eq_true,decide_eq_true_iff] at hc
   have hb:=(@Us lam0 _ _ _).1 hc.1
   have:l=Lib.itoa v:=(Qqo hc.2).symm
   rw [this,Qsu hb.1 hb.2] at hp
   cases hp
  |_=>rfl
end Go.Proofs.YtggnjjalfnhiiaaGreatDoor.E
/- The library's contracts at this program. -/
namespace Go.Proofs.YtggnjjalfnhiiaaGreatDoor.E
open Go Go.Proofs
open Go.Shelf
def Qqq:Go.Shelf.Ren:=⟨fun|173=>48|246=>75|283=>104|284=>105|285=>106|286=>107|129=>138|317=>137|318=>139|319=>140|320=>141|337=>172|338=>173|n=>n,fun|2=>2|3=>3|9=>9|4=>4|171=>133|0=>0|53=>134|37=>59|5=>5|173=>137|212=>180|51=>181|20=>20|213=>182|46=>184|232=>269|233=>270|n=>n,fun|17=>0|18=>2|19=>3|n=>n⟩
theorem Qu4:Go.Proofs.LaysM.n173 Tryz.prog Qqq:={
 mixed:=by kernel_rfl
 f129:=Tryz.func138.trans (congrArg some (by kernel_rfl))
 f173:=Tryz.func48.trans (congrArg some (by kernel_rfl))
 f246:=Tryz.func75.trans (congrArg some (by kernel_rfl))
 f283:=Tryz.func104.trans (congrArg some (by kernel_rfl))
 f284:=Tryz.func105.trans (congrArg some (by kernel_rfl))
 f285:=Tryz.func106.trans (congrArg some (by kernel_rfl))
 f286:=Tryz.func107.trans (congrArg some (by kernel_rfl))
 f317:=Tryz.func137.trans (congrArg some (by kernel_rfl))
 f318:=Tryz.func139.trans (congrArg some (by kernel_rfl))
 f319:=Tryz.func140.trans (congrArg some (by kernel_rfl))
 f320:=Tryz.func141.trans (congrArg some (by kernel_rfl))
 f337:=Tryz.func172.trans (congrArg some (by kernel_rfl))
 f338:=Tryz.func173.trans (congrArg some (by kernel_rfl))
 t0:=Tryz.underlying0
 a0:=Tryz.isAgg0
 z0:=Tryz.sizeOf0
 v0:=Tryz.zeroValue0
 t2:=Tryz.underlying2
 a2:=Tryz.isAgg2
 z2:=Tryz.sizeOf2
 v2:=Tryz.zeroValue2
 t3:=Tryz.underlying3
 a3:=Tryz.isAgg3
 z3:=Tryz.sizeOf3
 v3:=Tryz.zeroValue3
 t4:=Tryz.underlying4
 a4:=Tryz.isAgg4
 z4:=Tryz.sizeOf4
 v4:=Tryz.zeroValue4
 t5:=Tryz.underlying5
 a5:=Tryz.isAgg5
 z5:=Tryz.sizeOf5
 v5:=Tryz.zeroValue5
 t9:=Tryz.underlying9
 a9:=Tryz.isAgg9
 z9:=Tryz.sizeOf9
 v9:=Tryz.zeroValue9
 t20:=Tryz.underlying20
 a20:=Tryz.isAgg20
 z20:=Tryz.sizeOf20
 v20:=Tryz.zeroValue20
 t37:=Tryz.underlying59
 a37:=Tryz.isAgg59
 z37:=Tryz.sizeOf59
 v37:=Tryz.zeroValue59
 t46:=Tryz.underlying184
 a46:=Tryz.isAgg184
 z46:=Tryz.sizeOf184
 v46:=Tryz.zeroValue184
 t51:=Tryz.underlying181
 a51:=Tryz.isAgg181
 z51:=Tryz.sizeOf181
 v51:=Tryz.zeroValue181
 t53:=Tryz.underlying134
 a53:=Tryz.isAgg134
 z53:=Tryz.sizeOf134
 v53:=Tryz.zeroValue134
 t171:=Tryz.underlying133
 a171:=Tryz.isAgg133
 z171:=Tryz.sizeOf133
 v171:=Tryz.zeroValue133
 t173:=Tryz.underlying137
 a173:=Tryz.isAgg137
 z173:=Tryz.sizeOf137
 v173:=Tryz.zeroValue137
 t212:=Tryz.underlying180
 a212:=Tryz.isAgg180
 z212:=Tryz.sizeOf180
 v212:=Tryz.zeroValue180
 t213:=Tryz.underlying182
 a213:=Tryz.isAgg182
 z213:=Tryz.sizeOf182
 t232:=Tryz.underlying269
 a232:=Tryz.isAgg269
 z232:=Tryz.sizeOf269
 v232:=Tryz.zeroValue269
 t233:=Tryz.underlying270
 a233:=Tryz.isAgg270
 z233:=Tryz.sizeOf270
 v233:=Tryz.zeroValue270
 g17:=by kernel_rfl
 g18:=by kernel_rfl
 g19:=by kernel_rfl
 i0:=by kernel_rfl
 i2:=by kernel_rfl
 i3:=by kernel_rfl
 i4:=by kernel_rfl
 i5:=by kernel_rfl
 i9:=by kernel_rfl
 i20:=by kernel_rfl
 i37:=by kernel_rfl
 i46:=by kernel_rfl
 i51:=by kernel_rfl
 i53:=by kernel_rfl
 i171:=by kernel_rfl
 i173:=by kernel_rfl
 i212:=by kernel_rfl
 i232:=by kernel_rfl
 i233:=by kernel_rfl
 m17:=by kernel_rfl
 m18:=by kernel_rfl
 m19:=by kernel_rfl}
open Go.RowKit Go.Sort Go.Lib in
theorem Qfd (n : Int) (h0 : -9223372036854775808 ≤ n) (h1 : n ≤ 9223372036854775807) (w : World) (htab : Lib.TabIs Tryz.prog w "internal/strconv.uint64pow10" .u64 Lib.pow10Tab) :
  Calls Tryz.prog 48 #[.int .i64 n,.int .i64 10] w fun e w'=>e= .returned (.string ⟨(Lib.itoa n).toArray⟩)∧∃k os,w'=grow (w.drewN k) os:=Any.strconv_FormatInt_10 Qu4 n h0 h1 w htab
def laysC174_ren:Go.Shelf.Ren:=⟨fun|174=>244|247=>252|245=>253|287=>256|279=>257|280=>258|281=>259|282=>260|321=>261|322=>262|316=>263|171=>265|205=>264|243=>266|246=>75|283=>104|284=>105|285=>106|286=>107|129=>138|317=>137|318=>139|319=>140|320=>141|337=>172|338=>173|n=>n,fun|9=>9|3=>3|2=>2|75=>63|85=>299|4=>4|167=>318|5=>5|53=>134|175=>319|46=>184|168=>321|37=>59|0=>0|210=>327|21=>21|127=>89|145=>331|143=>329|171=>133|173=>137|212=>180|51=>181|20=>20|213=>182|232=>269|233=>270|80=>66|n=>n,fun|15=>6|16=>7|17=>0|18=>2|19=>3|n=>n⟩
theorem Qmj:Go.Proofs.LaysC.n174 Tryz.prog laysC174_ren:={
 mixed:=by kernel_rfl
 f129:=Tryz.func138.trans (congrArg some (by kernel_rfl))
 f171:=Tryz.func265.trans (congrArg some (by kernel_rfl))
 f174:=Tryz.func244.trans (congrArg some (by kernel_rfl))
 f205:=Tryz.func264.trans (congrArg some (by kernel_rfl))
 f243:=Tryz.func266.trans (congrArg some (by kernel_rfl))
 f245:=Tryz.func253.trans (congrArg some (by kernel_rfl))
 f246:=Tryz.func75.trans (congrArg some (by kernel_rfl))
 f247:=Tryz.func252.trans (congrArg some (by kernel_rfl))
 f279:=Tryz.func257.trans (congrArg some (by kernel_rfl))
 f280:=Tryz.func258.trans (congrArg some (by kernel_rfl))
 f281:=Tryz.func259.trans (congrArg some (by kernel_rfl))
 f282:=Tryz.func260.trans (congrArg some (by kernel_rfl))
 f283:=Tryz.func104.trans (congrArg some (by kernel_rfl))
 f284:=Tryz.func105.trans (congrArg some (by kernel_rfl))
 f285:=Tryz.func106.trans (congrArg some (by kernel_rfl))
 f286:=Tryz.func107.trans (congrArg some (by kernel_rfl))
 f287:=Tryz.func256.trans (congrArg some (by kernel_rfl))
 f316:=Tryz.func263.trans (congrArg some (by kernel_rfl))
 f317:=Tryz.func137.trans (congrArg some (by kernel_rfl))
 f318:=Tryz.func139.trans (congrArg some (by kernel_rfl))
 f319:=Tryz.func140.trans (congrArg some (by kernel_rfl))
 f320:=Tryz.func141.trans (congrArg some (by kernel_rfl))
 f321:=Tryz.func261.trans (congrArg some (by kernel_rfl))
 f322:=Tryz.func262.trans (congrArg some (by kernel_rfl))
 f337:=Tryz.func172.trans (congrArg some (by kernel_rfl))
 f338:=Tryz.func173.trans (congrArg some (by kernel_rfl))
 t0:=Tryz.underlying0
 a0:=Tryz.isAgg0
 z0:=Tryz.sizeOf0
 v0:=Tryz.zeroValue0
 t2:=Tryz.underlying2
 a2:=Tryz.isAgg2
 z2:=Tryz.sizeOf2
 v2:=Tryz.zeroValue2
 t3:=Tryz.underlying3
 a3:=Tryz.isAgg3
 z3:=Tryz.sizeOf3
 v3:=Tryz.zeroValue3
 t4:=Tryz.underlying4
 a4:=Tryz.isAgg4
 z4:=Tryz.sizeOf4
 v4:=Tryz.zeroValue4
 t5:=Tryz.underlying5
 a5:=Tryz.isAgg5
 z5:=Tryz.sizeOf5
 v5:=Tryz.zeroValue5
 t9:=Tryz.underlying9
 a9:=Tryz.isAgg9
 z9:=Tryz.sizeOf9
 v9:=Tryz.zeroValue9
 t20:=Tryz.underlying20
 a20:=Tryz.isAgg20
 z20:=Tryz.sizeOf20
 v20:=Tryz.zeroValue20
 t21:=Tryz.underlying21
 a21:=Tryz.isAgg21
 z21:=Tryz.sizeOf21
 v21:=Tryz.zeroValue21
 t37:=Tryz.underlying59
 a37:=Tryz.isAgg59
 z37:=Tryz.sizeOf59
 v37:=Tryz.zeroValue59
 t46:=Tryz.underlying184
 a46:=Tryz.isAgg184
 z46:=Tryz.sizeOf184
 v46:=Tryz.zeroValue184
 t51:=Tryz.underlying181
 a51:=Tryz.isAgg181
 z51:=Tryz.sizeOf181
 v51:=Tryz.zeroValue181
 t53:=Tryz.underlying134
 a53:=Tryz.isAgg134
 z53:=Tryz.sizeOf134
 v53:=Tryz.zeroValue134
 t75:=Tryz.underlying63
 a75:=Tryz.isAgg63
 z75:=Tryz.sizeOf63
 v75:=Tryz.zeroValue63
 t85:=Tryz.underlying299
 a85:=Tryz.isAgg299
 z85:=Tryz.sizeOf299
 v85:=Tryz.zeroValue299
 t127:=Tryz.underlying89
 a127:=Tryz.isAgg89
 z127:=Tryz.sizeOf89
 v127:=Tryz.zeroValue89
 t143:=Tryz.underlying329
 a143:=Tryz.isAgg329
 z143:=Tryz.sizeOf329
 v143:=Tryz.zeroValue329
 t145:=Tryz.underlying331
 a145:=Tryz.isAgg331
 z145:=Tryz.sizeOf331
 v145:=Tryz.zeroValue331
 t167:=Tryz.underlying318
 a167:=Tryz.isAgg318
 z167:=Tryz.sizeOf318
 v167:=Tryz.zeroValue318
 t168:=Tryz.underlying321
 a168:=Tryz.isAgg321
 z168:=Tryz.sizeOf321
 v168:=Tryz.zeroValue321
 t171:=Tryz.underlying133
 a171:=Tryz.isAgg133
 z171:=Tryz.sizeOf133
 v171:=Tryz.zeroValue133
 t173:=Tryz.underlying137
 a173:=Tryz.isAgg137
 z173:=Tryz.sizeOf137
 v173:=Tryz.zeroValue137
 t175:=Tryz.underlying319
 a175:=Tryz.isAgg319
 z175:=Tryz.sizeOf319
 v175:=Tryz.zeroValue319
 t210:=Tryz.underlying327
 a210:=Tryz.isAgg327
 z210:=Tryz.sizeOf327
 v210:=Tryz.zeroValue327
 t212:=Tryz.underlying180
 a212:=Tryz.isAgg180
 z212:=Tryz.sizeOf180
 v212:=Tryz.zeroValue180
 t213:=Tryz.underlying182
 a213:=Tryz.isAgg182
 z213:=Tryz.sizeOf182
 t232:=Tryz.underlying269
 a232:=Tryz.isAgg269
 z232:=Tryz.sizeOf269
 v232:=Tryz.zeroValue269
 t233:=Tryz.underlying270
 a233:=Tryz.isAgg270
 z233:=Tryz.sizeOf270
 v233:=Tryz.zeroValue270
 g15:=by kernel_rfl
 g16:=by kernel_rfl
 g17:=by kernel_rfl
 g18:=by kernel_rfl
 g19:=by kernel_rfl
 t80:=Tryz.underlying66
 a80:=Tryz.isAgg66
 z80:=Tryz.sizeOf66
 v80:=Tryz.zeroValue66
 i0:=by kernel_rfl
 i2:=by kernel_rfl
 i3:=by kernel_rfl
 i4:=by kernel_rfl
 i5:=by kernel_rfl
 i9:=by kernel_rfl
 i20:=by kernel_rfl
 i21:=by kernel_rfl
 i37:=by kernel_rfl
 i46:=by kernel_rfl
 i51:=by kernel_rfl
 i53:=by kernel_rfl
 i75:=by kernel_rfl
 i80:=by kernel_rfl
 i85:=by kernel_rfl
 i127:=by kernel_rfl
 i143:=by kernel_rfl
 i145:=by kernel_rfl
 i167:=by kernel_rfl
 i168:=by kernel_rfl
 i171:=by kernel_rfl
 i173:=by kernel_rfl
 i175:=by kernel_rfl
 i210:=by kernel_rfl
 i212:=by kernel_rfl
 i232:=by kernel_rfl
 i233:=by kernel_rfl
 m15:=by kernel_rfl
 m16:=by kernel_rfl
 m17:=by kernel_rfl
 m18:=by kernel_rfl
 m19:=by kernel_rfl
 c0:=by kernel_rfl
 c2:=by kernel_rfl
 c3:=by kernel_rfl
 c4:=by kernel_rfl
 c5:=by kernel_rfl
 c9:=by kernel_rfl
 c20:=by kernel_rfl
 c21:=by kernel_rfl
 c37:=by kernel_rfl
 c46:=by kernel_rfl
 c51:=by kernel_rfl
 c53:=by kernel_rfl
 c75:=by kernel_rfl
 c80:=by kernel_rfl
 c85:=by kernel_rfl
 c127:=by kernel_rfl
 c143:=by kernel_rfl
 c145:=by kernel_rfl
 c167:=by kernel_rfl
 c168:=by kernel_rfl
 c171:=by kernel_rfl
 c173:=by kernel_rfl
 c175:=by kernel_rfl
 c210:=by kernel_rfl
 c212:=by kernel_rfl
 c213:=by kernel_rfl
 c232:=by kernel_rfl
 c233:=by kernel_rfl}
open Go.RowKit in
theorem JL (s:ByteArray) (hmax:s.size≤9223372036854775806) (v:Int) (h:Lib.parseIntB 64 s.data.toList= .ok v) (w:World):
  Calls Tryz.prog 244 #[.string s,.int .i64 10,.int .i64 64] w fun e w'=>e= .returned (.tuple #[.int .i64 v,.nilIface])∧(w'=w∨∃t,w'=Lib.bytesWorld w 5 t):=Any.strconv_ParseInt_10_at64_ok Qmj s hmax v h w
open Go.RowKit in
theorem Qa8 (s:ByteArray) (hlim:s.size≤281474976710656) (h:Lib.parseIntB 64 s.data.toList= Go.Lib.NumEnd.syntax) (ev:Value) (w:World) (hv:w.cell? ⟨6,0,none⟩=some ev) (hev:ev= .nilIface∨∃te pe,ev= .iface te pe):
  Calls Tryz.prog 244 #[.string s,.int .i64 10,.int .i64 64] w fun e w'=>∃N,e= .returned (.tuple #[.int .i64 (0),.iface 321 (.pointer (some ⟨N,0,none⟩))])∧w.heap.size≤N∧w'.heap[N]? =some (.cells #[.string ⟨#[80,97,114,115,101,73,110,116]⟩,.string s,ev] 327 (0,0))∧Below w.heap.size w w':=Any.strconv_ParseInt_10_at64_syntax Qmj s hlim h ev w hv hev
open Go.RowKit in
theorem Qbm (s:ByteArray) (hlim:s.size≤281474976710656) (h:Lib.parseIntB 64 s.data.toList= .range) (ev:Value) (w:World) (hv:w.cell? ⟨7,0,none⟩=some ev) (hev:ev= .nilIface∨∃te pe,ev= .iface te pe):
  Calls Tryz.prog 244 #[.string s,.int .i64 10,.int .i64 64] w fun e w'=>∃N,e= .returned (.tuple #[.int .i64 (Lib.intSat 64 s.data.toList),.iface 321 (.pointer (some ⟨N,0,none⟩))])∧w.heap.size≤N∧w'.heap[N]? =some (.cells #[.string ⟨#[80,97,114,115,101,73,110,116]⟩,.string s,ev] 327 (0,0))∧Below w.heap.size w w':=Any.strconv_ParseInt_10_at64_range Qmj s hlim h ev w hv hev
end Go.Proofs.YtggnjjalfnhiiaaGreatDoor.E
/- ParseNum, walked. -/
namespace Go.Proofs.YtggnjjalfnhiiaaGreatDoor.E
open Go Go.RowKit
set_option maxRecDepth 100000
theorem Qty {P:Program} {f:FuncId} {args:List AV} {vs:List Value} {v:Value} {W:World} (h:@acall lam0 P f args ah0 (fun e _=>e= .ret (.val v))) (hv:VRs (kap0 W) args vs):
  Calls P f vs.toArray W fun e w'=>e= .returned v∧Below W.heap.size W w':=by
 letI:Lam:=lam0
 obtain ⟨fn,h1,h2,h3,h4⟩:=h
 refine (h4 (kap0 W) W vs (rel0 W) hv).mono ?_
 rintro e w' ⟨κ',ae,σ',rfl,hs,hE⟩
 have hb:=hs.rel.bel
 rw [hs.ext.B,hs.ext.W] at hb
 cases e with
 |returned v=>cases hE;exact ⟨rfl,hb⟩
 |_=>exact hE.elim
def Qnj (lo hi v:Int):Int:=if inB lo hi v then 0 else 3
theorem Qh5 (n:Int) (w:World):Calls TP QbE #[.int .i64 n] w fun e w'=>e= .returned (.int .i64 (Qnj (-1000000000) 1000000000 n))∧Below w.heap.size w w':=by
 letI:Lam:=lam0
 refine Qty (args:=[iv n]) (vs:=[.int .i64 n]) ?_ (.cons (.val _) (.nil _))
 refine Qdg ?_
 unfold QfY Qnj
 refine UK ?_
 cases c:inB (-1000000000) 1000000000 n<;>simp only [RR]<;>exact Qa rfl
theorem QvY (n : Int) (h0 : -9223372036854775808 ≤ n) (h1 : n ≤ 9223372036854775807) (w : World) (ht : Lib.TabIs Tryz.prog w "internal/strconv.uint64pow10" .u64 Lib.pow10Tab) :
  Calls Tryz.prog 27 #[.int .i64 n] w fun e w'=>e= .returned (.string (itB n))∧Below w.heap.size w w':=by
 go_enter Tryz.func27,Tryz.ntmps27
 go_wp2_with (go_at_call 48;refine (Qfd n h0 h1 _ ht).mono ?_;rintro e w' ⟨rfl,k,os,rfl⟩)
 go_ret
 exact ⟨rfl,Lib.below_grow _ _ (Nat.le_refl _) _ _⟩
structure NumW (w:World):Prop where
 tab : Lib.TabIs Tryz.prog w "internal/strconv.uint64pow10" .u64 Lib.pow10Tab
 e1:∃ev,w.cell? ⟨laysC174_ren.g 15,0,none⟩=some ev∧(ev= .nilIface∨∃te pe,ev= .iface te pe)
 e2:∃ev,w.cell? ⟨laysC174_ren.g 16,0,none⟩=some ev∧(ev= .nilIface∨∃te pe,ev= .iface te pe)
theorem NumW.below {B:Nat} {w w':World} (h:NumW w) (hb:Below B w w') (hB:w.heap.size≤B):NumW w':=by
 obtain ⟨a,⟨v1,b1,c1⟩,⟨v2,b2,c2⟩⟩:=h
 exact ⟨Qji a hb hB,⟨v1,Qcf b1 hb hB,c1⟩,⟨v2,Qcf b2 hb hB,c2⟩⟩
theorem Qj8 {w w1:World} {t:TypeId} {x y:Value} (hb:Below (w.alloc (.cells #[x,y] t)).heap.size (w.alloc (.cells #[x,y] t)) w1):
  w1.heap[w.heap.size]? =some (.cells #[x,y] t):=by
 rw [hb.block _ (by show w.heap.size<(w.heap.push _).size;rw [Array.size_push];omega)]
 exact heap_alloc_new w _
theorem Qhs {w1:World} {b:Nat} {t:TypeId} {x y p q:Value} (h:w1.heap[b]? =some (.cells #[x,y] t)):
  ((w1.setCell ⟨b,0,none⟩ p).setCell ⟨b,1,none⟩ q).heap[b]? =some (.cells #[p,q] t):=by
 unfold World.setCell
 simp only [Array.getElem?_modify,h,if_true,Option.map_some]
 rfl
theorem Qdj {w w1 w2:World} {t:TypeId} {x y:Value} (h1:Below (w.alloc (.cells #[x,y] t)).heap.size (w.alloc (.cells #[x,y] t)) w1) (h2:Below w1.heap.size w1 w2):
  Below (w.alloc (.cells #[x,y] t)).heap.size (w.alloc (.cells #[x,y] t)) w2∧w2.heap[w.heap.size]? =some (.cells #[x,y] t)∧w2.cell? ⟨w.heap.size,0,none⟩=some x∧w2.cell? ⟨w.heap.size,1,none⟩=some y∧
   w2.frozen? ⟨w.heap.size,0,none⟩=false∧w2.frozen? ⟨w.heap.size,1,none⟩=false:=by
 have hb:=h1.trans (h2.mono h1.size)
 have hr:=Qj8 hb
 exact ⟨hb,hr,by simp [World.cell?,hr],by simp [World.cell?,hr],by simp [World.frozen?,hr],by simp [World.frozen?,hr]⟩
theorem Qk7 (s:ByteArray) (hs:s.size≤281474976710656) (w:World) (hw:NumW w) (h:Lib.parseIntB 64 s.data.toList=Go.Lib.NumEnd.syntax):
  Calls Tryz.prog 221 #[.string s] w fun e w'=>e= .returned (.agg #[.int .i64 5,.int .i64 0])∧Below w.heap.size w w':=by
 obtain ⟨ev,hv,hev⟩:=hw.e1
 have hg:laysC174_ren.g 15<w.heap.size:=World.block_lt_of_cell? (h:=hv)
 go_enter Tryz.func221,Tryz.ntmps221
 go_wp2_with (go_at_call 244;refine (Qa8 s hs h ev _ ?_ hev).mono ?_)
 ·exact Qcf hv (.alloc (.refl w.heap.size w) (Nat.le_refl _) _) (Nat.le_refl _)
 rintro e w1 ⟨N,rfl, -, -,hb⟩
 have hr:=Qj8 hb
 have hc0:w1.cell? ⟨w.heap.size,0,none⟩=some (.int .i64 0):=by simp [World.cell?,hr]
 have hc1:w1.cell? ⟨w.heap.size,1,none⟩=some (.int .i64 0):=by simp [World.cell?,hr]
 have hf0:w1.frozen? ⟨w.heap.size,0,none⟩=false:=by simp [World.frozen?,hr]
 have hf1:w1.frozen? ⟨w.heap.size,1,none⟩=false:=by simp [World.frozen?,hr]
 go_wp2
 (try simp only [Exit.inBlock,Exit.then])
 refine bodyPost_ret (results_cell_row Tryz.results221 _ _ w.heap.size 281 _ (0,0) _ rfl (Qhs hr) Tryz.underlying281 rfl rfl) rfl ?_
 exact ⟨rfl,.setCell (.setCell ((Below.alloc (.refl w.heap.size w) (Nat.le_refl _) _).trans (hb.mono (by simp))) (Nat.le_refl _) _) (Nat.le_refl _) _⟩
theorem Qmk (s:ByteArray) (hs:s.size≤281474976710656) (w:World) (hw:NumW w) (h:Lib.parseIntB 64 s.data.toList= .range):
  Calls Tryz.prog 221 #[.string s] w fun e w'=>e= .returned (.agg #[.int .i64 5,.int .i64 0])∧Below w.heap.size w w':=by
 obtain ⟨ev,hv,hev⟩:=hw.e2
 have hg:laysC174_ren.g 16<w.heap.size:=World.block_lt_of_cell? (h:=hv)
 go_enter Tryz.func221,Tryz.ntmps221
 go_wp2_with (go_at_call 244;refine (Qbm s hs h ev _ ?_ hev).mono ?_)
 ·exact Qcf hv (.alloc (.refl w.heap.size w) (Nat.le_refl _) _) (Nat.le_refl _)
 rintro e w1 ⟨N,rfl, -, -,hb⟩
 have hr:=Qj8 hb
 have hc0:w1.cell? ⟨w.heap.size,0,none⟩=some (.int .i64 0):=by simp [World.cell?,hr]
 have hc1:w1.cell? ⟨w.heap.size,1,none⟩=some (.int .i64 0):=by simp [World.cell?,hr]
 have hf0:w1.frozen? ⟨w.heap.size,0,none⟩=false:=by simp [World.frozen?,hr]
 have hf1:w1.frozen? ⟨w.heap.size,1,none⟩=false:=by simp [World.frozen?,hr]
 go_wp2
 (try simp only [Exit.inBlock,Exit.then])
 refine bodyPost_ret (results_cell_row Tryz.results221 _ _ w.heap.size 281 _ (0,0) _ rfl (Qhs hr) Tryz.underlying281 rfl rfl) rfl ?_
 exact ⟨rfl,.setCell (.setCell ((Below.alloc (.refl w.heap.size w) (Nat.le_refl _) _).trans (hb.mono (by simp))) (Nat.le_refl _) _) (Nat.le_refl _) _⟩
theorem Qor (s:ByteArray) (hs:s.size≤281474976710656) (w:World) (hw:NumW w) (v:Int) (h:Lib.parseIntB 64 s.data.toList= .ok v) (hi:inB (-1000000000) 1000000000 v=false):
  Calls Tryz.prog 221 #[.string s] w fun e w'=>e= .returned (.agg #[.int .i64 5,.int .i64 0])∧Below w.heap.size w w':=by
 have hv:=Lib.parseIntB_bounds h
 have cN:∀w,Calls Tryz.prog 206 #[.int .i64 v] w fun e w'=>e= .returned (.int .i64 3)∧Below w.heap.size w w':=fun w=>by
  have:=Qh5 v w
  unfold Qnj at this
  rw [hi] at this
  exact this
 go_enter Tryz.func221,Tryz.ntmps221
 go_wp2_with (go_at_call 244;refine (JL s (by omega) v h _).mono ?_;rintro e w1 ⟨rfl,hW⟩)
 have hb1:Below (w.alloc (.cells #[.int .i64 0,.int .i64 0] 281)).heap.size (w.alloc (.cells #[.int .i64 0,.int .i64 0] 281)) w1:=by
  rcases hW with rfl|⟨t,rfl⟩
  ·exact Below.refl _ _
  ·exact Lib.bytesWorld_below _ _ _
 clear hW
 go_wp2_with (go_at_call 206;refine (cN _).mono ?_;rintro e w2 ⟨rfl,hb2⟩;obtain ⟨hb2,hr,hc0,hc1,hf0,hf1⟩:=Qdj hb1 hb2)
 go_wp2
 (try simp only [Exit.inBlock,Exit.then])
 refine bodyPost_ret (results_cell_row Tryz.results221 _ _ w.heap.size 281 _ (0,0) _ rfl (Qhs hr) Tryz.underlying281 rfl rfl) rfl ?_
 exact ⟨rfl,.setCell (.setCell ((Below.alloc (.refl w.heap.size w) (Nat.le_refl _) _).trans (hb2.mono (by simp))) (Nat.le_refl _) _) (Nat.le_refl _) _⟩
theorem Qos (s:ByteArray) (hs:s.size≤281474976710656) (w:World) (hw:NumW w) (v:Int) (h:Lib.parseIntB 64 s.data.toList= .ok v) (hi:inB (-1000000000) 1000000000 v=true) (hd:¬itB v=s):
  Calls Tryz.prog 221 #[.string s] w fun e w'=>e= .returned (.agg #[.int .i64 5,.int .i64 0])∧Below w.heap.size w w':=by
 have hv:=Lib.parseIntB_bounds h
 have cN:∀w,Calls Tryz.prog 206 #[.int .i64 v] w fun e w'=>e= .returned (.int .i64 0)∧Below w.heap.size w w':=fun w=>by
  have:=Qh5 v w
  unfold Qnj at this
  rw [hi] at this
  exact this
 have hl:((itB v).toList==s.toList)=false:=by rw [@QdY lam0];simp [hd]
 go_enter Tryz.func221,Tryz.ntmps221
 go_wp2_with (go_at_call 244;refine (JL s (by omega) v h _).mono ?_;rintro e w1 ⟨rfl,hW⟩)
 have hb1:Below (w.alloc (.cells #[.int .i64 0,.int .i64 0] 281)).heap.size (w.alloc (.cells #[.int .i64 0,.int .i64 0] 281)) w1:=by
  rcases hW with rfl|⟨t,rfl⟩
  ·exact Below.refl _ _
  ·exact Lib.bytesWorld_below _ _ _
 clear hW
 go_wp2_with (go_at_call 206;refine (cN _).mono ?_;rintro e w2 ⟨rfl,hb2⟩;obtain ⟨hb2,hr,hc0,hc1,hf0,hf1⟩:=Qdj hb1 hb2)
 have ht : Lib.TabIs Tryz.prog w2 "internal/strconv.uint64pow10" .u64 Lib.pow10Tab := Qji hw.tab ((Below.alloc (.refl w.heap.size w) (Nat.le_refl _) _).trans (hb2.mono (by simp))) (Nat.le_refl _)
 have i1:=(@Us lam0 _ _ _).1 hi
 go_wp2_with (go_at_call 27;refine (QvY v (by omega) (by omega) w2 ht).mono ?_;rintro e w3 ⟨rfl,hb3⟩;obtain ⟨hb3,hr,hc0,hc1,hf0,hf1⟩:=Qdj hb2 hb3)
 go_wp2
 all_goals first
  |(exfalso;simp_all;done)
  |skip
 (try simp only [Exit.inBlock,Exit.then])
 refine bodyPost_ret (results_cell_row Tryz.results221 _ _ w.heap.size 281 _ (0,0) _ rfl (Qhs hr) Tryz.underlying281 rfl rfl) rfl ?_
 exact ⟨rfl,.setCell (.setCell ((Below.alloc (.refl w.heap.size w) (Nat.le_refl _) _).trans (hb3.mono (by simp))) (Nat.le_refl _) _) (Nat.le_refl _) _⟩
theorem Qnk (s:ByteArray) (hs:s.size≤281474976710656) (w:World) (hw:NumW w) (v:Int) (h:Lib.parseIntB 64 s.data.toList= .ok v) (hi:inB (-1000000000) 1000000000 v=true) (hd:itB v=s):
  Calls Tryz.prog 221 #[.string s] w fun e w'=>e= .returned (.agg #[.int .i64 0,.int .i64 v])∧Below w.heap.size w w':=by
 have hv:=Lib.parseIntB_bounds h
 have cN:∀w,Calls Tryz.prog 206 #[.int .i64 v] w fun e w'=>e= .returned (.int .i64 0)∧Below w.heap.size w w':=fun w=>by
  have:=Qh5 v w
  unfold Qnj at this
  rw [hi] at this
  exact this
 have hl:((itB v).toList==s.toList)=true:=by rw [@QdY lam0];simp [hd]
 go_enter Tryz.func221,Tryz.ntmps221
 go_wp2_with (go_at_call 244;refine (JL s (by omega) v h _).mono ?_;rintro e w1 ⟨rfl,hW⟩)
 have hb1:Below (w.alloc (.cells #[.int .i64 0,.int .i64 0] 281)).heap.size (w.alloc (.cells #[.int .i64 0,.int .i64 0] 281)) w1:=by
  rcases hW with rfl|⟨t,rfl⟩
  ·exact Below.refl _ _
  ·exact Lib.bytesWorld_below _ _ _
 clear hW
 go_wp2_with (go_at_call 206;refine (cN _).mono ?_;rintro e w2 ⟨rfl,hb2⟩;obtain ⟨hb2,hr,hc0,hc1,hf0,hf1⟩:=Qdj hb1 hb2)
 have ht : Lib.TabIs Tryz.prog w2 "internal/strconv.uint64pow10" .u64 Lib.pow10Tab := Qji hw.tab ((Below.alloc (.refl w.heap.size w) (Nat.le_refl _) _).trans (hb2.mono (by simp))) (Nat.le_refl _)
 have i1:=(@Us lam0 _ _ _).1 hi
 go_wp2_with (go_at_call 27;refine (QvY v (by omega) (by omega) w2 ht).mono ?_;rintro e w3 ⟨rfl,hb3⟩;obtain ⟨hb3,hr,hc0,hc1,hf0,hf1⟩:=Qdj hb2 hb3)
 go_wp2
 all_goals first
  |(exfalso;simp_all;done)
  |skip
 (try simp only [Exit.inBlock,Exit.then])
 refine bodyPost_ret (results_cell_row Tryz.results221 _ _ w.heap.size 281 _ (0,0) _ rfl (Qhs hr) Tryz.underlying281 rfl rfl) rfl ?_
 exact ⟨rfl,.setCell (.setCell ((Below.alloc (.refl w.heap.size w) (Nat.le_refl _) _).trans (hb3.mono (by simp))) (Nat.le_refl _) _) (Nat.le_refl _) _⟩
theorem Qsv (s:ByteArray) (hs:s.size≤281474976710656) (w:World) (hw:NumW w):
  Calls Tryz.prog 221 #[.string s] w fun e w'=>e= .returned (.agg #[.int .i64 (numP s).2,.int .i64 (numP s).1])∧Below w.heap.size w w':=by
 unfold numP
 cases h:Lib.parseIntB 64 s.data.toList with
 |range=>exact Qmk s hs w hw h
 |ok v=>
  cases hi:inB (-1000000000) 1000000000 v with
  |false=>
   have:=Qor s hs w hw v h hi
   simpa [hi] using this
  |true=>
   by_cases hd:itB v=s
   ·have:=Qnk s hs w hw v h hi hd
    simpa [hi,hd] using this
   ·have:=Qos s hs w hw v h hi hd
    simpa [hi,hd] using this
 |_=>exact Qk7 s hs w hw h
end Go.Proofs.YtggnjjalfnhiiaaGreatDoor.E
/- The library's contracts at this program. -/
namespace Go.Proofs.YtggnjjalfnhiiaaGreatDoor.E
open Go Go.Proofs
open Go.Shelf
def Qra:Go.Shelf.Ren:=⟨fun|137=>183|217=>218|266=>240|n=>n,fun|9=>9|5=>5|3=>3|n=>n,fun|n=>n⟩
theorem Qx3:Go.Proofs.Lays.n137 Tryz.prog Qra:={
 mixed:=by kernel_rfl
 f137:=Tryz.func183.trans (congrArg some (by kernel_rfl))
 f217:=Tryz.func218.trans (congrArg some (by kernel_rfl))
 f266:=Tryz.func240.trans (congrArg some (by kernel_rfl))
 t3:=Tryz.underlying3
 a3:=Tryz.isAgg3
 z3:=Tryz.sizeOf3
 v3:=Tryz.zeroValue3
 t5:=Tryz.underlying5
 a5:=Tryz.isAgg5
 z5:=Tryz.sizeOf5
 v5:=Tryz.zeroValue5
 t9:=Tryz.underlying9
 a9:=Tryz.isAgg9
 z9:=Tryz.sizeOf9
 v9:=Tryz.zeroValue9}
open Go.RowKit in
theorem Qh6 (s:ByteArray) (c:Int) (w:World):
  Calls Tryz.prog 183 #[.string s,.int .u8 c] w fun e w'=>e= .returned (.int .i64 (Lib.indexByte s.data.toList c.toNat.toUInt8))∧w'=w:=Any.strings_IndexByte Qx3 s c w
def Qrb:Go.Shelf.Ren:=⟨fun|145=>182|220=>217|219=>239|217=>218|225=>243|224=>242|267=>251|266=>240|314=>255|n=>n,fun|9=>9|4=>4|59=>243|3=>3|5=>5|46=>184|146=>316|51=>181|n=>n,fun|1=>1|n=>n⟩
theorem Qx4:Go.Proofs.Lays.n145 Tryz.prog Qrb:={
 mixed:=by kernel_rfl
 f145:=Tryz.func182.trans (congrArg some (by kernel_rfl))
 f217:=Tryz.func218.trans (congrArg some (by kernel_rfl))
 f219:=Tryz.func239.trans (congrArg some (by kernel_rfl))
 f220:=Tryz.func217.trans (congrArg some (by kernel_rfl))
 f224:=Tryz.func242.trans (congrArg some (by kernel_rfl))
 f225:=Tryz.func243.trans (congrArg some (by kernel_rfl))
 f266:=Tryz.func240.trans (congrArg some (by kernel_rfl))
 f267:=Tryz.func251.trans (congrArg some (by kernel_rfl))
 f314:=Tryz.func255.trans (congrArg some (by kernel_rfl))
 t3:=Tryz.underlying3
 a3:=Tryz.isAgg3
 z3:=Tryz.sizeOf3
 v3:=Tryz.zeroValue3
 t4:=Tryz.underlying4
 a4:=Tryz.isAgg4
 z4:=Tryz.sizeOf4
 v4:=Tryz.zeroValue4
 t5:=Tryz.underlying5
 a5:=Tryz.isAgg5
 z5:=Tryz.sizeOf5
 v5:=Tryz.zeroValue5
 t9:=Tryz.underlying9
 a9:=Tryz.isAgg9
 z9:=Tryz.sizeOf9
 v9:=Tryz.zeroValue9
 t46:=Tryz.underlying184
 a46:=Tryz.isAgg184
 z46:=Tryz.sizeOf184
 v46:=Tryz.zeroValue184
 t51:=Tryz.underlying181
 a51:=Tryz.isAgg181
 z51:=Tryz.sizeOf181
 v51:=Tryz.zeroValue181
 t59:=Tryz.underlying243
 a59:=Tryz.isAgg243
 z59:=Tryz.sizeOf243
 v59:=Tryz.zeroValue243
 t146:=Tryz.underlying316
 a146:=Tryz.isAgg316
 z146:=Tryz.sizeOf316
 v146:=Tryz.zeroValue316
 g1:=by kernel_rfl}
open Go.RowKit Go.Lib in
theorem Qot (s sep:ByteArray) (m:Int) (w:World) (hs:s.size<4294967281) (hm:w.cell? ⟨1,0,none⟩=some (.int .i64 m)):
  Calls Tryz.prog 182 #[.string s,.string sep] w fun e w'=>e= .returned (.tuple #[.string ⟨(Lib.cut s.data.toList sep.data.toList).1.toArray⟩,.string ⟨(Lib.cut s.data.toList sep.data.toList).2.1.toArray⟩,.bool (Lib.cut s.data.toList sep.data.toList).2.2])∧∃n,w'=w.drewN n:=Any.strings_Cut Qx4 s sep m w hs hm
def Qrc:Go.Shelf.Ren:=⟨fun|153=>184|152=>219|226=>220|227=>163|228=>202|137=>183|119=>241|224=>242|225=>243|217=>218|266=>240|n=>n,fun|9=>9|3=>3|4=>4|5=>5|21=>21|117=>221|116=>220|0=>0|46=>184|124=>224|n=>n,fun|n=>n⟩
theorem QrC:Go.Proofs.Lays.n153 Tryz.prog Qrc:={
 mixed:=by kernel_rfl
 f119:=Tryz.func241.trans (congrArg some (by kernel_rfl))
 f137:=Tryz.func183.trans (congrArg some (by kernel_rfl))
 f152:=Tryz.func219.trans (congrArg some (by kernel_rfl))
 f153:=Tryz.func184.trans (congrArg some (by kernel_rfl))
 f217:=Tryz.func218.trans (congrArg some (by kernel_rfl))
 f224:=Tryz.func242.trans (congrArg some (by kernel_rfl))
 f225:=Tryz.func243.trans (congrArg some (by kernel_rfl))
 f226:=Tryz.func220.trans (congrArg some (by kernel_rfl))
 f227:=Tryz.func163.trans (congrArg some (by kernel_rfl))
 f228:=Tryz.func202.trans (congrArg some (by kernel_rfl))
 f266:=Tryz.func240.trans (congrArg some (by kernel_rfl))
 t0:=Tryz.underlying0
 a0:=Tryz.isAgg0
 z0:=Tryz.sizeOf0
 v0:=Tryz.zeroValue0
 t3:=Tryz.underlying3
 a3:=Tryz.isAgg3
 z3:=Tryz.sizeOf3
 v3:=Tryz.zeroValue3
 t4:=Tryz.underlying4
 a4:=Tryz.isAgg4
 z4:=Tryz.sizeOf4
 v4:=Tryz.zeroValue4
 t5:=Tryz.underlying5
 a5:=Tryz.isAgg5
 z5:=Tryz.sizeOf5
 v5:=Tryz.zeroValue5
 t9:=Tryz.underlying9
 a9:=Tryz.isAgg9
 z9:=Tryz.sizeOf9
 v9:=Tryz.zeroValue9
 t21:=Tryz.underlying21
 a21:=Tryz.isAgg21
 z21:=Tryz.sizeOf21
 v21:=Tryz.zeroValue21
 t46:=Tryz.underlying184
 a46:=Tryz.isAgg184
 z46:=Tryz.sizeOf184
 v46:=Tryz.zeroValue184
 t116:=Tryz.underlying220
 a116:=Tryz.isAgg220
 z116:=Tryz.sizeOf220
 t117:=Tryz.underlying221
 a117:=Tryz.isAgg221
 z117:=Tryz.sizeOf221
 v117:=Tryz.zeroValue221
 t124:=Tryz.underlying224
 a124:=Tryz.isAgg224
 z124:=Tryz.sizeOf224
 v124:=Tryz.zeroValue224}
open Go.RowKit Go.Lib in
theorem Qe1 (hv116:∀w,(zeroValue 220).run Tryz.prog w= .ok (.agg (Array.replicate 256 (.bool false))) w) (s chars:ByteArray) (w:World) (h2:2≤chars.size) (h8:8<s.size) (hs:s.size<4294967281) (hcs:chars.size<4294967281) (hascii:∀(j:Nat) b,chars.data.toList[j]? =some b→b.toNat<128):
  Calls Tryz.prog 184 #[.string s,.string chars] w fun e w'=>e= .returned (.int .i64 (Lib.indexAny s.data.toList chars.data.toList))∧w'=((w.alloc (.cells (Lib.setCells chars.data.toList) 220)).alloc (.cells (Lib.setCells chars.data.toList) 220)):=Any.strings_IndexAny_long QrC hv116 (by kernel_rfl) s chars w h2 h8 hs hcs hascii
end Go.Proofs.YtggnjjalfnhiiaaGreatDoor.E
/- strings.IndexRune at a rune that is none of ASCII, in a text that is. -/
namespace Go.Proofs.YtggnjjalfnhiiaaGreatDoor.E
open Go Go.Proofs Go.Shelf Go.RowKit Go.Lib
variable {P:Program} {ρ:Ren}
theorem Qnl (w:World) (s:ByteArray) (i:Nat):Below w.heap.size w (w.iter s i):=by
 refine ⟨rfl,rfl,rfl,?_,fun b hb=>?_⟩
 ·show w.heap.size≤(w.heap.push _).size
  rw [Array.size_push];omega
 ·show (w.heap.push _)[b]? =w.heap[b]?
  rw [Array.getElem?_push]
  split
  ·omega
  ·rfl
set_option maxHeartbeats 8000000 in
set_option maxRecDepth 1000000 in
theorem Qu5 (L:Lays.n152 P ρ) (s:ByteArray) (w:World) (hascii:∀(j:Nat) b,s.data.toList[j]? =some b→b.toNat<128):
  Calls P (ρ.f 152) #[.string s,.int .i32 65533] w fun e w'=>e= .returned (.int .i64 (-1))∧Below w.heap.size w w':=by
 have HA:Aside (∀(j:Nat) b,s.data.toList[j]? =some b→b.toNat<128):=hascii
 clear hascii
 have t3:=L.t3;have a3:=L.a3;have z3:=L.z3;have v3:=L.v3
 have t4:=L.t4;have a4:=L.a4;have z4:=L.z4;have v4:=L.v4
 have t5:=L.t5;have a5:=L.a5;have z5:=L.z5;have v5:=L.v5
 have t9:=L.t9;have a9:=L.a9;have z9:=L.z9;have v9:=L.v9
 have t21:=L.t21;have a21:=L.a21;have z21:=L.z21;have v21:=L.v21
 go_enter L.f152,Body.n152_ntmps ρ
 go_wp2
 go_loopg [5,6] s.size (fun g _ _ wx=>∃i:Nat,i+g=s.size∧wx=w.iter s i)
 case atStart=>exact ⟨0,by omega,rfl⟩
 case round=>
  obtain ⟨i,hig,rfl⟩:=hrel
  cases gk with
  |zero=>
   obtain rfl:i=s.size:=by omega
   have hnx:=run_next_end (P:=P) w s s.size
   go_wp2
   go_ret
   exact ⟨rfl,Qnl _ _ _⟩
  |succ g=>
   have hi:i<s.size:=by omega
   obtain ⟨x,hx⟩:∃x:UInt8,s[i]'hi=x:=⟨_,rfl⟩
   have hxl:s.data.toList[i]? =some x:=by rw [←hx];exact Lib.data_getElem? s i hi
   have hx128:x.toNat<128:=HA.out i x hxl
   have hnx:=fun ty=>run_next_ascii (P:=P) w s i ty hi (by rw [hx];exact hx128)
   rw [hx] at hnx
   clear hxl hx
   have hne:((x.toNat:Int)==65533)=false:=beq_eq_false_iff_ne.2 (by omega)
   go_wp2
   go_roundg g
   case measure=>omega
   case rel=>exact ⟨i+1,by omega,rfl⟩
set_option maxHeartbeats 8000000 in
set_option maxRecDepth 1000000 in
theorem Qu6 (L:Lays.n152 P ρ) (s:ByteArray) (r:Int) (w:World) (h1:128≤r) (h2:(r==65533)=false) (h3:Lib.validRune r=false):
  Calls P (ρ.f 152) #[.string s,.int .i32 r] w fun e w'=>e= .returned (.int .i64 (-1))∧Below w.heap.size w w':=by
 have t3:=L.t3;have a3:=L.a3;have z3:=L.z3;have v3:=L.v3
 have t4:=L.t4;have a4:=L.a4;have z4:=L.z4;have v4:=L.v4
 have t5:=L.t5;have a5:=L.a5;have z5:=L.z5;have v5:=L.v5
 have t9:=L.t9;have a9:=L.a9;have z9:=L.z9;have v9:=L.v9
 have t21:=L.t21;have a21:=L.a21;have z21:=L.z21;have v21:=L.v21
 have e119:∀args w,(callFunc (ρ.f 119) args).run P w= .ok (.enter (ρ.f 119) args) w:=enters_of L.f119 (by kernel_rfl) rfl
 have hlt:decide (r<128)=false:=decide_eq_false (by omega)
 go_enter L.f152,Body.n152_ntmps ρ
 go_wp2_with (go_at_fn (ρ.f 119);refine (Any.utf8_ValidRune {L with} _ _).mono ?_;rintro e w' ⟨rfl,hw⟩;rw [hw,h3])
 go_ret
 exact ⟨rfl,.refl _ _⟩
theorem Qu7 {r:Int} (h1:128≤r):∃(n:Nat) (y:UInt8),(Utf8.encode r).size=n+2∧n≤2∧(Utf8.encode r).data.toList[n+1]? =some y∧128≤y.toNat:=by
 have key:∀c:Nat,128≤(UInt8.ofNat (128+c % 64)).toNat:=fun c=>by rw [UInt8.toNat_ofNat'];omega
 unfold Utf8.encode
 simp only
 generalize hc:(if Utf8.valid r=true then r.toNat else Utf8.runeError)=c
 have h0:¬c<128:=by
  rw [←hc];split
  ·omega
  ·decide
 rw [if_neg h0]
 split
 ·exact ⟨0,_,rfl,by omega,rfl,key c⟩
 split
 ·exact ⟨1,_,rfl,by omega,rfl,key c⟩
 ·exact ⟨2,_,rfl,by omega,rfl,key c⟩
theorem Qqr {c:UInt8}:∀l:List UInt8,(∀x,x∈l→x≠c)→Lib.indexByte l c= -1:=by
 intro l
 induction l with
 |nil=>intro _;rfl
 |cons x r ih=>
  intro h
  have h1:=ih fun y hy=>h y (List.mem_cons_of_mem _ hy)
  have h2:(x==c)=false:=beq_eq_false_iff_ne.2 (h x (.head _))
  unfold Lib.indexByte
  simp [h2,h1]
set_option maxHeartbeats 8000000 in
set_option maxRecDepth 1000000 in
theorem Qu8 (L:Lays.n152 P ρ) (s:ByteArray) (r:Int) (w:World) (hsz:4≤s.size) (hmax:s.size≤1000) (hascii:∀(j:Nat) b,s.data.toList[j]? =some b→b.toNat<128) (h1:128≤r) (h2:(r==65533)=false) (h3:Lib.validRune r=true):
  Calls P (ρ.f 152) #[.string s,.int .i32 r] w fun e w'=>e= .returned (.int .i64 (-1))∧Below w.heap.size w w':=by
 have HA:Aside (∀(j:Nat) b,s.data.toList[j]? =some b→b.toNat<128):=hascii
 clear hascii
 obtain ⟨n,y,en,hn,ey,hy⟩:=Qu7 h1
 generalize hrs:Utf8.encode r=rs at en ey
 have t3:=L.t3;have a3:=L.a3;have z3:=L.z3;have v3:=L.v3
 have t4:=L.t4;have a4:=L.a4;have z4:=L.z4;have v4:=L.v4
 have t5:=L.t5;have a5:=L.a5;have z5:=L.z5;have v5:=L.v5
 have t9:=L.t9;have a9:=L.a9;have z9:=L.z9;have v9:=L.v9
 have t21:=L.t21;have a21:=L.a21;have z21:=L.z21;have v21:=L.v21
 have e119:∀args w,(callFunc (ρ.f 119) args).run P w= .ok (.enter (ρ.f 119) args) w:=enters_of L.f119 (by kernel_rfl) rfl
 have e137:∀args w,(callFunc (ρ.f 137) args).run P w= .ok (.enter (ρ.f 137) args) w:=enters_of L.f137 (by kernel_rfl) rfl
 have hlt:decide (r<128)=false:=decide_eq_false (by omega)
 go_enter L.f152,Body.n152_ntmps ρ
 go_wp2_with (go_at_fn (ρ.f 119);refine (Any.utf8_ValidRune {L with} _ _).mono ?_;rintro e w' ⟨rfl,hw⟩;rw [hw,h3])
 subst hw
 have cv:∀w,(convert (ρ.t 21) (ρ.t 9) (.int .i32 r)).run P w= .ok (.string rs) w:=fun w=>by rw [←hrs];exact run_convert_int_string w _ _ _ _ (by rw [t21];rfl) t9
 refine wp_scope_straight ?_
 go_wp2
 have e1:((n:Int)+2 - 1)=((n+1:Nat):Int):=by omega
 simp only [e1]
 have hi:n+1<s.size:=by omega
 obtain ⟨x,hx⟩:∃x:UInt8,s[n+1]'hi=x:=⟨_,rfl⟩
 have hxl:s.data.toList[n+1]? =some x:=by rw [←hx];exact Lib.data_getElem? s (n+1) hi
 have hx128:x.toNat<128:=HA.out (n+1) x hxl
 have hir:n+1<rs.size:=by omega
 have hyr:rs[n+1]'hir=y:=by
  have:=Lib.data_getElem? rs (n+1) hir
  rw [ey] at this
  exact (Option.some.inj this).symm
 have hlt2:decide (((n+1:Nat):Int)<(s.size:Int))=true:=decide_eq_true (by omega)
 have hne:((x.toNat:Int)==(y.toNat:Int))=false:=beq_eq_false_iff_ne.2 (by omega)
 have hback:((y.toNat:Int)).toNat.toUInt8=y:=by simp
 have hib:∀a b,Lib.indexByte (s.extract a b).data.toList ((y.toNat:Int)).toNat.toUInt8= -1:=fun a b=>by
  rw [hback]
  refine Qqr _ fun z hz=>?_
  rw [ByteArray.data_extract,Array.toList_extract,List.extract_eq_take_drop] at hz
  obtain ⟨k,hk⟩:=List.getElem?_of_mem (List.mem_of_mem_drop (List.mem_of_mem_take hz))
  have:=HA.out k z hk
  rintro rfl
  omega
 refine wp_loop_rounds 1 ?_
 rw [rounds_succ]
 go_wp2
 refine wp_scope_straight ?_
 go_wp2
 have r1:∀w,(Instr.index (ρ.t 9) (.string s) (.int .i64 ((n+1:Nat):Int))).run P w= .ok (.int .u8 (x.toNat:Int)) w:=fun w=>by
  rw [run_index_string _ _ _ _ _ t9,dif_pos (by omega)]
  have:((n+1:Nat):Int).toNat=n+1:=by omega
  simp only [this,hx]
 have r2:∀w,(Instr.index (ρ.t 9) (.string rs) (.int .i64 ((n+1:Nat):Int))).run P w= .ok (.int .u8 (y.toNat:Int)) w:=fun w=>by
  rw [run_index_string _ _ _ _ _ t9,dif_pos (by omega)]
  have:((n+1:Nat):Int).toNat=n+1:=by omega
  simp only [this,hyr]
 have r3:∀w,(Instr.slice (ρ.t 9) (.string s) (some (.int .i64 (((n+1:Nat):Int)+1))) none none).run P w= .ok (.string (s.extract (n+2) s.size)) w:=fun w=>by
  rw [run_slice_string_l _ _ _ t9 _ _ (by omega) (by omega)]
  have:(((n+1:Nat):Int)+1).toNat=n+2:=by omega
  rw [this]
 have r3':∀w,(Instr.slice (ρ.t 9) (.string s) (some (.int .i64 ((n:Int)+1+1))) none none).run P w= .ok (.string (s.extract (n+2) s.size)) w:=fun w=>by
  have:=r3 w
  rwa [show (((n+1:Nat):Int)+1)=(n:Int)+1+1 by omega] at this
 have hw1:IntKind.i64.wrap ((n:Int)+1+1)=(n:Int)+1+1:=by
  rcases (by omega:n=0∨n=1∨n=2) with h|h|h<;>rw [h]<;>decide
 have hw2:IntKind.i64.wrap (((n+1:Nat):Int)+1)=((n+1:Nat):Int)+1:=by
  rcases (by omega:n=0∨n=1∨n=2) with h|h|h<;>rw [h]<;>decide
 have hz1:(0:Int)≤((n+1:Nat):Int)+1:=by omega
 have hz2:((n+1:Nat):Int)+1≤(s.size:Int):=by omega
 have mixed:=L.mixed
 go_region_o
 go_wp2
 go_region_with_o (refine (Any.strings_IndexByte {L with} _ _ _).mono ?_;rintro e w'' ⟨rfl,hw2⟩;rw [hw2,hib])
 go_wp2
 simp only [Exit.inBlock,Exit.then,Exit.noGoto]
 go_ret
 exact ⟨rfl,.drew (.drew (.refl _ _))⟩
theorem Qu9 (L:Lays.n152 P ρ) (s:ByteArray) (r:Int) (w:World) (hsz:4≤s.size) (hmax:s.size≤1000) (hascii:∀(j:Nat) b,s.data.toList[j]? =some b→b.toNat<128) (h1:128≤r):
  Calls P (ρ.f 152) #[.string s,.int .i32 r] w fun e w'=>e= .returned (.int .i64 (-1))∧Below w.heap.size w w':=by
 by_cases h:r=65533
 ·subst h;exact Qu5 L s w hascii
 ·have h2:(r==65533)=false:=beq_eq_false_iff_ne.2 h
  cases h3:Lib.validRune r with
  |true=>exact Qu8 L s r w hsz hmax hascii h1 h2 h3
  |false=>exact Qu6 L s r w h1 h2 h3
end Go.Proofs.YtggnjjalfnhiiaaGreatDoor.E
/- strings.IndexAny: ASCII bytes in any text. -/
namespace Go.Proofs.YtggnjjalfnhiiaaGreatDoor.E
open Go Go.Proofs Go.Shelf Go.RowKit Go.Lib
variable {P:Program} {ρ:Ren}
theorem get!_eq {s:ByteArray} {i:Nat} (h:i<s.size):s.get! i=s[i]:=by
 show s.data[i]! =_
 rw [getElem!_pos s.data i h];rfl
theorem Qsw {s:ByteArray} {i:Nat} (hi:i<s.size) (h:128≤(s[i]'hi).toNat):128≤(Utf8.decode s i).1∧1≤(Utf8.decode s i).2∧i+(Utf8.decode s i).2≤s.size∧∀j,i≤j→j<i+(Utf8.decode s i).2→∀hj:j<s.size,128≤(s[j]'hj).toNat:=by
 have c1:∀k,(decide (i+k<s.size)&&(s.get! (i+k)).toNat / 64==2)=true→i+k<s.size∧128≤(s.get! (i+k)).toNat:=fun k hk=>by
  simp only [Bool.and_eq_true,decide_eq_true_iff,beq_iff_eq] at hk
  exact ⟨hk.1,by omega⟩
 have base:∀d,(∀k,k<d→i+k<s.size∧128≤(s.get! (i+k)).toNat)→∀j,i≤j→j<i+d→∀hj:j<s.size,128≤(s[j]'hj).toNat:=fun d hd j h1 h2 hj=>by
  have:=(hd (j - i) (by omega)).2
  rw [show i+(j - i)=j by omega,get!_eq hj] at this
  exact this
 have h0:i+0<s.size∧128≤(s.get! (i+0)).toNat:=⟨hi,by rw [Nat.add_zero,get!_eq hi];exact h⟩
 have one:∀k,k<1→i+k<s.size∧128≤(s.get! (i+k)).toNat:=fun k hk=>by
  have e:k=0:=by omega
  rw [e];exact h0
 have er:128≤Utf8.runeError∧1≤1∧i+1≤s.size∧∀j,i≤j→j<i+1→∀hj:j<s.size,128≤(s[j]'hj).toNat:=⟨by decide,by omega,by omega,base 1 one⟩
 unfold Utf8.decode
 simp only
 rw [if_neg (by have:=h0.2;omega)]
 split
 ·rename_i k1
  rw [Bool.and_eq_true] at k1
  have a1:=c1 1 k1.2
  split
  ·rename_i g
   refine ⟨g,by omega,by omega,base 2 fun k hk=>?_⟩
   match k,hk with
   |0,_=>exact h0
   |1,_=>exact a1
  ·exact er
 split
 ·rename_i k1
  rw [Bool.and_eq_true,Bool.and_eq_true] at k1
  have a1:=c1 1 k1.1.2
  have a2:=c1 2 k1.2
  split
  ·rename_i g
   rw [Bool.and_eq_true,decide_eq_true_iff] at g
   refine ⟨by have:=g.1;dsimp only;omega,by omega,by omega,base 3 fun k hk=>?_⟩
   match k,hk with
   |0,_=>exact h0
   |1,_=>exact a1
   |2,_=>exact a2
  ·exact er
 split
 ·rename_i k1
  rw [Bool.and_eq_true,Bool.and_eq_true,Bool.and_eq_true] at k1
  have a1:=c1 1 k1.1.1.2
  have a2:=c1 2 k1.1.2
  have a3:=c1 3 k1.2
  split
  ·rename_i g
   rw [Bool.and_eq_true,decide_eq_true_iff] at g
   refine ⟨by have:=g.1;dsimp only;omega,by omega,by omega,base 4 fun k hk=>?_⟩
   match k,hk with
   |0,_=>exact h0
   |1,_=>exact a1
   |2,_=>exact a2
   |3,_=>exact a3
  ·exact er
 ·exact er
theorem Qx5 (w:World) (s:ByteArray) (i:Nat):(w.iter s i).heap[w.heap.size]? =some (.stringIter s i):=by
 show (w.heap.push _)[w.heap.size]? =_
 rw [Array.getElem?_push,if_pos rfl]
theorem Qsx {s chars:ByteArray} {i d:Nat} (hno:Lib.NoAny s.data.toList chars.data.toList i) (hc:∀(j:Nat) b,chars.data.toList[j]? =some b→b.toNat<128) (hd:∀j,i≤j→j<i+d→∀hj:j<s.size,128≤(s[j]'hj).toNat):Lib.NoAny s.data.toList chars.data.toList (i+d):=by
 intro j b hj hb
 by_cases c:j<i
 ·exact hno j b c hb
 ·have hjs:j<s.size:=by
   have:=(List.getElem?_eq_some_iff.1 hb).1
   rw [Lib.size_eq];exact this
  have h1:=hd j (by omega) hj hjs
  have h2:s.data.toList[j]? =some (s[j]'hjs):=Lib.data_getElem? s j hjs
  rw [hb] at h2
  obtain rfl:=Option.some.inj h2
  cases hcon:chars.data.toList.contains (s[j]'hjs) with
  |false=>rfl
  |true=>
   have:=List.contains_iff_mem.1 hcon
   obtain ⟨k,hk⟩:=List.getElem?_of_mem this
   have:=hc k _ hk
   omega
set_option maxHeartbeats 8000000 in
set_option maxRecDepth 1000000 in
theorem Qou (L:Lays.n153 P ρ) (s chars:ByteArray) (w:World) (h2:4≤chars.size) (hcm:chars.size≤1000) (h8:s.size≤8) (hascii:∀(j:Nat) b,chars.data.toList[j]? =some b→b.toNat<128):
  Calls P (ρ.f 153) #[.string s,.string chars] w fun e w'=>e= .returned (.int .i64 (Lib.indexAny s.data.toList chars.data.toList))∧Below w.heap.size w w':=by
 have HA:Aside (∀(j:Nat) b,chars.data.toList[j]? =some b→b.toNat<128):=hascii
 clear hascii
 have hemp:chars.toList.isEmpty=false:=by
  rw [Lib.toList_data]
  cases h:chars.data.toList with
  |nil=>have:=Lib.size_eq chars;rw [h,List.length_nil] at this;omega
  |cons _ _=>rfl
 have hn1:((chars.size:Int)==1)=false:=beq_eq_false_iff_ne.2 (by omega)
 have h8z:decide ((8:Int)<(s.size:Int))=false:=decide_eq_false (by omega)
 have t3:=L.t3;have a3:=L.a3;have z3:=L.z3;have v3:=L.v3
 have t4:=L.t4;have a4:=L.a4;have z4:=L.z4;have v4:=L.v4
 have t5:=L.t5;have a5:=L.a5;have z5:=L.z5;have v5:=L.v5
 have t9:=L.t9;have a9:=L.a9;have z9:=L.z9;have v9:=L.v9
 have t21:=L.t21;have a21:=L.a21;have z21:=L.z21;have v21:=L.v21
 have e152:∀args w,(callFunc (ρ.f 152) args).run P w= .ok (.enter (ρ.f 152) args) w:=enters_of L.f152 (by kernel_rfl) rfl
 have e226:∀args w,(callFunc (ρ.f 226) args).run P w= .ok (.enter (ρ.f 226) args) w:=enters_of L.f226 (by kernel_rfl) rfl
 go_enter L.f153,Body.n153_ntmps ρ
 go_wp2_with (go_at_fn (ρ.f 226);refine (Any.strings_shouldUseASCIISet {L with} _ _).mono ?_;rintro e w' ⟨rfl,hw⟩;rw [hw,h8z])
 go_loopg [9,10] s.size (fun g _ _ wx=>∃i:Nat,i+g=s.size∧wx.heap[w.heap.size]? =some (.stringIter s i)∧Below w.heap.size w wx∧Lib.NoAny s.data.toList chars.data.toList i)
 case atStart=>exact ⟨0,by omega,Qx5 _ _ _,Qnl _ _ _,Lib.NoAny.zero _ _⟩
 case round=>
  obtain ⟨i,hig,hk,hbel,hno⟩:=hrel
  have HN:Aside (Lib.NoAny s.data.toList chars.data.toList i):=hno
  clear hno
  by_cases hi:i<s.size
  ·obtain ⟨x,hx⟩:∃x:UInt8,s[i]'hi=x:=⟨_,rfl⟩
   have hxl:s.data.toList[i]? =some x:=by rw [←hx];exact Lib.data_getElem? s i hi
   by_cases hx128:x.toNat<128
   ·have hnx:=fun ty=>run_next_ascii_at (P:=P) wr w.heap.size s i ty hk hi (by rw [hx];exact hx128)
    rw [hx] at hnx
    have Hx:Aside (s.data.toList[i]? =some x):=hxl
    have hk':=iterAt_heap wr w.heap.size s i (i+1) hk
    have hbel':=below_iterAt hbel (Nat.le_refl _) s (i+1)
    generalize wr.iterAt w.heap.size s (i+1)=wy at hnx hk' hbel'
    clear hxl hx
    have hcon:=Lib.contains_iff_indexByte chars.data.toList x
    have hback:((x.toNat:Int)).toNat.toUInt8=x:=by simp
    cases hin:chars.data.toList.contains x
    ·rw [hin] at hcon
     have hlt:¬((0:Int)≤Lib.indexByte chars.data.toList x):=of_decide_eq_false hcon.symm
     clear hcon
     go_wp2_with (go_at_fn (ρ.f 152);refine (Any.strings_IndexRune_ascii {L with} _ _ _ (by omega) (by omega)).mono ?_;rintro e w' ⟨rfl,hw⟩;rw [hw,hback])
     go_roundg (s.size - (i+1))
     case measure=>omega
     case rel=>exact ⟨i+1,by omega,hk',hbel',HN.out.succ Hx.out hin⟩
    ·rw [hin] at hcon
     have hge:(0:Int)≤Lib.indexByte chars.data.toList x:=of_decide_eq_true hcon.symm
     clear hcon
     go_wp2_with (go_at_fn (ρ.f 152);refine (Any.strings_IndexRune_ascii {L with} _ _ _ (by omega) (by omega)).mono ?_;rintro e w' ⟨rfl,hw⟩;rw [hw,hback])
     go_ret
     exact ⟨by rw [Lib.indexAny_hit HN.out Hx.out hin];rfl,hbel'⟩
   ·have hD:=Qsw hi (by rw [hx];omega)
    have hnx:=fun ty=>run_next_any_at (P:=P) wr w.heap.size s i ty hk hi
    generalize Utf8.decode s i=D at hD hnx
    obtain ⟨r,d⟩:=D
    obtain ⟨d1,d2,d3,d4⟩:=hD
    dsimp only at d1 d2 d3 d4 hnx
    have hk':=iterAt_heap wr w.heap.size s i (i+d) hk
    have hbel':=below_iterAt hbel (Nat.le_refl _) s (i+d)
    generalize wr.iterAt w.heap.size s (i+d)=wy at hnx hk' hbel'
    have hno':Aside (Lib.NoAny s.data.toList chars.data.toList (i+d)):=Qsx HN.out HA.out d4
    have cR:=Qu9 {L with} chars (r:Int) wy h2 hcm HA.out (by omega)
    clear d4 hxl hx hx128
    go_wp2_with (go_at_fn (ρ.f 152);refine cR.mono ?_;rintro e w' ⟨rfl,hw⟩)
    go_roundg (s.size - (i+d))
    case measure=>omega
    case rel=>
     have hlt:w.heap.size<wy.heap.size:=(Array.getElem?_eq_some_iff.1 hk').1
     exact ⟨i+d,by omega,by rw [hw.block _ hlt];exact hk',hbel'.trans (hw.mono hbel'.size),hno'.out⟩
  ·obtain rfl:i=s.size:=by omega
   have hnx:=fun ty=>run_next_end_at (P:=P) wr w.heap.size s s.size ty hk hi
   go_wp2
   go_ret
   exact ⟨by rw [Lib.indexAny_none (by rw [←Lib.size_eq];exact HN.out)];rfl,hbel⟩
end Go.Proofs.YtggnjjalfnhiiaaGreatDoor.E
