import Derived.Test.YtggnjjalfnhiiaaGreatDoorPG12
import Derived.Shelf.SortM.Plain
import Derived.Shelf.SortM.SortNone
import Derived.Shelf.SlicesG.CompactI
import Derived.Lib.SortBridge
import Derived.Test.YtggnjjalfnhiiaaGreatDoorProg
import Derived.Lib.ParseIntB
import Derived.Lib.ItoaNum
import Derived.Lib.ItoaMem
import Derived.Shelf.Strconv.ParseIntPublic10
import Derived.Shelf.Strconv.Itoa4
import Derived.Lib.ParseIntBTie
import Derived.WalkKit
import Derived.BigCall
import Derived.Deep.DeepFit
import Derived.Lib.AppendIntMem
/- What functions come to. Printed by mkg.py. -/
set_option maxRecDepth 1000000
set_option linter.unusedSectionVars false
set_option linter.unusedSimpArgs false
set_option linter.unusedVariables false
namespace Go.Proofs.YtggnjjalfnhiiaaGreatDoor.E
open Go Go.RowKit
section
open X
set_option linter.unusedVariables false
set_option linter.unusedSectionVars false
variable [Lam] {a0 a1 a2 a3 a4 a5 a6:AV} {σ:AH} {R:AEnd→AH→Prop}
def x223:Sx:=J 4 1 0 (Q (.lodA 4 Y0) (.bsl 4 [(iv 0),(iv 0),(iv 0),(str ⟨#[]⟩)] 1 [(0,Y0)] (Q (.idx 4 Y0 (Y 0)) (Q (F 1 0) (.sto 1 Y0 (Y (-1)) (.jn 31 [5] (.ret Y0) (D .add Y5 (Y 1) (Q (.slc 4 Y7 (some Y0) none none) (O 0 (.lp [1,5,19,20,21] (D .lss Y4 Y3 (P 0 (J 4 3 5 (Q (.lodA 4 Y0) (.new [(iv 0),(iv 0),(iv 0),(str ⟨#[]⟩)] (.sto 4 Y0 Y1 (Q (F 1 0) (M 0 (D .lss Y0 Y6 (P 0 (.jump 1 [Y8]) (Q (F 1 3) (M 0 (D .sub Y0 Y9 (Q (F 1 6) (.sto 1 Y0 Y1 (.frz 8 Y7 (Q (.lodA 4 Y0) (.bsl 4 [(iv 0),(iv 0),(iv 0),(str ⟨#[]⟩)] 1 [(0,Y0)] (.app 4 Y15 Y0 (D .add Y19 (Y 1) (.jump 0 [Y16,Y1,Y18,Y19,Y0]))))))))))))))))))) (.jump 1 [Y2]))) [Y8,Y5,Y1,Y0,(Y 0)]))))))))))
theorem QqE (h:den TP TT R x223 [a1,a0] [] σ):acall TP Qma [a0,a1] σ R:=Qb Qg Tryz.func223 rfl x223 (by kernel_rfl) rfl h
def x224:Sx:= .bsl 1 [(str ⟨#[]⟩)] 7 [(0,(.lit (.val (.string ⟨#[113,117,111,116,101]⟩)))),(1,(.lit (.val (.string ⟨#[105,102]⟩)))),(2,(.lit (.val (.string ⟨#[108,97,109,98,100,97]⟩)))),(3,(.lit (.val (.string ⟨#[108,101,116]⟩)))),(4,(.lit (.val (.string ⟨#[98,101,103,105,110]⟩)))),(5,(.lit (.val (.string ⟨#[100,101,102,105,110,101]⟩)))),(6,(.lit (.val (.string ⟨#[115,101,116,33]⟩))))] (.call 245 [Y0,Y1] (.ret Y0))
theorem QjM (h:den TP TT R x224 [a0] [] σ):acall TP QdS [a0] σ R:=Qb Qg Tryz.func224 rfl x224 (by kernel_rfl) rfl h
def x225:Sx:=O 1 (.lp [0,1,10,11] (D .lss Y3 Y2 (P 0 (O 1 (D .sub Y0 (Y 1) (D .sub Y0 Y6 (J 1 4 0 (M 0 (.call 246 [Y0,Y7] (D .geq Y0 (Y 0) (P 0 (.rets [Y11,Y1,(.lit (.val (.bool true)))]) (D .add Y11 (Y 1) (.jump 0 [Y9,Y10,Y11,Y0])))))))))) (.rets [(Y 0),(Y 0),(.lit (.val (.bool false)))]))) [Y2,Y1,Y0,(Y 0)])
theorem Qpm (h:den TP TT R x225 [a1,a0] [] σ):acall TP Qj4 [a0,a1] σ R:=Qb Qg Tryz.func225 rfl x225 (by kernel_rfl) rfl h
def x226:Sx:=O 2 (Q (.sbin .eql Y4 (.lit (.val (.string ⟨#[113,117,111,116,101]⟩)))) (P 0 (D .neq Y1 (Y 1) (.call 158 [Y0,(Y 1)] (.ord [0,1,2,3,4,5,6,7,8,9,10,11] [0,0,0,4,12,28,0,64,192,508,1022,2047] (Q (A 8) (Q (F 0 0) (M 0 (Q (.idx 1 Y9 (Y 0)) (M 0 (.call 223 [Y2,Y0] (.wat [] (Q (.bld [(iv 0),(iv 0),(iv 0),(iv 0),(str ⟨#[]⟩),nilS] [(0,1),(1,1),(2,1),(3,1),(4,1),(5,1)] [(0,(Y 1)),(1,Y11),(5,Y0)]) (.call 222 [Y15,Y0] (.wat [] (.rets [])))))))))))))) (Q (.sbin .eql Y5 (.lit (.val (.string ⟨#[105,102]⟩)))) (P 0 (D .neq Y2 (Y 3) (.call 158 [Y0,(Y 1)] (Q (.bld [(iv 0),(iv 0),(iv 0),(iv 0),(str ⟨#[]⟩),nilS] [(0,1),(1,1),(2,1),(3,1),(4,1),(5,1)] [(0,(Y 4)),(1,Y6)]) (.call 222 [Y10,Y0] (.call 227 [Y11,Y0,Y9,Y7] (.rets [])))))) (Q (.sbin .eql Y6 (.lit (.val (.string ⟨#[98,101,103,105,110]⟩)))) (P 0 (D .eql Y3 (Y 0) (.call 158 [Y0,(Y 1)] (Q (.bld [(iv 0),(iv 0),(iv 0),(iv 0),(str ⟨#[]⟩),nilS] [(0,1),(1,1),(2,1),(3,1),(4,1),(5,1)] [(0,(Y 6)),(1,Y7)]) (.call 222 [Y11,Y0] (.call 227 [Y12,Y0,Y10,Y8] (.rets [])))))) (Q (.sbin .eql Y7 (.lit (.val (.string ⟨#[108,97,109,98,100,97]⟩)))) (P 0 (.ord [0,1,2,3,4,5,6,7,8,9,10,11,12,13,14,15] [0,1,3,7,15,31,63,7,135,391,1023,2047,4095,8191,16383,32767] (D .neq Y4 (Y 2) (G 0 (.ret Y10) (G 1 (A 0) (G 2 (F 0 0) (G 3 (L 0) (G 4 (.ret Y12) (G 5 (.idx 1 Y0 (Y 0)) (G 6 (L 0) (G 7 (I 4 3 0) (G 8 (F 0 0) (G 9 (L 0) (G 10 (B .neq Y0 (Y 4)) (Q (.pickV Y11 (.lit (.val (.bool true))) Y0) (.call 158 [Y0,(Y 1)] (.wat [] (.ord [0,1,2,3,4,5,6,7,8,9,10,11,12,13,14] [0,0,2,6,14,0,32,96,254,511,1023,2047,2047,4095,16383] (Q (A 23) (Q (F 0 0) (M 0 (Q (.idx 1 Y24 (Y 0)) (M 0 (.call 77 [Y2,Y0] (.wat [] (.call 247 [Y29,Y0] (.wat [] (Q (.aext Y0 0) (Q (.aext Y1 1) (Q (.aun .not Y0) (.call 158 [Y0,(Y 1)] (O 3 (D .gtr Y0 (Y 3) (.call 158 [Y0,(Y 2)] (.ord [0,1,2,3,4,5,6,7,8,10,11,9,12,13] [0,0,2,6,0,0,0,64,224,496,0,0,4080,8191] (Q (.idx 1 Y35 (Y 1)) (M 0 (O 8 (Q (.bld [(iv 0),(iv 0),(iv 0),(iv 0),(str ⟨#[]⟩),nilS] [(0,1),(1,1),(2,1),(3,1),(4,1),(5,1)] [(0,(Y 5)),(1,Y37),(2,Y0)]) (.call 222 [Y41,Y0] (.wat [⟨none,(.lod Y4),Y3⟩,⟨none,(.idx 1 Y40 (Y 1)),Y4⟩] (.call 248 [Y38,Y11] (.wat [⟨none,(.lod Y5),Y4⟩,⟨none,(.idx 1 Y41 (Y 1)),Y5⟩] (.call 190 [Y43,Y4,Y1,Y0] (.wat [] (.rets []))))))))))))))))))))))))))))))))))))))))))))) (Q (.sbin .eql Y8 (.lit (.val (.string ⟨#[108,101,116]⟩)))) (P 0 (.call 249 [Y10,Y8,Y7,Y6] (.rets [])) (D .neq Y5 (Y 2) (.call 158 [Y0,(Y 1)] (Q (.slc 1 Y10 none (some (Y 1)) none) (.call 247 [Y13,Y0] (Q (.aext Y0 0) (Q (.aext Y1 1) (Q (.aun .not Y0) (G 0 (.ret Y16) (G 1 (.sbin .eql Y0 (.lit (.val (.string ⟨#[100,101,102,105,110,101]⟩)))) (G 2 (.ret Y0) (.gog Y0 true true (.ret Y17) (.gog Y1 true true (B .geq Y0 (Y 0)) (G 5 (.pickV Y2 Y0 (.lit (.val (.bool false)))) (Q (.pickV Y6 (.lit (.val (.bool true))) Y0) (.call 158 [Y0,(Y 1)] (.jn 491519 [0,2,3,4,13,15] (.ord [0,1,2,3,4,5,6,7,8,9,10,12,11,13] [0,0,2,6,0,0,0,0,128,384,992,2032,0,8191] (Q (.idx 1 Y1 (Y 1)) (M 0 (Q (.idx 1 Y6 (Y 0)) (M 0 (Q (.bld [(iv 0),(iv 0),(iv 0),(iv 0),(str ⟨#[]⟩),nilS] [(0,1),(1,1),(2,1),(3,1),(4,1),(5,1)] [(0,Y9),(1,Y6),(4,Y0)]) (.call 222 [Y5,Y0] (.wat [⟨none,(.lod Y5),Y4⟩,⟨none,(.idx 1 Y7 (Y 1)),Y5⟩] (.call 190 [Y6,Y4,Y0,Y9] (.wat [] (.rets []))))))))))) (Q (.sbin .eql Y24 (.lit (.val (.string ⟨#[115,101,116,33]⟩)))) (P 0 (Q (.idx 1 Y11 (Y 0)) (M 0 (.call 225 [Y24,Y0] (Q (.aext Y0 0) (Q (.aext Y1 1) (Q (.aext Y2 2) (.call 158 [Y0,(Y 1)] (.jump 0 [Y33,Y31,Y30,Y29,Y18,(Y 7)])))))))) (.jump 0 [Y26,Y24,Y23,Y22,Y11,(Y 8)])))))))))))))))))))))))))))))
theorem QdH (h:den TP TT R x226 [a4,a3,a2,a1,a0] [] σ):acall TP QaI [a0,a1,a2,a3,a4] σ R:=Qb Qg Tryz.func226 rfl x226 (by kernel_rfl) rfl h
def x227:Sx:=O 1 (.lp [0,1,3,10,11,12] (D .lss Y5 Y4 (P 0 (J 1 4 6 (M 0 (.call 190 [Y3,Y0,Y4,Y5] (D .add Y9 (Y 1) (.jump 0 [Y5,Y6,Y7,Y8,Y9,Y0]))))) (.rets []))) [Y4,Y3,Y1,Y2,Y0,(Y 0)])
theorem QgN (h:den TP TT R x227 [a3,a2,a1,a0] [] σ):acall TP Qaa [a0,a1,a2,a3] σ R:=Qb Qg Tryz.func227 rfl x227 (by kernel_rfl) rfl h
def x236:Sx:= .jn 15 [0,4] (Q (.lenStr Y0) (D .sub Y0 Y2 (D .lss Y0 (Y 1) (G 0 (.ret Y3) (G 1 (.lenStr Y0) (G 2 (.ret Y6) (G 3 (B .sub Y1 Y0) (G 4 (B .gtr Y0 (Y 10)) (Q (.pickV Y5 (.lit (.val (.bool true))) Y0) (P 0 (.rets [(Y 0),(.lit (.val (.bool false)))]) (.lp [0,4,5,6] (Q (.lenStr Y0) (D .lss Y4 Y0 (P 0 (Q (.idxStr Y2 Y5) (D .lss Y0 (.lit (.val (.int .u8 48))) (G 0 (.ret Y4) (G 1 (.ret Y8) (G 2 (.idxStr Y1 Y0) (G 3 (B .gtr Y0 (.lit (.val (.int .u8 57)))) (Q (.pickV Y4 (.lit (.val (.bool true))) Y0) (P 0 (.rets [(Y 0),(.lit (.val (.bool false)))]) (D .mul Y11 (Y 10) (Q (.idxStr Y10 Y13) (D .sub Y0 (.lit (.val (.int .u8 48))) (Q (.conv .i64 Y0) (D .add Y3 Y0 (D .add Y17 (Y 1) (.jump 0 [Y15,Y16,Y1,Y0]))))))))))))))) (.jn 255 [0,5] (.jn 511 [2,3] (.rets [Y0,Y1]) (.call 130 [Y1] (H 0 (.ret Y2) (.gpick Y1 (.call 22 [Y0] (Q (.sbin .eql Y0 Y3) (.jump 0 [Y5,Y0]))) (.jump 0 [Y3,(.lit (.val (.bool false)))]) (.no))))) (D .eql Y3 (Y 1) (P 0 (Q (.aun .neg Y5) (.jump 0 [Y4,Y0])) (.jump 0 [Y3,Y5]))))))) [Y9,Y10,(Y 0),Y10]))))))))))) (Q (.lenStr Y0) (D .gtr Y0 (Y 0) (H 0 (.ret Y2) (H 1 (.idxStr Y0 (Y 0)) (H 2 (B .eql Y0 (.lit (.val (.int .u8 45)))) (Q (.pickV Y3 Y0 (.lit (.val (.bool false)))) (P 0 (.jump 0 [Y6,(Y 1)]) (.jump 0 [Y6,(Y 0)]))))))))
theorem QlQ (h:den TP TT R x236 [a0] [] σ):acall TP Qf3 [a0] σ R:=Qb Qg Tryz.func236 rfl x236 (by kernel_rfl) rfl h
def x237:Sx:=Q (A 2) (Q (F 0 0) (M 0 (J 4 0 4 (.jn 29 [2,8,27] (P 2 (.rets [(.lit (str ⟨#[]⟩)),(Y 1)]) (.lp [2,8,9] (O 0 (D .lss Y3 Y0 (P 0 (.ord [0,1,2,3,4,5,6,7,8] [0,0,3,7,0,16,48,112,255] (J 1 2 4 (M 0 (Q (A 5) (Q (F 3 0) (M 0 (Q (.sbin .eql Y3 Y0) (P 0 (.rets [(.lit (str ⟨#[]⟩)),(Y 1)]) (D .add Y10 (Y 1) (.jump 0 [Y9,Y10,Y0])))))))))) (Q (A 3) (Q (F 3 0) (M 0 (.rets [Y0,(Y 0)]))))))) [Y0,Y1,(Y 0)])) (Q (A 0) (Q (F 0 0) (M 0 (D .neq Y0 (Y 3) (G 0 (.ret Y4) (G 1 (A 0) (G 2 (F 3 0) (G 3 (L 0) (.gpick Y4 (.jump 0 [Y12,Y8,(.lit (.val (.bool true)))]) (.call 178 [Y0] (.jump 0 [Y13,Y9,Y0])) (.no))))))))))))))
theorem QlR (h:den TP TT R x237 [a2,a1,a0] [] σ):acall TP Qcr [a0,a1,a2] σ R:=Qb Qg Tryz.func237 rfl x237 (by kernel_rfl) rfl h
def x238:Sx:=Q (A 2) (Q (F 2 0) (M 0 (Q (.bld [nilS,(iv 0)] [(0,1),(1,1)] [(0,Y4),(1,Y3)]) (.bsl 2 [nilS,(iv 0)] 1 [(0,Y0)] (.app 2 Y2 Y0 (Q (A 8) (Q (F 2 0) (.sto 1 Y0 Y2 (Q (A 10) (Q (F 2 0) (M 0 (O 0 (D .sub Y0 (Y 1) (.ret Y0))))))))))))))
theorem Qm5 (h:den TP TT R x238 [a2,a1,a0] [] σ):acall TP Qhr [a0,a1,a2] σ R:=Qb Qg Tryz.func238 rfl x238 (by kernel_rfl) rfl h
def x245:Sx:= .call 246 [Y1,Y0] (D .geq Y0 (Y 0) (.ret Y0))
theorem QaL (h:den TP TT R x245 [a1,a0] [] σ):acall TP UQ [a0,a1] σ R:=Qb Qg Tryz.func245 rfl x245 (by kernel_rfl) rfl h
def x246:Sx:=O 1 (.lp [0,1,7,8] (D .lss Y3 Y2 (P 0 (J 1 1 4 (M 0 (Q (.sbin .eql Y4 Y0) (P 0 (.ret Y7) (D .add Y7 (Y 1) (.jump 0 [Y5,Y6,Y7,Y0])))))) (.ret (Y (-1))))) [Y2,Y1,Y0,(Y 0)])
theorem Qb5 (h:den TP TT R x246 [a1,a0] [] σ):acall TP Qar [a0,a1] σ R:=Qb Qg Tryz.func246 rfl x246 (by kernel_rfl) rfl h
def x247:Sx:= .bsl 1 [(str ⟨#[]⟩)] 0 [] (O 1 (.lp [0,6,11,12,13] (D .lss Y4 Y3 (P 0 (J 1 3 5 (M 0 (Q (A 3) (Q (F 0 0) (M 0 (J 4 0 3 (Q (.lodA 4 Y0) (.new [(iv 0),(iv 0),(iv 0),(str ⟨#[]⟩)] (.sto 4 Y0 Y1 (.jn 29901 [0,6,9,11,12,13,37] (P 6 (.rets [(.lit nilS),(.lit (.val (.bool false)))]) (Q (F 3 2) (M 0 (.bsl 1 [(str ⟨#[]⟩)] 1 [(0,Y0)] (.app 1 Y4 Y0 (D .add Y9 (Y 1) (.jump 0 [Y5,Y1,Y8,Y9,Y0]))))))) (.frz 13 Y0 (Q (F 0 0) (M 0 (D .neq Y0 (Y 3) (G 0 (F 3 3) (G 1 (L 0) (.gpick Y2 (.jump 0 [Y15,Y16,Y5,Y17,Y18,Y19,(.lit (.val (.bool true)))]) (.call 224 [Y0] (G 0 (.ret Y17) (G 1 (F 3 7) (G 2 (L 0) (.gpick Y3 (.jump 0 [Y19,Y20,Y9,Y21,Y22,Y23,(.lit (.val (.bool true)))]) (.call 245 [Y2,Y0] (.jump 0 [Y20,Y21,Y10,Y22,Y23,Y24,Y0])) (.no)))))) (.no)))))))))))))))))) (.rets [Y2,(.lit (.val (.bool true)))]))) [Y3,Y1,Y2,Y0,(Y 0)]))
theorem Qfb (h:den TP TT R x247 [a1,a0] [] σ):acall TP Qbq [a0,a1] σ R:=Qb Qg Tryz.func247 rfl x247 (by kernel_rfl) rfl h
def x248:Sx:= .call 254 [Y1] (.bsl 1 [nilS] 1 [(0,Y1)] (.app 1 Y1 Y0 (.ret Y0)))
theorem Qoe (h:den TP TT R x248 [a1,a0] [] σ):acall TP Qi5 [a0,a1] σ R:=Qb Qg Tryz.func248 rfl x248 (by kernel_rfl) rfl h
def x249:Sx:= .ord [0,1,2,3,4,5,6,7,8,9,10,11,12,13,14,15,16] [0,1,3,7,15,31,63,127,15,271,783,2047,4095,8191,16383,32767,65535] (O 2 (D .neq Y0 (Y 2) (G 0 (.ret Y5) (G 1 (A 0) (G 2 (F 0 0) (G 3 (L 0) (G 4 (.ret Y8) (G 5 (.idx 1 Y0 (Y 0)) (G 6 (L 0) (G 7 (I 4 3 0) (G 8 (F 0 0) (G 9 (L 0) (G 10 (B .neq Y0 (Y 4)) (Q (.pickV Y11 (.lit (.val (.bool true))) Y0) (.call 158 [Y0,(Y 1)] (.wat [] (.bsl 1 [(iv 0)] 0 [] (.bsl 1 [(iv 0)] 0 [] (.ord [0,1,2,3,4,5,6,9,7,8] [0,1,3,7,0,16,48,127,255,0] (Q (A 20) (Q (F 0 0) (M 0 (Q (.idx 1 Y22 (Y 0)) (M 0 (.call 77 [Y2,Y0] (.wat [] (O 0 (.lp [0,1,2,3,8,9,42,43,44] (D .lss Y8 Y7 (P 0 (J 1 7 9 (M 0 (Q (A 3) (Q (F 0 0) (M 0 (.call 77 [Y0,Y3] (Q (A 7) (Q (F 0 0) (M 0 (J 4 0 7 (Q (F 0 0) (M 0 (D .neq Y0 (Y 4) (G 0 (.ret Y7) (G 1 (N 0) (G 2 (B .neq Y0 (Y 2)) (Q (.pickV Y3 (.lit (.val (.bool true))) Y0) (.call 158 [Y0,(Y 1)] (.ord [0,1,2,3,4,6,7,8,9,10,5,11,12,13] [0,0,2,6,14,31,0,0,128,384,896,2047,4095,8191] (Q (.idx 1 Y12 (Y 0)) (M 0 (Q (.bslR 1 [(iv 0)] 1 [(0,Y0)]) (Q (.idx 1 Y15 (Y 1)) (M 0 (Q (.bslR 1 [(iv 0)] 1 [(0,Y0)]) (.app 1 Y29 Y3 (.wat [⟨none,(.lod Y3),Y2⟩,⟨none,(.idx 1 Y19 (Y 1)),Y3⟩] (.app 1 Y31 Y1 (.wat [] (D .add Y35 (Y 1) (.jump 0 [Y28,Y29,Y30,Y31,Y2,Y1,Y34,Y35,Y0]))))))))))))))))))))))))))))))) (.call 247 [Y1,Y5] (Q (.aext Y0 0) (Q (.aext Y1 1) (Q (.aun .not Y0) (.call 158 [Y0,(Y 1)] (O 3 (D .gtr Y0 (Y 3) (.call 158 [Y0,(Y 2)] (Q (.bld [(iv 0),(iv 0),(iv 0),(iv 0),(str ⟨#[]⟩),nilS] [(0,1),(1,1),(2,1),(3,1),(4,1),(5,1)] [(0,(Y 9)),(1,Y11)]) (.call 222 [Y10,Y0] (.ord [0,1,2,3,4,5,6,7,8,10,11,9,12,13] [0,0,2,6,0,0,0,64,224,496,0,0,4080,8191] (Q (.idx 1 Y12 (Y 1)) (M 0 (O 10 (Q (.bld [(iv 0),(iv 0),(iv 0),(iv 0),(str ⟨#[]⟩),nilS] [(0,1),(1,1),(2,1),(3,1),(4,1),(5,1)] [(0,(Y 5)),(1,Y3),(2,Y0)]) (.call 222 [Y15,Y0] (.wat [⟨none,(.lod Y4),Y3⟩,⟨none,(.idx 1 Y17 (Y 1)),Y4⟩] (.call 248 [Y19,Y13] (.wat [⟨none,(.lod Y5),Y4⟩,⟨none,(.idx 1 Y18 (Y 1)),Y5⟩] (.call 190 [Y17,Y4,Y1,Y0] (.wat [] (.call 227 [Y18,Y7,Y23,Y21] (.rets []))))))))))))))))))))))))) [Y27,Y26,Y25,Y24,Y8,Y7,Y1,Y0,(Y 0)]))))))))))))))))))))))))))))
theorem QgO (h:den TP TT R x249 [a3,a2,a1,a0] [] σ):acall TP Qcs [a0,a1,a2,a3] σ R:=Qb Qg Tryz.func249 rfl x249 (by kernel_rfl) rfl h
def x254:Sx:= .cmp .eql 283 Y0 (.lit nilS) (P 0 (.ret (.lit nilS)) (.bsl 1 [nilS] 0 [] (.app 1 Y0 Y2 (.ret Y0))))
theorem QhX (h:den TP TT R x254 [a0] [] σ):acall TP QjE [a0] σ R:=Qb Qg Tryz.func254 rfl x254 (by kernel_rfl) rfl h
end
section
variable [L:Lam] {σ:AH} {R:AEnd→AH→Prop}
abbrev u8v (n:Int):AV:= .val (.int .u8 n)
abbrev bs (l:List UInt8):ByteArray:=⟨l.toArray⟩
abbrev by8 (s:ByteArray):List UInt8:=s.data.toList
theorem Qfc (s:ByteArray):bs (by8 s)=s:=by cases s;simp
theorem Qfd (s:ByteArray):s.size=(by8 s).length:=by show s.data.size=s.data.toList.length;simp
theorem Qm (l:List UInt8):(bs l).size=l.length:=by show l.toArray.size=l.length;simp
theorem Qb7 (i d:Nat):abd (some (iv (i:Nat))) d=some i:=by simp[abd]
theorem QBA (l:List UInt8):by8 (bs l)=l:=by simp
theorem QBW {l:List UInt8} {i:Nat} (h:i<l.length):(bs l)[i]? =some l[i]:=by
 have h':i<(bs l).size:=by rw[Qm];exact h
 rw[getElem?_pos (bs l) i h'];rfl
theorem Q6 {l:List UInt8} {i:Nat} (h:i<l.length):idxStr (str (bs l)) (.val (.int .i64 (i:Int)))=some (u8v (l[i].toNat:Nat)):=by
 simp only[idxStr,Int.toNat_natCast,QBW h];rw[if_pos (by omega)]
theorem QuN {b:UInt8} {l:List UInt8}:slcStr (str (bs (b::l))) (some (iv 1)) none=some (str (bs l)):=by
 have e1:abd (some (AV.val (.int .i64 1))) 0=some 1:=rfl;have e2:abd none (bs (b::l)).size=some (bs (b::l)).size:=rfl;simp only[slcStr,e1,e2];rw[if_pos ⟨by rw[Qm];simp,Nat.le_refl _⟩]
 congr 3
 apply ByteArray.ext
 rw[ByteArray.data_extract,Qm];simp
theorem Qwf {b:UInt8} {l:List UInt8}:slcStr (str (bs (l++[b]))) none (some (.val (.int .i64 (l.length:Nat))))=some (str (bs l)):=by
 have e1:abd none 0=some 0:=rfl;have e2:abd (some (AV.val (.int .i64 ((l.length:Nat):Int)))) (bs (l++[b])).size=some l.length:=Qb7 _ _;simp only[slcStr,e1,e2];rw[if_pos ⟨Nat.zero_le _,by rw[Qm];simp⟩]
 congr 3
 apply ByteArray.ext
 rw[ByteArray.data_extract];simp
theorem JH (a b:Int):ibin .geq (u8v a) (u8v b)=some (bv (decide (b≤a)))∧ibin .leq (u8v a) (u8v b)=some (bv (decide (a≤b)))∧ibin .lss (u8v a) (u8v b)=some (bv (decide (a<b)))∧ibin .gtr (u8v a) (u8v b)=some (bv (decide (b<a)))∧
  ibin .eql (u8v a) (u8v b)=some (bv (decide (a=b)))∧ibin .neq (u8v a) (u8v b)=some (bv (!decide (a=b))):=⟨id rfl,id rfl,id rfl,id rfl,id rfl,id rfl⟩
theorem Qzr {cs:List AV} {off:Nat} {σ:AH}:lod (.rop cs off) σ=cs[off]? :=by
 unfold lod Ja;simp only[];rcases Nat.lt_or_ge off cs.length with h|h
 ·rw[List.drop_eq_getElem_cons h,List.getElem?_eq_getElem h]
 ·rw[List.drop_eq_nil_of_le h,List.getElem?_eq_none h]
theorem Qjt (p:UInt8→Bool):∀l:List UInt8,l.dropWhile p=[]↔∀b,b∈l→p b=true:=by
 intro l
 induction l with
 |nil=>simp
 |cons b l ih=>
  rw[List.dropWhile_cons];by_cases h:p b=true
  ·rw[if_pos h,ih];simp[h]
  ·rw[if_neg h];simp[h]
theorem QrB (c:List UInt8) (b:UInt8):(c.any fun x=>x.toNat==b.toNat)=c.contains b:=by
 induction c with
 |nil=>rfl
 |cons x c ih=>
  rw[List.any_cons,List.contains_cons,ih]
  congr 1
  by_cases e:x=b
  ·subst e;simp
  ·have h1:x.toNat≠b.toNat:=fun h=>e (UInt8.toNat_inj.1 h)
   have h2:(x.toNat==b.toNat)=false:=by simpa using h1
   have h3:(b==x)=false:=by simpa using Ne.symm e
   rw[h2,h3]
def setC (c:List UInt8):List AV:=(List.range 256).map fun j=>bv (c.any fun b=>b.toNat==j)
theorem QaN (c:List UInt8):(setC c).length=256:=by simp[setC]
theorem Qwg:setC []=List.replicate 256 (bv false):=by
 unfold setC;simp only[List.any_nil];rw[List.map_const',List.length_range]
theorem Qpn (c:List UInt8) {n:Nat} (h:n<256):(setC c)[n]? =some (bv (c.any fun b=>b.toNat==n)):=by simp[setC,h]
theorem QuO (c:List UInt8) (b:UInt8):(setC c).set b.toNat (bv true)=setC (c++[b]):=by
 apply List.ext_getElem?
 intro j;by_cases hj:j<256
 ·rw[Qpn _ hj,List.getElem?_set];by_cases e:b.toNat=j
  ·rw[if_pos e,if_pos (by rw[QaN];exact e▸hj)];simp[e]
  ·rw[if_neg e,Qpn _ hj];simp[e]
 ·rw[List.getElem?_eq_none (by rw[List.length_set,QaN];omega),List.getElem?_eq_none (by rw[QaN];omega)]
theorem QtH (b:UInt8):b.toNat<256:=b.toNat_lt
theorem QgP {c:List UInt8} (hc:∀b,b∈c→b.toNat<128) (hl:c.length≤1000000) (h:R (.ret (.tup [.agg (setC c),bv true])) σ):acall TP Qa5 [str (bs c)] σ R:=by
 refine Qed ?_;unfold x163;dsimp only[den,dE,di,tupL,lTup,den2,den3,den4,List.map,den0,den1];intro φ hφ;simp only[List.length_replicate];refine QeB c.length (fun i=>(str (bs c),.ptr φ 0 0 0,iv (i:Int),())) (fun i σ'=>σ'=σ.set φ ⟨0,256,[setC (c.take i)]⟩) rfl (by rw[List.take_zero,Qwg]) ?_;rintro i σ' hi rfl R' hR';have hF:(σ.set φ ⟨0,256,[setC (c.take i)]⟩) φ=some ⟨0,256,[setC (c.take i)]⟩:=AH.set_same ..;have hsz:(bs c).size=c.length:=Qm c;simp only[RR,hsz];by_cases hlt:i<c.length
 ·have g:(i:Int)<(c.length:Int):=by omega
  have hb:=hc _ (List.getElem_mem hlt);have g2:¬(128:Int)≤((c[i].toNat:Nat):Int):=by omega
  have e1:idxArr 256 1 (.ptr φ 0 0 0) (u8v (c[i].toNat:Nat))=some (.ptr φ 0 0 c[i].toNat):=by
   simp only[idxArr];rw[if_pos ⟨by omega,by omega⟩];simp
  simp only[g,Q6 hlt,JH,g2,e1,Qh hlt (by omega),RR];refine Q4 (sz:=256) (off:=c[i].toNat) (i:=0) (cs:=setC (c.take i)) (v:=bv true) hF rfl (QtH _) rfl rfl ?_;have ht:c.take i++[c[i]]=c.take (i+1):=List.take_append_getElem hlt;simp only[List.set_cons_zero,AH.set_set,QuO,ht];exact hR' hlt _ _ (.refl _) rfl
 ·have g:¬(i:Int)<(c.length:Int):=by omega
  obtain rfl:i=c.length:=by omega
  rw[List.take_length] at hF ⊢;have e1:=UG (σ:=σ.set φ ⟨0,256,[setC c]⟩) (st:=0) (i:=0) (n:=256) (cs:=setC c) hF rfl rfl (QaN c);simp only[g,e1,RR];refine QH (es:=[setC c]) (cs:=setC c) hF (by simp) (QaN c) rfl (QaN c) ?_ ?_
  ·intro x hx;obtain ⟨j,_,rfl⟩:=List.mem_map.1 hx;rfl
  simp only[List.set_cons_zero,AH.set_set,e1,RR];exact Uk (QsR (.refl _) hφ) h
theorem U6 {c:List UInt8} {b:UInt8} (h:R (.ret (bv (c.contains b))) σ):acall TP UW [.rop (setC c) 0,u8v (b.toNat:Nat)] σ R:=by
 refine Qcx ?_;unfold x202;dsimp only[den,dE,di,List.map,den0,den1];have e1:idxArr 256 1 (.rop (setC c) 0) (u8v (b.toNat:Nat))=some (.rop (setC c) b.toNat):=by
  have:=QtH b;simp only[idxArr];rw[if_pos ⟨by omega,by omega⟩];simp
 have e2:lod (.rop (setC c) b.toNat) σ=some (bv (c.contains b)):=by
  have hb:=QtH b;have hi:b.toNat<(setC c).length:=by rw[QaN];exact hb
  have e:=Qpn c hb;rw[Qzr,e,QrB]
 simp only[RR,e1,e2];exact Qa h
def Qaw (p:UInt8→Bool) (l:List UInt8):List UInt8:=l.dropWhile p
def Ug (p:UInt8→Bool) (l:List UInt8):List UInt8:=(l.reverse.dropWhile p).reverse
theorem QtI (p:UInt8→Bool) (l:List UInt8) (b:UInt8):Ug p (l++[b])=if p b then Ug p l else l++[b]:=by
 unfold Ug;rw[List.reverse_append];simp only[List.reverse_cons,List.reverse_nil,List.nil_append,List.singleton_append,List.dropWhile_cons];split<;>simp
theorem Qwh (p:UInt8→Bool):∀l:List UInt8,Qaw p (Ug p l)=[]↔l.all p=true:=by
 intro l;have hR:Ug p l=[]↔l.all p=true:=by
  unfold Ug;rw[List.reverse_eq_nil_iff,Qjt];simp[List.all_eq_true]
 constructor
 ·intro h;unfold Qaw at h;rw[Qjt] at h;refine hR.1 ?_;by_cases e:Ug p l=[]
  ·exact e
  ·exfalso;have hne:l.reverse.dropWhile p≠[]:=fun h'=>e (by unfold Ug;rw[h'];rfl)
   have h1:=List.head_dropWhile_not p hne;have h2:=h ((l.reverse.dropWhile p).head hne) (by unfold Ug;rw[List.mem_reverse];exact List.head_mem hne);rw[h1] at h2;cases h2
 ·intro h;rw[hR.2 h];rfl
theorem Qfe {c l:List UInt8} (hl:l.length≤1000000) (h:R (.ret (str (bs (Ug c.contains l)))) σ):acall TP Qau [str (bs l),.rop (setC c) 0] σ R:=by
 refine Qdo ?_;unfold x165;dsimp only[den,dE,di,tupL,lTup,den2,den3,den4,List.map,den0,den1,Option.map];refine Qd9 (fun x σ'=>σ'=σ∧x=(str (bs (Ug c.contains l)),())) ?_ ?_
 ·rintro x σ' ⟨rfl,rfl⟩;exact Qa h
 intro k hk;refine QF (fun n x σ'=>∃l',x=(str (bs l'),.rop (setC c) 0,())∧σ'=σ∧l'.length=n∧n≤1000000∧Ug c.contains l'=Ug c.contains l) l.length ⟨l,rfl,rfl,rfl,hl,rfl⟩ ?_;rintro n x σ' ⟨l',rfl,rfl,hn,hn2,ht⟩ R' hR';have hsz:(bs l').size=l'.length:=Qm l';simp only[RR,hsz];rcases List.eq_nil_or_concat l' with rfl|⟨m,b,rfl⟩
 ·have e:Ug c.contains l=[]:=ht.symm;have g:¬(0:Int)<(([]:List UInt8).length:Int):=by simp
  simp only[g,RR];exact hk _ _ ⟨rfl,by rw[e];rfl⟩
 ·rw[List.concat_eq_append] at ht hn hsz ⊢;have hlen:(m++[b]).length=m.length+1:=by simp
  have g:(0:Int)<((m++[b]).length:Int):=by omega
  have e1:ibin .sub (.val (.int .i64 ((m++[b]).length:Int))) (iv 1)=some (iv (m.length:Nat)):=by rw[QU (by omega) (by omega)];congr 3;omega
  have e2:idxStr (str (bs (m++[b]))) (.val (.int .i64 (m.length:Nat)))=some (u8v (b.toNat:Nat)):=by
   rw[Q6 (by omega)];simp
  rw[QtI] at ht;simp only[g,e1,e2,hsz,RR];refine U6 ?_;by_cases hb:c.contains b=true
  ·rw[if_pos hb] at ht;simp only[hb,e1,Qwf,RR];exact hR' _ _ m.length σ' (by omega) (.refl _) ⟨m,rfl,rfl,rfl,by omega,ht⟩
  ·rw[if_neg hb] at ht;have hb':c.contains b=false:=by simpa using hb
   simp only[hb',RR];exact hk _ _ ⟨rfl,by rw[ht];rfl⟩
theorem Qft {c l:List UInt8} (hl:l.length≤1000000) (h:R (.ret (str (bs (Qaw c.contains l)))) σ):acall TP QaG [str (bs l),.rop (setC c) 0] σ R:=by
 refine QdF ?_;unfold x164;dsimp only[den,dE,di,tupL,lTup,den2,den3,den4,List.map,den0,den1,Option.map];refine Qd9 (fun x σ'=>σ'=σ∧x=(str (bs (Qaw c.contains l)),())) ?_ ?_
 ·rintro x σ' ⟨rfl,rfl⟩;exact Qa h
 intro k hk;refine QF (fun n x σ'=>∃l',x=(str (bs l'),.rop (setC c) 0,())∧σ'=σ∧l'.length=n∧n≤1000000∧Qaw c.contains l'=Qaw c.contains l) l.length ⟨l,rfl,rfl,rfl,hl,rfl⟩ ?_;rintro n x σ' ⟨l',rfl,rfl,hn,hn2,ht⟩ R' hR';have hsz:(bs l').size=l'.length:=Qm l';simp only[RR,hsz];match l',ht,hn,hsz with
 |[],ht,hn,hsz=>
  have e:Qaw c.contains l=[]:=ht.symm;have g:¬(0:Int)<(([]:List UInt8).length:Int):=by simp
  simp only[g,RR];exact hk _ _ ⟨rfl,by rw[e];rfl⟩
 |b::m,ht,hn,hsz=>
  have g:(0:Int)<((b::m).length:Int):=by rw[List.length_cons];omega
  have e2:idxStr (str (bs (b::m))) (iv 0)=some (u8v (b.toNat:Nat)):=Q6 (l:=b::m) (i:=0) (by simp);unfold Qaw at ht;rw[List.dropWhile_cons] at ht;simp only[g,e2,RR];refine U6 ?_;by_cases hb:c.contains b=true
  ·rw[if_pos hb] at ht;simp only[hb,QuN,RR];exact hR' _ _ m.length σ' (by simp at hn;omega) (.refl _) ⟨m,rfl,rfl,rfl,by simp at hn;omega,ht⟩
  ·rw[if_neg hb] at ht;have hb':c.contains b=false:=by simpa using hb
   simp only[hb',RR];refine hk _ _ ⟨rfl,?_⟩;show (str (bs (b::m)),())=(str (bs (Qaw c.contains l)),());unfold Qaw;rw[←ht]
theorem Qpo {c l:List UInt8} (hc:∀b,b∈c→b.toNat<128) (hc2:2≤c.length) (hcl:c.length≤1000000) (hl:l.length≤1000000) (h:R (.ret (str (bs (Qaw c.contains (Ug c.contains l))))) σ):acall TP Qf0 [str (bs l),str (bs c)] σ R:=by
 refine QlM ?_;unfold x135;dsimp only[den,dE,di,dwat,Qf,List.map,den0,den1];have hsz:(bs c).size=c.length:=Qm c;have ce:¬bs c=(⟨#[]⟩:ByteArray):=by
  intro e;have:=congrArg ByteArray.size e;rw[Qm] at this;change c.length=0 at this;omega
 have g1:¬((c.length:Int)=1):=by omega
 by_cases le:l=[]
 ·subst le;have e:(bs ([]:List UInt8))=(⟨#[]⟩:ByteArray):=rfl;simp only[e,Jy,RR];exact Qa h
 ·have e:¬bs l=(⟨#[]⟩:ByteArray):=by
   intro e;have:=congrArg ByteArray.size e;rw[Qm] at this;exact le (List.eq_nil_of_length_eq_zero this)
  simp only[e,ce,Jy,hsz,g1,RR];refine QgP hc hcl ?_;simp only[Qwa,List.getElem?_cons_zero,List.getElem?_cons_succ,RR];refine Ji rfl (QaN c) List.length_replicate (fun y hy=>by obtain ⟨j,_,rfl⟩:=List.mem_map.1 hy;rfl) ?_;refine Qfe hl ?_;simp only[RR];refine Qft ?_ ?_
  ·have:(Ug c.contains l).length≤l.length:=by
    unfold Ug;rw[List.length_reverse];have:=(List.dropWhile_sublist c.contains (l:=l.reverse)).length_le
    rwa [List.length_reverse] at this
   omega
  simp only[RR];exact Qa h
end
section
variable [L:Lam] {σ:AH} {R:AEnd→AH→Prop}
def inB (lo hi x:Int):Bool:=decide (lo≤x)&&decide (x≤hi)
theorem Js {lo hi x:Int}:inB lo hi x=true↔lo≤x∧x≤hi:=by simp[inB]
theorem JX {x lo hi:Int} (h:R (.ret (bv (inB lo hi x))) σ):acall TP Qeb [iv x,iv lo,iv hi] σ R:=by
 refine Qrz ?_;unfold x72;dsimp only[den,dE,di,List.map,den0,den1];unfold inB at h;by_cases h1:lo≤x
 ·simp only[h1,RR,Bool.true_and] at h ⊢;exact Qa h
 ·simp only[h1,RR,Bool.false_and] at h ⊢;exact Qa h
theorem JK {x lo hi:Int} (h:R (.ret (bv (inB lo hi x))) σ):acall TP QeK [iv x,iv lo,iv hi] σ R:=by
 refine Qpf ?_;unfold x68;dsimp only[den,dE,di,List.map,den0,den1];unfold inB at h;by_cases h1:lo≤x
 ·simp only[h1,RR,Bool.true_and] at h ⊢;exact Qa h
 ·simp only[h1,RR,Bool.false_and] at h ⊢;exact Qa h
def numB (n:Int):Bool:=inB (-1000000000) 1000000000 n
theorem QkG {n:Int} (h:R (.ret (bv (numB n))) σ):acall TP QdC [iv n] σ R:=Qn4 (JK (Qa h))
theorem Qof {n:Int} (h:R (.ret (iv (if numB n then 0 else 3))) σ):acall TP QbN [iv n] σ R:=by
 refine Qdp (JX ?_);change R (.ret (iv (if inB (-1000000000) 1000000000 n then 0 else 3))) σ at h;cases c:inB (-1000000000) 1000000000 n<;>rw[c] at h<;>simp only[RR]<;>exact Qa h
def cutset:List UInt8:=[97,98,99,100,101,102,103,104,105,106,107,108,109,110,111,112,113,114,115,116,117,118,119,120,121,122,43,45,42,47,60,61,63,33]
def symB (b:UInt8):Bool:=cutset.contains b
def Qax (s:ByteArray):Bool:=inB 1 12 s.size&&(by8 s).all symB
theorem Qcy {s:ByteArray} (h:R (.ret (iv (if Qax s then 0 else 5))) σ):acall TP QeO [str s] σ R:=by
 refine Qkm ?_;unfold x102;dsimp only[den,dE,di,tupL,lTup,den2,den3,den4,List.map,den0,den1];unfold Qax at h;simp only[jn,RR];refine JX ?_;cases c:inB 1 12 (s.size:Int)
 ·rw[c] at h;simp only[RR];exact Qa h
 ·rw[c] at h;have hi:=Js.1 c;have hl:(by8 s).length≤1000000:=by rw[←Qfd];omega
  simp only[RR];rw[←Qfc s];refine Qpo (c:=cutset) (by decide) (by decide) (by decide) hl ?_;have ht:=Qwh symB (by8 s);have e:(bs (Qaw cutset.contains (Ug cutset.contains (by8 s)))=(⟨#[]⟩:ByteArray))↔(by8 s).all symB=true:=by
   rw[←ht];constructor
   ·intro e;have:=congrArg (fun b:ByteArray=>b.data.toList) e;exact this
   ·intro e;have e:Qaw cutset.contains (Ug cutset.contains (by8 s))=[]:=e;rw[e]
  cases ha:(by8 s).all symB
  ·rw[ha] at h e;have e:¬bs (Qaw cutset.contains (Ug cutset.contains (by8 s)))=(⟨#[]⟩:ByteArray):=fun h=>by have:=e.1 h;cases this
   simp only[QaA,e,RR];exact Qa h
  ·rw[ha] at h e;have e:=e.2 rfl;simp only[QaA,e,RR];exact Qa h
def signs:List UInt8:=[43,45,42,47,60,61,63,33]
theorem Qzs (b:UInt8):symB b=((decide (97≤b.toNat)&&decide (b.toNat≤122))||signs.contains b):=by
 have key:∀n:Fin 256,symB (UInt8.ofNat n.val)=((decide (97≤n.val)&&decide (n.val≤122))||signs.contains (UInt8.ofNat n.val)):=by decide+kernel
 have hk:=key ⟨b.toNat,b.toNat_lt⟩;rw[UInt8.ofNat_toNat] at hk;exact hk
theorem QqF {b:UInt8} (h:R (.ret (bv (symB b))) σ):acall TP Qhg [u8v (b.toNat:Nat)] σ R:=by
 refine QmS ?_;unfold x128;dsimp only[den,dE,di,tupL,lTup,den2,den3,den4,List.map,den0,den1];rw[Qzs] at h;by_cases c:97≤b.toNat∧b.toNat≤122
 · have g1:(97:Int)≤((b.toNat:Nat):Int):=by omega
   have g2:((b.toNat:Nat):Int)≤122:=by omega
   simp only[JH,g1,g2,RR];rw[decide_eq_true c.1,decide_eq_true c.2] at h;exact Qa h
 have e:(decide (97≤b.toNat)&&decide (b.toNat≤122))=false:=by simpa using c
 rw[e,Bool.false_or] at h;have loop:∀(i:Nat) (_:i≤signs.length) (_:∀j,j<i→signs[j]? ≠some b) (R':Tup [0,3,4]→AH→Prop),(i<signs.length→signs[i]? ≠some b→R' (u8v (b.toNat:Nat),str (bs signs),iv ((i+1:Nat):Int),()) σ)→
     (og (lenStr (str (bs signs))) fun v13=>og (ibin .lss (iv (i:Int)) v13) fun v14=>apick v14
       (og (idxStr (str (bs signs)) (iv (i:Int))) fun v19=>og (ibin .eql v19 (u8v (b.toNat:Nat))) fun v21=>apick v21 (aret (bv true) σ R)
         (og (ibin .add (iv (i:Int)) (iv 1)) fun v16=>R' (u8v (b.toNat:Nat),str (bs signs),v16,()) σ)) (aret (bv false) σ R)):=by
   intro i hi hj R' hR';have hsz:(bs signs).size=signs.length:=Qm _;have hsg:signs.length=8:=rfl;by_cases hlt:i<signs.length
   · have g:(i:Int)<(signs.length:Int):=by omega
     simp only[RR,hsz,g,Q6 hlt,JH,Qh hlt (by omega)];have e1:=List.getElem?_eq_getElem hlt;by_cases q:signs[i]=b
     · have q1:((signs[i].toNat:Nat):Int)=((b.toNat:Nat):Int):=by rw[q]
       simp only[q1,RR];refine Qa ?_;rw[List.contains_iff_mem.2 (List.mem_of_getElem? (e1.trans (congrArg some q)))] at h;exact h
     · have q1:¬((signs[i].toNat:Nat):Int)=((b.toNat:Nat):Int):=fun e=>q (UInt8.toNat_inj.1 (by omega))
       simp only[q1,RR];exact hR' hlt (by rw[e1];exact fun e=>q (Option.some.inj e))
   · have g:¬(i:Int)<(signs.length:Int):=by omega
     simp only[RR,hsz,g];refine Qa ?_;have:signs.contains b=false:=by
       rw[Bool.eq_false_iff];intro hc;obtain ⟨j,hj1,hj2⟩:=List.getElem_of_mem (List.contains_iff_mem.1 hc);exact hj j (by omega) (by rw[List.getElem?_eq_getElem hj1,hj2])
     rw[this] at h;exact h
 have go:lp (X:=Tup [0,3,4]) (fun R1 y1 σ=>og (lenStr y1.2.1) fun v13=>og (ibin .lss y1.2.2.1 v13) fun v14=>apick v14
       (og (idxStr y1.2.1 y1.2.2.1) fun v19=>og (ibin .eql v19 y1.1) fun v21=>apick v21 (aret (bv true) σ R)
         (og (ibin .add y1.2.2.1 (iv 1)) fun v16=>R1 (y1.1,y1.2.1,v16,()) σ)) (aret (bv false) σ R)) (u8v (b.toNat:Nat),str (bs signs),.val (.int .i64 0),()) σ:=by
   refine UV signs.length (fun i=>(u8v (b.toNat:Nat),str (bs signs),iv (i:Int),())) (fun i=>∀j,j<i→signs[j]? ≠some b) rfl (fun j hj=>by omega) ?_;intro i hi hj R' hR';refine loop i hi hj R' fun hlt hne=>hR' hlt ?_ σ (.refl _)
   intro j hj';rcases Nat.lt_or_ge j i with h1|h1
   · exact hj j h1
   · obtain rfl:j=i:=by omega
     exact hne
 by_cases h1:(97:Int)≤((b.toNat:Nat):Int)
 · have g2:¬((b.toNat:Nat):Int)≤122:=by omega
   simp only[JH,h1,g2,RR];exact go
 · simp only[JH,h1,RR]
   exact go
theorem QkH {i:Nat} {Q:Nat→Prop} (h:∀j,j<i→Q j) (hi:Q i):∀j,j<i+1→Q j:=by
 intro j hj;rcases Nat.lt_or_ge j i with h1|h1
 ·exact h j h1
 ·obtain rfl:j=i:=by omega
  exact hi
theorem Qff {s:ByteArray} (hs:s.size≤1099511627776) (h:R (.ret (bv (Qax s))) σ):acall TP QdB [str s] σ R:=by
 refine Qn3 ?_;unfold x96;dsimp only[den,dE,di,tupL,lTup,den2,den3,den4,List.map,den0,den1];unfold Qax at h;refine UV (by8 s).length (fun i=>(str s,iv (i:Int),())) (fun i=>∀j (hj:j<(by8 s).length),j<i→symB (by8 s)[j]=true) rfl (fun j _ hj=>by omega) ?_;intro i hi hj R' hR';have hsz:=Qfd s;by_cases hlt:i<(by8 s).length
 ·have g:(i:Int)<(s.size:Int):=by omega
  have e1:idxStr (str s) (iv (i:Int))=some (u8v ((by8 s)[i].toNat:Nat)):=by
   have:=Q6 hlt
   rwa [Qfc] at this
  simp only[RR,g,e1];refine QqF ?_;cases c:symB (by8 s)[i]
  ·simp only[RR];refine Qa ?_;have:(by8 s).all symB=false:=by
    rw[Bool.eq_false_iff];intro ha;have:=List.all_eq_true.1 ha _ (List.getElem_mem hlt);rw[c] at this;cases this
   rw[this,Bool.and_false] at h;exact h
  ·simp only[Qh hlt (by omega),RR];refine hR' hlt ?_ σ (.refl _);intro j hj' hlt';rcases Nat.lt_or_ge j i with h1|h1
   ·exact hj j hj' h1
   ·obtain rfl:j=i:=by omega
    exact c
 ·have g:¬(i:Int)<(s.size:Int):=by omega
  simp only[RR,g];refine JK ?_;simp only[RR];refine Qa ?_;have:(by8 s).all symB=true:=by
   rw[List.all_eq_true];intro b hb;obtain ⟨j,hj1,rfl⟩:=List.getElem_of_mem hb;exact hj j hj1 (by omega)
  rw[this,Bool.and_true] at h;exact h
def QaX (kind num:Int) (name:ByteArray):Int:=
 if kind=1 then (if numB num then 0 else 3) else if kind=2 then (if inB 0 1 num then 0 else 3) else if kind=3 then (if Qax name then 0 else 5) else 0
theorem Qm6 {kind n:Int} {s:ByteArray} (h:R (.ret (iv (QaX kind n s))) σ):acall TP QdP [iv kind,iv 1,iv 3,iv 2,iv n,str s] σ R:=by
 refine QjJ ?_;unfold x168;dsimp only[den,dE,di,tupL,lTup,den2,den3,den4,List.map,den0,den1];unfold QaX at h;simp only[jn,RR];by_cases c1:kind=1
 ·simp only[c1,RR];rw[if_pos c1] at h;refine Qof ?_;simp only[RR];exact Qa h
 rw[if_neg c1] at h;simp only[c1,RR];by_cases c2:kind=2
 ·simp only[c2,RR];rw[if_pos c2] at h;refine JX ?_;cases c:inB 0 1 n<;>rw[c] at h<;>simp only[RR]<;>exact Qa h
 rw[if_neg c2] at h;simp only[c2,RR];by_cases c3:kind=3
 ·simp only[c3,RR];rw[if_pos c3] at h;refine Qcy ?_;simp only[RR];exact Qa h
 rw[if_neg c3] at h;simp only[c3,RR];exact Qa h
end
section
variable [L:Lam] {σ:AH} {R:AEnd→AH→Prop}
def upW (p:Int→Int) (at_ to:Int):Bool:=if at_<0 then false else if at_=to then true else if p at_<at_ then upW p (p at_) to else false
termination_by (at_+1).toNat
decreasing_by omega
def Q0 (p:Int→Int) (at_:Int):Nat:=if at_<0 then 0 else if p at_<at_ then Q0 p (p at_)+1 else 0
termination_by (at_+1).toNat
decreasing_by omega
theorem Qm7 (p:Int→Int) (n:Nat):∀at_:Int,(at_+1).toNat≤n→Q0 p at_≤n:=by
 induction n with
 |zero=>intro a h;rw[Q0];split<;>omega
 |succ n ih=>
  intro a h;rw[Q0];split
  ·omega
  ·split
   ·have:=ih (p a) (by omega);omega
   ·omega
theorem Qss {f:AV} {p:Int→Int} {n from_ to:Int} (hf:∀(a:Int) (R:AEnd→AH→Prop),0≤a→a<n→R (.ret (iv (p a))) σ→Uo TP f [iv a] σ R) (hp:∀a,0≤a→a<n→p a<a) (hn:from_<n)
  (h:R (.ret (bv (upW p from_ to))) σ):acall TP Qj2 [f,iv from_,iv to] σ R:=by
 refine Qpk ?_;unfold x169;dsimp only[den,dE,di,tupL,lTup,den2,den3,den4,List.map,den0,den1];refine QF (fun k x σ'=>∃a:Int,x=(f,iv to,iv a,())∧σ'=σ∧(a+1).toNat=k∧a<n∧upW p a to=upW p from_ to) (from_+1).toNat ⟨from_,rfl,rfl,rfl,hn,rfl⟩ ?_;rintro k x σ' ⟨a,rfl,rfl,hk,ha,e⟩ R' hR';rw[upW] at e;by_cases c0:0≤a
 ·rw[if_neg (by omega)] at e;by_cases c1:a=to
  ·rw[if_pos c1] at e;rw[←e] at h;simp only[c0,c1,RR];have c0':0≤to:=by omega
   simp only[c0',RR];exact Qa h
  ·rw[if_neg c1,if_pos (hp a c0 ha)] at e;simp only[c0,c1,RR];refine hf a _ c0 ha ?_;simp only[RR];have:=hp a c0 ha;exact hR' _ _ ((p a)+1).toNat σ' (by omega) (.refl _) ⟨p a,rfl,rfl,rfl,by omega,e⟩
 ·rw[if_pos (by omega)] at e;rw[←e] at h;simp only[c0,RR];exact Qa h
def dat (ds:List Dat) (i:Nat):Dat:=ds.getD i default
def par (ds:List Dat) (a:Int):Int:=(dat ds a.toNat).parent
theorem QZ {ds:List Dat} {i:Nat} (h:i<ds.length):ds[i]=dat ds i:=by simp[dat,List.getD,h]
theorem QsT {ds:List Dat} {i:Nat} (h:i<ds.length):dat ds i∈ds:=by rw[←QZ h];exact List.getElem_mem h
def Qee (x:Dat):Bool:=inB 1 4 x.kind&&(decide (x.kind=1)||decide (x.kind=2)||decide (x.num=0))&&(decide (x.kind=3)||decide (x.name=(⟨#[]⟩:ByteArray)))
def datF (ds:List Dat) (i:Nat):Int:=
 if Qee (dat ds i)=false then 1
 else if QaX (dat ds i).kind (dat ds i).num (dat ds i).name≠0 then QaX (dat ds i).kind (dat ds i).num (dat ds i).name
 else if i=0 then (if (dat ds i).parent≠ -1 then 3 else 0)
 else if inB 0 ((i:Int) - 1) (dat ds i).parent=false then 3
 else if (dat ds (dat ds i).parent.toNat).kind≠4∨upW (par ds) ((i:Int) - 1) (dat ds i).parent=false then 1
 else if 12<Q0 (par ds) i then 2 else 0
def Qal (f:Nat→Int):Nat→Nat→Int
 |_,0=>0
 |i,n+1=>if f i≠0 then f i else Qal f (i+1) n
theorem Qiz {f:Nat→Int}:∀(n i:Nat),(∀j,i≤j→j<i+n→f j=0)→Qal f i n=0:=by
 intro n
 induction n with
 |zero=>intro i _;rfl
 |succ n ih=>
  intro i h;simp only[Qal];rw[if_neg (by rw[h i (Nat.le_refl _) (by omega)];simp)];exact ih _ fun j h1 h2=>h j (by omega) (by omega)
theorem QkI {f:Nat→Int} {k:Nat} (hk:f k≠0):∀(n i:Nat),i≤k→k<i+n→(∀j,i≤j→j<k→f j=0)→Qal f i n=f k:=by
 intro n
 induction n with
 |zero=>intro i h1 h2;omega
 |succ n ih=>
  intro i h1 h2 h;simp only[Qal];by_cases e:i=k
  ·subst e;rw[if_pos hk]
  ·rw[if_neg (by rw[h i (Nat.le_refl _) (by omega)];simp)];exact ih _ (by omega) (by omega) fun j h1 h2=>h j (by omega) h2
theorem Qbt {f:Nat→Int}:∀(n i:Nat),Qal f i n=0→∀j,i≤j→j<i+n→f j=0:=by
 intro n
 induction n with
 |zero=>intro i _ j h1 h2;omega
 |succ n ih=>
  intro i h j h1 h2;simp only[Qal] at h;split at h
  ·rename_i hc;exact absurd h hc
  ·rename_i hc;by_cases e:j=i
   ·subst e;simpa using hc
   ·exact ih _ h j (by omega) (by omega)
def JM (ds:List Dat):Int:=if inB 1 80 (ds.length:Int) then Qal (datF ds) 0 ds.length else 2
def Pars (ds:List Dat) (i:Nat):Prop:=∀a:Int,0≤a→a<i→par ds a<a∧ -1≤par ds a
theorem Qwi {ds:List Dat} {i:Nat} (h:datF ds i=0):par ds (i:Int)<i∧ -1≤par ds (i:Int):=by
 unfold datF at h;have e:((i:Int)).toNat=i:=by omega
 unfold par;rw[e];split at h
 ·cases h
 split at h
 ·rename_i hk;exact absurd h hk
 split at h
 ·rename_i h0;split at h
  ·cases h
  ·rename_i h1;omega
 ·rename_i h0;split at h
  ·cases h
  ·rename_i h1;have:inB 0 ((i:Int) - 1) (dat ds i).parent=true:=by simpa using h1
   have:=Js.1 this;omega
theorem Qlg {ds:List Dat} {i:Nat} (h:∀j,j<i→datF ds j=0):Pars ds i:=by
 intro a h0 h1;have:=Qwi (h a.toNat (by omega));rw[show ((a.toNat:Nat):Int)=a by omega] at this;exact this
def sD (ds:List Dat):Prop:=∀d,d∈ds→d.name.size≤1099511627776
theorem QjN {ds:List Dat} {a:Int} (h0:0≤a) (h1:a<ds.length) (h:R (.ret (iv (par ds a))) σ):acall TP Qcp [iv a,.rop [roD ds] 0] σ R:=by
 refine QgL ?_;unfold x170;dsimp only[den,dE,di,List.map,den0,den1];have hi:a.toNat<ds.length:=by omega
 simp only[Qg6,Qg7 h0 hi Ql,RR,RT];rw[QZ hi];exact Qa h
theorem Qst {ds:List Dat} {i:Nat} (hi:i<ds.length) (hl:ds.length≤1000) (hP:Pars ds (i+1)) (h:R (.ret (iv (Q0 (par ds) i:Nat))) σ):acall TP QeV [roD ds,iv (i:Int)] σ R:=by
 refine Qpl ?_;unfold x171;dsimp only[den,dE,di,tupL,lTup,den2,den3,den4,List.map,den0,den1];refine QF (fun k x σ'=>∃(a:Int) (c:Nat),x=(roD ds,iv a,iv (c:Nat),())∧σ'=σ∧(a+1).toNat=k∧a≤i∧c+Q0 (par ds) a=Q0 (par ds) i) ((i:Int)+1).toNat ⟨i,0,rfl,rfl,rfl,by omega,by omega⟩ ?_;rintro k x σ' ⟨a,c,rfl,rfl,hk,ha,e⟩ R' hR';rw[Q0] at e;have hd:=Qm7 (par ds) (i+1) i (by omega);by_cases c0:0≤a
 ·have hp:=hP a c0 (by omega);rw[if_neg (by omega),if_pos hp.1] at e;have hi':a.toNat<ds.length:=by omega
  have e1:ibin .add (iv (c:Nat)) (iv 1)=some (iv ((c+1:Nat):Int)):=by rw[Jk (by omega) (by omega)];rfl
  simp only[c0,e1,Qg7 c0 hi' Ql,RR,RT];rw[QZ hi'];exact hR' _ _ (par ds a+1).toNat σ' (by omega) (.refl _) ⟨par ds a,c+1,rfl,rfl,rfl,by omega,by omega⟩
 ·rw[if_pos (by omega)] at e;simp only[c0,RR];rw[Nat.add_zero] at e;rw[e];exact Qa h
theorem QrC (x:Dat):(!inB 1 4 x.kind|| !decide (x.num=0)&& !decide (x.kind=1)&& !decide (x.kind=2)|| !decide (x.name={data:=#[]})&& !decide (x.kind=3))= !Qee x:=by
 unfold Qee;generalize inB 1 4 x.kind=a;generalize decide (x.num=0)=b;generalize decide (x.kind=1)=c;generalize decide (x.kind=2)=d;generalize decide (x.kind=3)=e;generalize decide (x.name={data:=#[]})=f;cases a<;>cases b<;>cases c<;>cases d<;>cases e<;>cases f<;>rfl
theorem QlS {ds:List Dat} {i:Nat} (hi:i<ds.length) (hl:ds.length≤80) (hP:Pars ds i) (h:R (.ret (iv (datF ds i))) σ):acall TP Qdl [roD ds,iv (i:Int)] σ R:=by
 refine Qiy ?_;unfold x136;dsimp only[den,dE,di,tupL,lTup,den2,den3,den4,List.map,den0,den1];refine Qan rfl ?_;simp only[Qg6,Qq hi Ql,RR,RT];refine QtE rfl ?_;rw[QZ hi];simp only[RR,RT];refine JX ?_;simp only[RR,RT,RG,QaA];unfold datF at h;refine QI (fun c1=>?_) (fun c1=>?_)
 ·rw[QrC] at c1;rw[if_pos (by simpa using c1)] at h;exact Qa h
 rw[QrC] at c1;have c1:Qee (dat ds i)=true:=by simpa using c1
 rw[if_neg (by rw[c1];simp)] at h;refine Qm6 ?_;simp only[RR];by_cases c2:QaX (dat ds i).kind (dat ds i).num (dat ds i).name=0
 case neg=>
  rw[if_pos c2] at h;simp only[c2,RR];exact Qa h
 rw[if_neg (by simpa using c2)] at h;simp only[c2,RR];by_cases c3:i=0
 ·have g:((i:Int)=0):=by omega
  rw[if_pos c3] at h;simp only[g,RR];by_cases c4:(dat ds i).parent= -1
  ·rw[if_neg (by simpa using c4)] at h;simp only[c4,RR];exact Qa h
  ·rw[if_pos c4] at h;simp only[c4,RR];exact Qa h
 have g:¬((i:Int)=0):=by omega
 rw[if_neg c3] at h;have hs:ibin .sub (iv (i:Int)) (iv 1)=some (iv ((i:Int) - 1)):=QU (by omega) (by omega);simp only[g,hs,RR];refine JX ?_;simp only[RR];refine QI (fun c4=>?_) (fun c4=>?_)
 ·rw[if_pos (by simpa using c4)] at h;exact Qa h
 have c4:inB 0 ((i:Int) - 1) (dat ds i).parent=true:=by simpa using c4
 rw[if_neg (by rw[c4];simp)] at h;obtain ⟨p0,p1⟩:=Js.1 c4;have hpi:(dat ds i).parent.toNat<ds.length:=by omega
 have hPar:Pars ds (i+1):=by
  intro a h0 h1;by_cases e:a<(i:Int)
  ·exact hP a h0 e
  ·obtain rfl:a=(i:Int):=by omega
   have:par ds (i:Int)=(dat ds i).parent:=by unfold par;rw[show ((i:Int)).toNat=i by omega]
   rw[this];omega
 have tail:¬((dat ds (dat ds i).parent.toNat).kind≠4∨upW (par ds) ((i:Int) - 1) (dat ds i).parent=false)→acall TP QeV [roD ds,iv (i:Int)] σ (onr (fun v83 σ=>og (ibin .gtr v83 (iv 12)) fun v84=>apick v84 (aret (iv 2) σ R) (aret (iv 0) σ R)) (fun v σ=>apan v σ R)):=by
  intro hc;rw[if_neg hc] at h;refine Qst hi (by omega) hPar ?_;simp only[RR];by_cases c6:12<Q0 (par ds) (i:Int)
  ·have g6:(12:Int)<((Q0 (par ds) (i:Int):Nat):Int):=by omega
   rw[if_pos c6] at h;simp only[g6,RR];exact Qa h
  ·have g6:¬(12:Int)<((Q0 (par ds) (i:Int):Nat):Int):=by omega
   rw[if_neg c6] at h;simp only[g6,RR];exact Qa h
 simp only[Qg6,jn,Qg7 p0 hpi Ql,RR,RT];rw[QZ hpi];refine QgJ (fun c5=>?_) (fun c5=>?_)
 ·have c5:(dat ds (dat ds i).parent.toNat).kind≠4:=by simpa using c5
  rw[if_pos (.inl c5)] at h;exact Qa h
 have c5:(dat ds (dat ds i).parent.toNat).kind=4:=by simpa using c5
 refine Qss (p:=par ds) (n:=(i:Int)) (fun a R h0 h1 h=>Qin (QjN h0 (by omega) h)) (fun a h0 h1=>(hP a h0 h1).1) (by omega) ?_;simp only[RR];refine QI (fun c6=>?_) (fun c6=>?_)
 ·have c6:upW (par ds) ((i:Int) - 1) (dat ds i).parent=false:=by simpa using c6
  rw[if_pos (.inr c6)] at h;exact Qa h
 ·have c6:upW (par ds) ((i:Int) - 1) (dat ds i).parent=true:=by simpa using c6
  exact tail (by rw[c6,c5];simp)
theorem Qfg {ds:List Dat} (h:R (.ret (iv (JM ds))) σ):acall TP QdN [roD ds] σ R:=by
 refine QjI ?_;unfold x103;dsimp only[den,dE,di,tupL,lTup,den2,den3,den4,List.map,den0,den1];unfold JM at h;simp only[RR,RT];refine JX ?_;simp only[RR];refine QI (fun c1=>?_) (fun c1=>?_)
 ·have c1:inB 1 80 (ds.length:Int)=false:=by simpa using c1
  rw[if_neg (by rw[c1];simp)] at h;exact Qa h
 have c1:inB 1 80 (ds.length:Int)=true:=by simpa using c1
 rw[if_pos c1] at h;have hl:=Js.1 c1;refine UV ds.length (fun i=>(roD ds,iv (ds.length:Int),iv (i:Int),())) (fun i=>∀j,j<i→datF ds j=0) rfl (fun j hj=>by omega) ?_;intro i hi hj R' hR';by_cases hlt:i<ds.length
 ·have g:(i:Int)<(ds.length:Int):=by omega
  simp only[g,RR];refine QlS hlt (by omega) (Qlg hj) ?_;simp only[RR];by_cases c2:datF ds i=0
  ·simp only[c2,Qh hlt (by omega),RR];exact hR' hlt (QkH hj c2) σ (.refl _)
  ·simp only[c2,RR];rw[QkI c2 ds.length 0 (Nat.zero_le _) (by omega) (fun j _ h2=>hj j h2)] at h;exact Qa h
 ·have g:¬(i:Int)<(ds.length:Int):=by omega
  obtain rfl:i=ds.length:=by omega
  simp only[g,RR];rw[Qiz _ _ (fun j _ h2=>hj j (by omega))] at h;exact Qa h
end
section
variable [L:Lam] {σ:AH} {R:AEnd→AH→Prop}
theorem QqG {x:Dat} (h:R (.ret (bv (Qee x))) σ):acall TP Qhh [.rop (Qc x) 0] σ R:=by
 refine QmT ?_;unfold x129;dsimp only[den,dE,di,List.map,den0,den1];simp only[RR,RT,RG];refine JK ?_;simp only[RR,RT,RG,Jy];refine Qa ?_;unfold Qee at h;exact h
theorem QqH {ds:List Dat} {i:Nat} (hi:i<ds.length) (hl:ds.length≤1000) (hP:Pars ds i) (h:R (.ret (bv (upW (par ds) ((i:Int) - 1) (dat ds i).parent&&decide ((dat ds (dat ds i).parent.toNat).kind=4)))) σ):acall TP Qhi [roD ds,iv (i:Int)] σ R:=by
 refine QmU ?_;unfold x131;dsimp only[den,dE,di,tupL,lTup,den2,den3,den4,List.map,den0,den1];simp only[QU (a:=(i:Int)) (b:=1) (by omega) (by omega),RR];refine QF (fun k x σ'=>∃a:Int,x=(roD ds,iv (i:Int),iv a,())∧σ'=σ∧(a+1).toNat=k∧a<i∧upW (par ds) a (dat ds i).parent=upW (par ds) ((i:Int) - 1) (dat ds i).parent) ((i:Int) - 1+1).toNat ⟨(i:Int) - 1,rfl,rfl,rfl,by omega,rfl⟩ ?_;rintro k x σ' ⟨a,rfl,rfl,hk,ha,e⟩ R' hR';rw[upW] at e;by_cases c0:0≤a
 ·rw[if_neg (by omega)] at e;have ha':a.toNat<ds.length:=by omega
  simp only[c0,Qq hi Ql,Qg7 c0 ha' Ql,RR,RT];rw[QZ hi,QZ ha'];by_cases c1:a=(dat ds i).parent
  ·rw[if_pos c1] at e;rw[←e,Bool.true_and,←c1] at h;simp only[c1,RR];rw[←c1];exact Qa h
  ·rw[if_neg c1,if_pos (hP a c0 (by omega)).1] at e;simp only[c1,RR];have:=(hP a c0 (by omega)).1;exact hR' _ _ (par ds a+1).toNat σ' (by omega) (.refl _) ⟨par ds a,rfl,rfl,rfl,by omega,e⟩
 ·rw[if_pos (by omega)] at e;rw[←e,Bool.false_and] at h;simp only[c0,RR];exact Qa h
theorem QbC {ds:List Dat} {i:Nat} (hi:i<ds.length) (hl:ds.length≤90) (hP:Pars ds (i+1)) (h:R (.ret (iv (Q0 (par ds) i:Nat))) σ):acall TP Qhj [roD ds,iv (i:Int)] σ R:=by
 refine QmV ?_;unfold x132;dsimp only[den,dE,di,tupL,lTup,den2,den3,den4,List.map,den0,den1];refine QF (fun k x σ'=>∃(a:Int) (c:Nat),x=(roD ds,iv a,iv (c:Nat),())∧σ'=σ∧(a+1).toNat=k∧a≤i∧c+Q0 (par ds) a=Q0 (par ds) i) ((i:Int)+1).toNat ⟨i,0,rfl,rfl,rfl,by omega,by omega⟩ ?_;rintro k x σ' ⟨a,c,rfl,rfl,hk,ha,e⟩ R' hR';rw[Q0] at e;have hd:=Qm7 (par ds) (i+1) i (by omega);by_cases c0:0≤a
 ·have hp:=hP a c0 (by omega);rw[if_neg (by omega),if_pos hp.1] at e;have hi':a.toNat<ds.length:=by omega
  have e1:ibin .add (iv (c:Nat)) (iv 1)=some (iv ((c+1:Nat):Int)):=by rw[Jk (by omega) (by omega)];rfl
  have g:((c:Nat):Int)<100:=by omega
  simp only[c0,g,e1,Qg7 c0 hi' Ql,RR,RT];rw[QZ hi'];exact hR' _ _ (par ds a+1).toNat σ' (by omega) (.refl _) ⟨par ds a,c+1,rfl,rfl,rfl,by omega,by omega⟩
 ·rw[if_pos (by omega)] at e;simp only[c0,RR];rw[Nat.add_zero] at e;rw[e];exact Qa h
def kB2 (x:Dat):Bool:=(decide (x.kind=1)&& !numB x.num)||(decide (x.kind=2)&& !inB 0 1 x.num)
def kB3 (x:Dat):Bool:=decide (x.kind=3)&& !Qax x.name
theorem Qzt {x:Dat} (h:kB2 x=true):QaX x.kind x.num x.name=3:=by
 unfold kB2 at h;unfold QaX;by_cases c1:x.kind=1
 ·rw[if_pos c1];cases c:numB x.num
  ·rfl
  ·simp[c1,c] at h
 ·rw[if_neg c1];by_cases c2:x.kind=2
  ·rw[if_pos c2];cases c:inB 0 1 x.num
   ·rfl
   ·simp[c2,c] at h
  ·simp[c1,c2] at h
theorem Qzu {x:Dat} (h:kB3 x=true):QaX x.kind x.num x.name=5:=by
 unfold kB3 at h;simp only[Bool.and_eq_true,decide_eq_true_eq,Bool.not_eq_true'] at h;unfold QaX;rw[if_neg (by omega),if_neg (by omega),if_pos h.1,h.2];rfl
theorem Qzv {x:Dat} (h:kB2 x=false) (h3:kB3 x=false):QaX x.kind x.num x.name=0:=by
 unfold kB2 at h;unfold kB3 at h3;unfold QaX;by_cases c1:x.kind=1
 ·rw[if_pos c1];cases c:numB x.num
  ·simp[c1,c] at h
  ·rfl
 ·rw[if_neg c1];by_cases c2:x.kind=2
  ·rw[if_pos c2];cases c:inB 0 1 x.num
   ·simp[c2,c] at h
   ·rfl
  ·rw[if_neg c2];by_cases c3:x.kind=3
   ·rw[if_pos c3];cases c:Qax x.name
    ·simp[c3,c] at h3
    ·rfl
   ·rw[if_neg c3]
theorem QhY {ds:List Dat} (hs:sD ds) (h:R (.ret (iv (JM ds))) σ):acall TP QfX [roD ds] σ R:=by
 refine QlI ?_;unfold x97;dsimp only[den,dE,di,tupL,lTup,den2,den3,den4,List.map,den0,den1];unfold JM at h;simp only[RR,RT,RG];refine QI (fun c1=>?_) (fun c1=>?_)
 ·have c1:inB 1 80 (ds.length:Int)=false:=by
   simp only[Bool.or_eq_true,decide_eq_true_eq] at c1;rw[Bool.eq_false_iff];intro hc;have:=Js.1 hc;omega
  rw[if_neg (by rw[c1];simp)] at h;exact Qa h
 have hl:1≤ds.length∧ds.length≤80:=by
  simp only[Bool.or_eq_false_iff,decide_eq_false_iff_not] at c1;omega
 rw[if_pos (Js.2 (by omega))] at h;refine UV ds.length (fun i=>(roD ds,iv (i:Int),())) (fun i=>∀j,j<i→datF ds j=0) rfl (fun j hj=>by omega) ?_;intro i hi hj R' hR';by_cases hlt:i<ds.length
 case neg=>
  have g:¬(i:Int)<(ds.length:Int):=by omega
  obtain rfl:i=ds.length:=by omega
  simp only[g,RR,RT];rw[Qiz _ _ (fun j _ h2=>hj j (by omega))] at h;exact Qa h
 have g:(i:Int)<(ds.length:Int):=by omega
 have bad:∀v:Int,datF ds i=v→v≠0→R (.ret (iv v)) σ:=fun v e hv=>by
  rw[QkI (by rw[e];exact hv) ds.length 0 (Nat.zero_le _) (by omega) (fun j _ h2=>hj j h2),e] at h;exact h
 have good:datF ds i=0→R' (roD ds,iv ((i+1:Nat):Int),()) σ:=fun e=>hR' hlt (QkH hj e) σ (.refl _)
 have hP:=Qlg hj;simp only[g,Qq hlt Ql,RR,RT];rw[QZ hlt];refine QqG ?_;simp only[RR];refine QI (fun c2=>?_) (fun c2=>?_)
 ·have c2:Qee (dat ds i)=false:=by simpa using c2
  exact Qa (bad 1 (by unfold datF;rw[if_pos c2]) (by decide))
 have c2:Qee (dat ds i)=true:=by simpa using c2
 refine Qd9 (fun x σ'=>σ'=σ∧x=(roD ds,iv (i:Int),.rop (Qc (dat ds i)) 0,bv (kB2 (dat ds i)),())) ?_ ?_
 rotate_left
 ·intro k hk;unfold kB2 at hk;simp only[RR,RT,RG];by_cases k1:(dat ds i).kind=1
  ·have k2:¬(dat ds i).kind=2:=by omega
   simp only[k1,RR,RT];refine QkG ?_;simp only[k1,RR,RT,RG];have k3:decide ((1:Int)=2)=false:=rfl;cases cn:numB (dat ds i).num
   ·simp only[RR,k3];exact hk _ _ ⟨rfl,by simp[k1,cn]<;>rfl⟩
   ·simp only[RR,k3];exact hk _ _ ⟨rfl,by simp[k1,k2,cn]<;>rfl⟩
  ·simp only[k1,RR,RT,RG];refine QgJ (fun k2=>?_) (fun k2=>?_)
   ·simp only[k2,RR];refine JK ?_;simp only[RR];have k2:(dat ds i).kind=2:=by simpa using k2
    exact hk _ _ ⟨rfl,by simp[k2]<;>rfl⟩
   ·have k2:¬(dat ds i).kind=2:=by simpa using k2
    exact hk _ _ ⟨rfl,by simp[k1,k2]<;>rfl⟩
 rintro x σ' ⟨rfl,rfl⟩;refine QI (fun c3=>?_) (fun c3=>?_)
 ·have e:=Qzt c3;exact Qa (bad 3 (by unfold datF;rw[if_neg (by rw[c2];simp),if_pos (by rw[e];decide),e]) (by decide))
 refine Qd9 (fun x σ''=>σ''=σ'∧x=(roD ds,iv (i:Int),.rop (Qc (dat ds i)) 0,bv (kB3 (dat ds i)),())) ?_ ?_
 rotate_left
 ·intro k hk;unfold kB3 at hk;simp only[RR,RT,RG];refine QgJ (fun k1=>?_) (fun k1=>?_)
  ·simp only[k1,RR];refine Qff (hs _ (QsT hlt)) ?_;simp only[RR];exact hk _ _ ⟨rfl,by rw[k1,Bool.true_and];rfl⟩
  ·exact hk _ _ ⟨rfl,by rw[k1,Bool.false_and];rfl⟩
 rintro x σ ⟨rfl,rfl⟩;refine QI (fun c4=>?_) (fun c4=>?_)
 ·have e:=Qzu c4;exact Qa (bad 5 (by unfold datF;rw[if_neg (by rw[c2];simp),if_pos (by rw[e];decide),e]) (by decide))
 have ek:=Qzv c3 c4;have hd:datF ds i=if i=0 then (if (dat ds i).parent≠ -1 then 3 else 0) else if inB 0 ((i:Int) - 1) (dat ds i).parent=false then 3
   else if (dat ds (dat ds i).parent.toNat).kind≠4∨upW (par ds) ((i:Int) - 1) (dat ds i).parent=false then 1 else if 12<Q0 (par ds) i then 2 else 0:=by
  unfold datF;rw[if_neg (by rw[c2];simp),if_neg (by rw[ek];simp)]
 have hsub:ibin .sub (iv (i:Int)) (iv 1)=some (iv ((i:Int) - 1)):=QU (by omega) (by omega);refine Qd9 (fun x σ'=>σ'=σ∧x=(roD ds,iv (i:Int),bv ((decide (i=0)&& !decide ((dat ds i).parent= -1))||(!decide (i=0)&& !inB 0 ((i:Int) - 1) (dat ds i).parent)),())) ?_ ?_
 rotate_left
 ·intro k hk;simp only[RR,RT,RG];by_cases i0:i=0
  ·have g0:(i:Int)=0:=by omega
   have g1:¬(0:Int)<(i:Int):=by omega
   simp only[g0,RR,RT,RG];cases cp:decide ((dat ds i).parent= -1)
   ·simp only[RR];exact hk _ _ ⟨rfl,by subst i0;simp[cp]<;>rfl⟩
   ·simp only[RR];have g3:decide ((0:Int)<0)=false:=rfl;simp only[g3,RR];exact hk _ _ ⟨rfl,by subst i0;simp[cp]<;>rfl⟩
  ·have g0:¬(i:Int)=0:=by omega
   have g1:(0:Int)<(i:Int):=by omega
   simp only[g0,g1,hsub,RR,RT,RG];refine JK ?_;simp only[RR];exact hk _ _ ⟨rfl,by simp[i0]<;>rfl⟩
 rintro x σ' ⟨rfl,rfl⟩;refine QI (fun c5=>?_) (fun c5=>?_)
 ·refine Qa (bad 3 ?_ (by decide));rw[hd];by_cases i0:i=0
  ·rw[if_pos i0];rw[if_pos];simpa[i0] using c5
  ·rw[if_neg i0];rw[if_pos];simpa[i0] using c5
 by_cases i0:i=0
 ·rw[if_pos i0] at hd;have hp:(dat ds i).parent= -1:=by simpa[i0] using c5
  rw[if_neg (by simpa using hp)] at hd;have g1:¬(0:Int)<(i:Int):=by omega
  have hPar:Pars ds (i+1):=Qlg (QkH hj hd);simp only[jn,g1,RR,RT];refine QbC hlt (by omega) hPar ?_;have hdeep:=Qm7 (par ds) 1 (i:Int) (by omega);have g6:¬(12:Int)<((Q0 (par ds) (i:Int):Nat):Int):=by omega
  simp only[g6,Qh hlt (by omega),RR];exact good hd
 rw[if_neg i0] at hd;have c5:inB 0 ((i:Int) - 1) (dat ds i).parent=true:=by simpa[i0] using c5
 obtain ⟨p0,p1⟩:=Js.1 c5;rw[if_neg (by rw[c5];simp)] at hd;have g1:(0:Int)<(i:Int):=by omega
 have hPar:Pars ds (i+1):=by
  intro a h0 h1;by_cases e:a<(i:Int)
  ·exact hP a h0 e
  ·obtain rfl:a=(i:Int):=by omega
   have:par ds (i:Int)=(dat ds i).parent:=by unfold par;rw[show ((i:Int)).toNat=i by omega]
   rw[this];omega
 simp only[jn,g1,RR,RT];refine QqH hlt (by omega) hP ?_;simp only[RR];refine QI (fun c6=>?_) (fun c6=>?_)
 ·refine Qa (bad 1 ?_ (by decide));rw[hd,if_pos];cases cu:upW (par ds) ((i:Int) - 1) (dat ds i).parent
  ·exact .inr rfl
  ·rw[cu] at c6;exact .inl (by simpa using c6)
 have c6:upW (par ds) ((i:Int) - 1) (dat ds i).parent=true∧(dat ds (dat ds i).parent.toNat).kind=4:=by simpa using c6
 rw[if_neg (by rw[c6.1,c6.2];simp)] at hd;refine QbC hlt (by omega) hPar ?_;simp only[RR];by_cases c7:12<Q0 (par ds) (i:Int)
 ·have g6:(12:Int)<((Q0 (par ds) (i:Int):Nat):Int):=by omega
  rw[if_pos c7] at hd;simp only[g6,RR];exact Qa (bad 2 hd (by decide))
 ·have g6:¬(12:Int)<((Q0 (par ds) (i:Int):Nat):Int):=by omega
  rw[if_neg c7] at hd;simp only[g6,Qh hlt (by omega),RR];exact good hd
end
section
variable [L:Lam] {σ:AH} {R:AEnd→AH→Prop}
theorem J0 {φ n:Nat} {zs cs:List AV} (hφ:σ φ=none) (hz:zs.length=n) (hc:cs.length=n) (h1:∀x,x∈cs→x.one=true) (h:R (.ret (.agg cs)) σ):
  sto n (.ptr φ 0 0 0) (.agg cs) (σ.set φ ⟨0,n,[zs]⟩) fun σ=>og (lodA n (.ptr φ 0 0 0) σ) fun r=>aret r σ R:=by
 refine QH (es:=[zs]) (cs:=cs) (AH.set_same ..) (by simp) (by simpa using hz) rfl hc h1 ?_;simp only[List.set_cons_zero,AH.set_set];have e:=UG (σ:=σ.set φ ⟨0,n,[cs]⟩) (φ:=φ) (st:=0) (i:=0) (n:=n) (cs:=cs) (AH.set_same ..) rfl rfl hc;simp only[e,RR];exact Uk (QsR (.refl _) hφ) h
theorem one2 {a b:AV} (ha:a.one=true) (hb:b.one=true):∀x,x∈[a,b]→x.one=true:=by
 intro x hx;simp only[List.mem_cons,List.not_mem_nil,or_false] at hx;rcases hx with rfl|rfl<;>assumption
abbrev roN (xs:List Int):AV:= .ro (xs.map fun x=>[iv x])
theorem Qzw {xs:List Int} {k:Nat} (hk:k≤xs.length):slc 1 (roN xs) (some (iv (k:Nat))) none none σ=some (roN (xs.drop k)):=by
 obtain ⟨b,h1,h2⟩:=Cs.slc (Cs.ro iv σ xs) (lo:=some (iv (k:Nat))) (hi:=none) (l:=k) (k:=xs.length) (Qb7 _ _) rfl hk (Nat.le_refl _);have e:abd (some (iv (k:Nat))) 0=some k:=Qb7 _ _;have e2:abd none ((xs.map fun x=>[iv x]).length)=some (xs.map fun x=>[iv x]).length:=rfl;simp only[slc,e,e2];rw[if_pos ⟨by simpa using hk,Nat.le_refl _,Nat.le_refl _,by simp,by rw[List.all_eq_true];intro c hc;obtain ⟨x,_,rfl⟩:=List.mem_map.1 hc;rfl⟩];rw[List.take_length,←List.map_drop]
theorem QkJ {f:AV} {xs:List Int} {p:Int→Bool} (hl:xs.length≤1099511627776) (hf:∀(x:Int) (R:AEnd→AH→Prop),R (.ret (bv (p x))) σ→Uo TP f [iv x] σ R)
  (h:∀v:Int,decide (0≤v)=xs.any p→R (.ret (iv v)) σ):acall TP QcF [roN xs,f] σ R:=by
 refine QhQ ?_;unfold x134;dsimp only[den,dE,di,tupL,lTup,den2,den3,den4,List.map,den0,den1];have hS:=Cs.ro iv σ xs;simp only[hS.len,RR];refine UV xs.length (fun i=>(roN xs,f,iv (xs.length:Int),iv (i:Int),())) (fun i=>∀j (hj:j<xs.length),j<i→p xs[j]=false) rfl (fun j _ hj=>by omega) ?_;intro i hi hj R' hR';by_cases hlt:i<xs.length
 ·have g:(i:Int)<(xs.length:Int):=by omega
  obtain ⟨q,q1,q2,_⟩:=hS.at hlt;simp only[g,q1,q2,RR];refine hf _ _ ?_;simp only[RR];cases c:p xs[i]
  ·simp only[Qh hlt (by omega),RR];refine hR' hlt (fun j hj' hlt'=>?_) σ (.refl _);rcases Nat.lt_or_ge j i with h1|h1
   ·exact hj j hj' h1
   ·obtain rfl:j=i:=by omega
    exact c
  ·simp only[RR];refine Qa (h _ ?_);rw[decide_eq_true (by omega),Eq.comm,List.any_eq_true];exact ⟨_,List.getElem_mem hlt,c⟩
 ·have g:¬(i:Int)<(xs.length:Int):=by omega
  simp only[g,RR];refine Qa (h _ ?_);rw[decide_eq_false (by omega),Eq.comm,List.any_eq_false];intro x hx;obtain ⟨j,hj1,rfl⟩:=List.getElem_of_mem hx;rw[hj j hj1 (by omega)];simp
theorem Qb8 {f:AV} {xs:List Int} {p:Int→Bool} (hl:xs.length≤1099511627776) (hf:∀(x:Int) (R:AEnd→AH→Prop),R (.ret (bv (p x))) σ→Uo TP f [iv x] σ R)
  (h:R (.ret (bv (xs.any p))) σ):acall TP Qbn [roN xs,f] σ R:=by
 refine Qe2 ?_;unfold x100;dsimp only[den,dE,di,List.map,den0,den1];refine QkJ hl hf fun v hv=>?_
 simp only[RR,hv];exact Qa h
def QJ (k:Int):Nat:=if k=4∨k=5∨k=6∨k=10∨k=11 then 1 else if k=2∨k=14 then 2 else if k=16 then 3 else if k=15 then 4 else 0
def JN (k:Int):Bool:=decide (k=3)||decide (k=8)||decide (k=9)
def Uh (k:Int):Bool:=decide (k=1)||decide (k=13)
theorem QiA (k:Int):QJ k≤4:=by unfold QJ;repeat' split<;>try omega
theorem Qqb {k:Int} (h:R (.ret (iv (QJ k:Nat))) σ):
   jn (X:=Tup [3,4]) (fun x1 σ=>
     apick x1.2.1 (aret (iv 1) σ R) (jn (X:=Tup [3,10]) (fun x2 σ=>apick x2.2.1 (aret (iv 2) σ R) (og (ibin .eql x2.1 (iv 16)) fun v14=>apick v14 (aret (iv 3) σ R) (og (ibin .eql x2.1 (iv 15)) fun v16=>apick v16 (aret (iv 4) σ R) (aret (iv 0) σ R)))) fun k2=>
         og (ibin .eql x1.1 (iv 2)) fun v11=>apick v11 (k2 (x1.1,v11,()) σ) (og (ibin .eql x1.1 (iv 14)) fun v12=>k2 (x1.1,v12,()) σ))) fun k1=>
   og (ibin .eql (iv k) (iv 4)) fun v5=>apick v5 (k1 (iv k,v5,()) σ) (og (ibin .eql (iv k) (iv 5)) fun v6=>apick v6 (k1 (iv k,v6,()) σ) (og (ibin .eql (iv k) (iv 6)) fun v7=>apick v7 (k1 (iv k,v7,()) σ) (
         og (ibin .eql (iv k) (iv 10)) fun v8=>apick v8 (k1 (iv k,v8,()) σ) (og (ibin .eql (iv k) (iv 11)) fun v9=>k1 (iv k,v9,()) σ)))):=by
 unfold QJ at h;simp only[jn,RR];by_cases c1:k=4
 · subst c1;simp only[RR];exact Qa h
 by_cases c2:k=5
 · subst c2;simp only[RR];exact Qa h
 by_cases c3:k=6
 · subst c3;simp only[RR];exact Qa h
 by_cases c4:k=10
 · subst c4;simp only[RR];exact Qa h
 by_cases c5:k=11
 · subst c5;simp only[RR];exact Qa h
 rw[if_neg (by omega)] at h;simp only[c1,c2,c3,c4,c5,RR];by_cases c6:k=2
 · subst c6;simp only[RR];exact Qa h
 by_cases c7:k=14
 · subst c7;simp only[RR];exact Qa h
 rw[if_neg (by omega)] at h;simp only[c6,c7,RR];by_cases c8:k=16
 · subst c8;simp only[RR];exact Qa h
 rw[if_neg c8] at h;by_cases c9:k=15
 · subst c9;simp only[RR];exact Qa h
 rw[if_neg c9] at h;simp only[c8,c9,RR];exact Qa h
theorem Qju {k:Int} (h:R (.ret (iv (QJ k:Nat))) σ):acall TP Qha [iv k] σ R:=QmK (Qqb h)
theorem Qjv {k:Int} (h:R (.ret (iv (QJ k:Nat))) σ):acall TP Qg9 [iv k] σ R:=QmI (Qqb h)
theorem QcT {k:Int} (h:R (.ret (bv (JN k))) σ):acall TP QfP [iv k] σ R:=by
 refine Qlz ?_;unfold x49;dsimp only[den,dE,di,List.map,den0,den1];simp only[RR,RG];exact Qa h
theorem QcU {k:Int} (h:R (.ret (bv (JN k))) σ):acall TP QfN [iv k] σ R:=by
 refine Qlw ?_;unfold x40;dsimp only[den,dE,di,List.map,den0,den1];simp only[RR,RG];exact Qa h
theorem QdI {k:Int} (h:R (.ret (bv (Uh k))) σ):acall TP QcR [iv k] σ R:=by
 refine QmJ ?_;unfold x50;dsimp only[den,dE,di,List.map,den0,den1];simp only[RR,RG];exact Qa h
theorem UY {k:Int} (h:R (.ret (bv (Uh k))) σ):acall TP QfO [iv k] σ R:=by
 refine Qlx ?_;unfold x41;dsimp only[den,dE,di,List.map,den0,den1];simp only[RR,RG];exact Qa h
def opL (o:OpD):List Int:=[o.a,o.b,o.c,o.d]
def opF1 (o:OpD):Bool:= !inB 1 16 o.kind||((opL o).drop (QJ o.kind)).any (fun n=> !decide (n=0))||(!decide (o.name=(⟨#[]⟩:ByteArray))&& !JN o.kind)||(decide ((0:Int)<(o.data.length:Int))&& !Uh o.kind)
def opF2 (o:OpD):Bool:=(opL o).any (fun n=> !inB 0 999 n)||((decide (o.kind=10)||decide (o.kind=11))&&decide (3<o.a))
def opF (o:OpD):Int:=if opF1 o then 1 else if opF2 o then 3 else if JN o.kind then (if Qax o.name then 0 else 5) else if Uh o.kind then JM o.data else 0
theorem Qm8 {n:Int} (h:R (.ret (bv (!decide (n=0)))) σ):acall TP Qbc [iv n] σ R:=by
 refine QjG ?_;unfold x99;dsimp only[den,dE,di,List.map,den0,den1];simp only[RR];exact Qa h
theorem Qm9 {n:Int} (h:R (.ret (bv (!inB 0 999 n))) σ):acall TP Qbd [iv n] σ R:=by
 refine QjH (JX ?_);simp only[RR];exact Qa h
theorem Qpp {o:OpD} (h:R (.ret (iv (opF o))) σ):acall TP QfT [.agg (Qk o)] σ R:=by
 refine QlD ?_;unfold x73;dsimp only[den,dE,di,tupL,lTup,den2,den3,den4,List.map,den0,den1,Option.map];refine QjX ?_;simp only[RR,RT];refine Qpc (es:=(opL o).map fun x=>[iv x]) rfl (by decide) rfl (fun c hc=>by obtain ⟨x,_,rfl⟩:=List.mem_map.1 hc;rfl) ?_;unfold opF at h;refine Qd9 (fun x σ'=>σ'=σ∧x=(.rop (Qk o) 0,roN (opL o),bv (opF1 o),())) ?_ ?_
 rotate_left
 · intro k hk
   unfold opF1 at hk;refine JX ?_;cases c1:inB 1 16 o.kind
   · simp only[RR,RT]
     exact hk _ _ ⟨rfl,by rw[c1];simp<;>rfl⟩
   rw[c1] at hk;simp only[RR,RT,Bool.false_or] at hk ⊢;refine Qju ?_;simp only[Qzw (xs:=opL o) (k:=QJ o.kind) (QiA _),RR];refine Qb8 (p:=fun n=> !decide (n=0)) (by simp[opL];omega) (fun x R h=>Qin (Qm8 h)) ?_;generalize ((opL o).drop (QJ o.kind)).any (fun n=> !decide (n=0))=A at hk ⊢;have fin:(∀B:Bool,(∀x σ',(σ'=σ∧x=(.rop (Qk o) 0,roN (opL o),bv (B||(decide ((0:Int)<(o.data.length:Int))&& !Uh o.kind)),()))→k x σ')→
      og (gval (bv B) false false (some (AV.rop (Qk o) 6))) fun v40=>
       og (gval (bv B) false false (lod v40 σ)) fun v41=>
       og (gval (bv B) false false (lenS v41)) fun v42=>
       og (gval (bv B) false false (ibin .gtr v42 (iv 0))) fun v43=>
       og (gval (bv B) false false (some v43)) fun v44=>
       og (gval v44 true true (fldA 0 (.rop (Qk o) 0))) fun v45=>
       og (gval v44 true true (lod v45 σ)) fun v46=>
       gpick v44 (
         acall TP QcR [v46] σ (onr (fun v47 σ=>
         og (aun .not v47) fun v48=>
         og (gval (bv B) false false (some v48)) fun v49=>
         og (pickV (bv B) (bv true) v49) fun v50=>
         k (.rop (Qk o) 0,roN (opL o),v50,()) σ) (fun v σ=>apan v σ R))) (
         og (gval (bv B) false false (some (bv false))) fun v49=>
         og (pickV (bv B) (bv true) v49) fun v50=>
         k (.rop (Qk o) 0,roN (opL o),v50,()) σ) (
         og (gval (bv B) false false (pickV (.tup []) (.tup []) (bv false))) fun v49=>
         og (pickV (bv B) (bv true) v49) fun v50=>
         k (.rop (Qk o) 0,roN (opL o),v50,()) σ)):=by
     intro B hk;cases B
     · simp only[RR,RT,Bool.false_or] at hk ⊢
       cases c:decide ((0:Int)<(o.data.length:Int))
       · rw[c] at hk
         simp only[RR,Bool.false_and] at hk ⊢;exact hk _ _ ⟨rfl,rfl⟩
       · rw[c] at hk
         simp only[RR,Bool.true_and] at hk ⊢;refine QdI ?_;simp only[RR];exact hk _ _ ⟨rfl,rfl⟩
     · simp only[RR,RT,Bool.true_or] at hk ⊢
       exact hk _ _ ⟨rfl,rfl⟩
   cases A
   · simp only[RR,RT,QaA,Bool.false_or] at hk ⊢
     cases c2:decide (o.name=(⟨#[]⟩:ByteArray))
     · rw[c2] at hk
       simp only[RR,RT,Bool.true_and] at hk ⊢;refine QcT ?_;simp only[RR];exact fin _ hk
     · rw[c2] at hk
       simp only[RR,RT,Bool.false_and] at hk ⊢;have:=fin _ hk;simp only[RR,RT] at this;exact this
   · simp only[RR,RT,QaA,Bool.true_or] at hk ⊢
     exact fin true fun x σ' h=>hk _ _ ⟨h.1,by rw[h.2];simp<;>rfl⟩
 rintro _ _ ⟨rfl,rfl⟩;refine QI (fun c1=>?_) (fun c1=>?_)
 · rw[if_pos c1] at h
   exact Qa h
 rw[if_neg (by rw[c1];simp)] at h;refine Qb8 (p:=fun n=> !inB 0 999 n) (by simp[opL]) (fun x R h=>Qin (Qm9 h)) ?_;simp only[RR,RT,RG];refine QI (fun c2=>?_) (fun c2=>?_)
 · rw[if_pos (show opF2 o=true from c2)] at h
   exact Qa h
 rw[if_neg (show ¬opF2 o=true by unfold opF2;rw[c2];simp)] at h;refine QcT ?_;cases c3:JN o.kind
 · rw[c3] at h
   simp only[RR];refine QdI ?_;cases c4:Uh o.kind
   · rw[c4] at h
     simp only[RR];exact Qa h
   · rw[c4] at h
     simp only[RR,RT];refine Qfg ?_;simp only[RR];exact Qa h
 · rw[c3] at h
   simp only[RR,RT];refine Qcy ?_;simp only[RR];exact Qa h
theorem QkK {o:OpD} (h:R (.ret (roN (opL o))) σ):acall TP QiX [.rop (Qk o) 0] σ R:=by
 refine QnZ ?_;unfold x43;dsimp only[den,dE,di,List.map,den0,den1];simp only[RR,RT];exact Qa h
theorem Qlh (o:OpD):(opL o).length=4:=rfl
theorem Qpq {o:OpD} {j:Nat} (hj:j<4):idx 1 (roN (opL o)) (iv (j:Int)) σ=some (.rop [iv ((opL o)[j]'hj)] 0):=Qq (enc:=fun x=>[iv x]) (es:=opL o) hj fun _=>rfl
theorem Qsu {o:OpD} (hn:o.name.size≤1099511627776) (hd:sD o.data) (h:R (.ret (iv (opF o))) σ):acall TP QjY [.rop (Qk o) 0] σ R:=by
 refine Qpg ?_;unfold x69;dsimp only[den,dE,di,tupL,lTup,den2,den3,den4,List.map,den0,den1];simp only[RR,RT];refine JK ?_;simp only[RR];unfold opF at h;refine QI (fun c1=>?_) (fun c1=>?_)
 ·rw[if_pos (by unfold opF1;rw[c1];simp)] at h;exact Qa h
 refine QkK ?_;simp only[RR,RT];refine Qjv ?_;simp only[RR];have hk4:=QiA o.kind;refine QF (fun k x σ'=>∃j:Nat,x=(.rop (Qk o) 0,roN (opL o),iv (j:Int),())∧σ'=σ∧j+k=4∧QJ o.kind≤j∧(∀(i:Nat) (hi:i<4),QJ o.kind≤i→i<j→(opL o)[i]'hi=0)) (4 - QJ o.kind)
  ⟨QJ o.kind,rfl,rfl,by omega,Nat.le_refl _,fun i hi h1 h2=>by omega⟩ ?_
 rintro k x σ' ⟨j,rfl,rfl,hk,hj,hz⟩ R' hR';by_cases c2:(j:Int)<4
 ·have hj4:j<4:=by omega
  simp only[c2,Qpq hj4,Qg6,RR];by_cases c3:(opL o)[j]'hj4=0
  ·simp only[c3,Qh (n:=4) hj4 (by omega),RR];exact hR' _ _ (k - 1) σ' (by omega) (.refl _) ⟨j+1,rfl,rfl,by omega,by omega,fun i hi h1 h2=>by
    rcases Nat.lt_or_ge i j with h3|h3
    ·exact hz i hi h1 h3
    ·obtain rfl:i=j:=by omega
     exact c3⟩
  ·simp only[c3,RR];have:opF1 o=true:=by
    have:((opL o).drop (QJ o.kind)).any (fun n=> !decide (n=0))=true:=by
     rw[List.any_eq_true];refine ⟨(opL o)[j]'hj4,?_,by simpa using c3⟩;rw[List.mem_iff_getElem];refine ⟨j - QJ o.kind,by simp[Qlh];omega,?_⟩;rw[List.getElem_drop]
     congr 1
     omega
    unfold opF1;rw[this];simp
   rw[if_pos this] at h;exact Qa h
 ·have hA:((opL o).drop (QJ o.kind)).any (fun n=> !decide (n=0))=false:=by
   rw[List.any_eq_false];intro n hn;obtain ⟨i,hi,rfl⟩:=List.getElem_of_mem hn;have hi2:i<4 - QJ o.kind:=by simpa[Qlh] using hi
   have e:((opL o).drop (QJ o.kind))[i]=0:=by
    rw[List.getElem_drop];exact hz (QJ o.kind+i) (by omega) (by omega) (by omega)
   rw[e];simp
  simp only[c2,RR];refine Qd9 (fun x σ''=>σ''=σ'∧x=(.rop (Qk o) 0,roN (opL o),bv (opF1 o),())) ?_ ?_
  rotate_left
  ·intro k hk;simp only[RR,RT];refine QcU ?_;have e1:opF1 o=((!decide (o.name=(⟨#[]⟩:ByteArray))&& !JN o.kind)||(decide ((0:Int)<(o.data.length:Int))&& !Uh o.kind)):=by
    unfold opF1;rw[c1,hA];simp
   rw[e1] at hk;cases c3:JN o.kind
   ·rw[c3] at hk;simp only[RR,RT,QaA,Bool.and_true] at hk ⊢;cases c4:decide (o.name=(⟨#[]⟩:ByteArray))
    ·rw[c4] at hk;simp only[RR,RT,Bool.true_or] at hk ⊢;exact hk _ _ ⟨rfl,rfl⟩
    ·rw[c4] at hk;simp only[RR,RT,Bool.false_or] at hk ⊢;refine UY ?_;simp only[RR,RT,RG];exact hk _ _ ⟨rfl,by rw[Bool.and_comm];rfl⟩
   ·rw[c3] at hk;simp only[RR,RT,Bool.and_false,Bool.false_or] at hk ⊢;refine UY ?_;simp only[RR,RT,RG];exact hk _ _ ⟨rfl,by rw[Bool.and_comm];rfl⟩
  intro x s2 hx;rw[hx.1,hx.2];clear hx;refine QI (fun c3=>?_) (fun c3=>?_)
  ·rw[if_pos c3] at h;exact Qa h
  rw[if_neg (by rw[c3];simp)] at h;refine QF (fun k x σ''=>∃j:Nat,x=(.rop (Qk o) 0,roN (opL o),iv (j:Int),())∧σ''=σ'∧j+k=4∧(∀(i:Nat) (hi:i<4),i<j→inB 0 999 ((opL o)[i]'hi)=true)) 4
   ⟨0,rfl,rfl,by omega,fun i hi h1=>by omega⟩ ?_
  rintro k x σ' ⟨j,rfl,rfl,hk,hz⟩ R' hR';by_cases c2:(j:Int)<4
  ·have hj4:j<4:=by omega
   simp only[c2,Qpq hj4,Qg6,RR];refine JK ?_;cases c4:inB 0 999 ((opL o)[j]'hj4)
   ·simp only[RR];have:opF2 o=true:=by
     have:(opL o).any (fun n=> !inB 0 999 n)=true:=by
      rw[List.any_eq_true];exact ⟨(opL o)[j]'hj4,List.getElem_mem _,by rw[c4];rfl⟩
     unfold opF2;rw[this];rfl
    rw[if_pos this] at h;exact Qa h
   ·simp only[Qh (n:=4) hj4 (by omega),RR];exact hR' _ _ (k - 1) σ' (by omega) (.refl _) ⟨j+1,rfl,rfl,by omega,fun i hi h1=>by
     rcases Nat.lt_or_ge i j with h3|h3
     ·exact hz i hi h3
     ·obtain rfl:i=j:=by omega
      exact c4⟩
  ·have hB:(opL o).any (fun n=> !inB 0 999 n)=false:=by
    rw[List.any_eq_false];intro n hn;obtain ⟨i,hi,rfl⟩:=List.getElem_of_mem hn;have hi2:i<4:=hi;have e:inB 0 999 ((opL o)[i]'hi)=true:=hz i hi2 (by omega);rw[e];simp
   simp only[c2,RR,RT,RG];refine QI (fun c4=>?_) (fun c4=>?_)
   ·rw[if_pos (show opF2 o=true by unfold opF2;rw[c4];simp)] at h;exact Qa h
   rw[if_neg (show ¬opF2 o=true by unfold opF2;rw[c4,hB];simp)] at h;refine Qd9 (fun x σ''=>σ''=σ'∧x=(.rop (Qk o) 0,bv (JN o.kind&& !Qax o.name),())) ?_ ?_
   rotate_left
   ·intro k hk;refine QcU ?_;cases c5:JN o.kind
    ·rw[c5] at hk;simp only[RR];exact hk _ _ ⟨rfl,rfl⟩
    ·rw[c5] at hk;simp only[RR,RT];refine Qff hn ?_;simp only[RR];exact hk _ _ ⟨rfl,rfl⟩
   rintro _ _ ⟨rfl,rfl⟩;cases c5:JN o.kind
   ·rw[c5] at h;simp only[Bool.false_and,RR,RT];refine UY ?_;cases c6:Uh o.kind
    ·rw[c6] at h;simp only[RR];exact Qa h
    ·rw[c6] at h;simp only[RR,RT];refine QhY hd ?_;simp only[RR];exact Qa h
   ·rw[c5] at h;cases c6:Qax o.name
    ·rw[c6] at h;simp only[RR,Bool.true_and];exact Qa h
    ·rw[c6] at h;simp only[RR,RT,Bool.true_and];refine UY ?_;have:Uh o.kind=false:=by
      unfold JN at c5;unfold Uh;rw[Bool.or_eq_true,Bool.or_eq_true,decide_eq_true_iff,decide_eq_true_iff,decide_eq_true_iff] at c5;rw[Bool.or_eq_false_iff,decide_eq_false_iff_not,decide_eq_false_iff_not];omega
     simp only[this,RR];exact Qa h
def blkF (b:Blk):Int:=if inB 0 3 b.args=false then 3 else if 200<b.ops.length then 2 else Qal (fun i=>opF (b.ops.getD i default)) 0 b.ops.length
def opsF (bs:List Blk):Int:=if 60<bs.length then 2 else Qal (fun i=>blkF (bs.getD i default)) 0 bs.length
def sO (o:OpD):Prop:=o.name.size≤1099511627776∧sD o.data
def sB (b:Blk):Prop:=∀o,o∈b.ops→sO o
def sC (bs:List Blk):Prop:=∀b,b∈bs→sB b
theorem QiB {X:Type} {st:Nat→X} {f:Nat→Int} {n:Nat} {body:(X→AH→Prop)→X→AH→Prop}
  (hb:∀(j:Nat) (k:X→AH→Prop),j<n→(f j=0→k (st (j+1)) σ)→(f j≠0→R (.ret (iv (f j))) σ)→body k (st j) σ) (he:∀k:X→AH→Prop,Qal f 0 n=0→body k (st n) σ)
  (h:R (.ret (iv (Qal f 0 n))) σ):lp body (st 0) σ:=by
 refine UV n st (fun i=>∀j,j<i→f j=0) rfl (fun j hj=>by omega) ?_;intro i hi hj R' hR';rcases Nat.lt_or_ge i n with hlt|hge
 ·refine hb i R' hlt (fun h0=>hR' hlt (fun j h1=>?_) σ (.refl _)) (fun h0=>by rw[QkI h0 n 0 (Nat.zero_le _) (by omega) (fun j _ h2=>hj j h2)] at h;exact h);rcases Nat.lt_or_ge j i with h2|h2
  ·exact hj j h2
  ·obtain rfl:j=i:=by omega
   exact h0
 ·obtain rfl:i=n:=by omega
  exact he R' (Qiz _ _ fun j _ h2=>hj j (by omega))
theorem QaY {os:List OpD} {j:Nat} (h:j<os.length):os[j]=os.getD j default:=by simp[List.getD,h]
theorem QhZ {bs:List Blk} {j:Nat} (h:j<bs.length):bs[j]=bs.getD j default:=by simp[List.getD,h]
theorem QlT {b:Blk} (h:R (.ret (iv (blkF b))) σ):acall TP Qdh [.agg (QC b)] σ R:=by
 refine Qip ?_;unfold x46;dsimp only[den,dE,di,tupL,lTup,den2,den3,den4,List.map,den0,den1];refine QnU ?_;simp only[RR,RT];refine JX ?_;unfold blkF at h;cases c1:inB 0 3 b.args
 ·rw[c1] at h;simp only[RR];exact Qa h
 rw[if_neg (by rw[c1];simp)] at h;simp only[RR,RT,QA];refine QI (fun c2=>?_) (fun c2=>?_)
 ·rw[if_pos (by have:=of_decide_eq_true c2;omega)] at h;exact Qa h
 have c2':b.ops.length≤200:=by have:=of_decide_eq_false c2;omega
 rw[if_neg (by omega)] at h;refine QiB (n:=b.ops.length) (st:=fun i=>(roO b.ops,iv (b.ops.length:Int),iv (i:Int),())) (f:=fun i=>opF (b.ops.getD i default)) ?_ ?_ h
 ·intro j k hj h0 h1;have g:(j:Int)<(b.ops.length:Int):=by omega
  simp only[g,Qq hj Q5,RR,RT];refine Qp7 rfl ?_;simp only[RR,RT];rw[QaY hj];refine Qpp ?_;simp only[RR];by_cases c3:opF (b.ops.getD j default)=0
  ·simp only[c3,Qh hj (by omega),RR];exact h0 c3
  ·simp only[c3,RR];exact Qa (h1 c3)
 ·intro k h0;have g:¬(b.ops.length:Int)<(b.ops.length:Int):=by omega
  simp only[g,RR];rw[h0] at h;exact Qa h
theorem Qog {bs:List Blk} (h:R (.ret (iv (opsF bs))) σ):acall TP QeG [roBk bs] σ R:=by
 refine Qj9 ?_;unfold x25;dsimp only[den,dE,di,tupL,lTup,den2,den3,den4,List.map,den0,den1];unfold opsF at h;simp only[RR,RT,QA];refine QI (fun c2=>?_) (fun c2=>?_)
 ·rw[if_pos (by have:=of_decide_eq_true c2;omega)] at h;exact Qa h
 have c2':bs.length≤60:=by have:=of_decide_eq_false c2;omega
 rw[if_neg (by omega)] at h;refine QiB (n:=bs.length) (st:=fun i=>(roBk bs,iv (bs.length:Int),iv (i:Int),())) (f:=fun i=>blkF (bs.getD i default)) ?_ ?_ h
 ·intro j k hj h0 h1;have g:(j:Int)<(bs.length:Int):=by omega
  simp only[g,Qq hj Jr,RR,RT];refine QnV rfl ?_;simp only[RR,RT];rw[QhZ hj];refine QlT ?_;simp only[RR];by_cases c3:blkF (bs.getD j default)=0
  ·simp only[c3,Qh hj (by omega),RR];exact h0 c3
  ·simp only[c3,RR];exact Qa (h1 c3)
 ·intro k h0;have g:¬(bs.length:Int)<(bs.length:Int):=by omega
  simp only[g,RR];rw[h0] at h;exact Qa h
theorem Qpr {b:Blk} (hs:sB b) (h:R (.ret (iv (blkF b))) σ):acall TP QfM [.rop (QC b) 0] σ R:=by
 refine Qlv ?_;unfold x39;dsimp only[den,dE,di,tupL,lTup,den2,den3,den4,List.map,den0,den1];simp only[RR,RT];refine JK ?_;unfold blkF at h;cases c1:inB 0 3 b.args
 ·rw[c1] at h;simp only[RR];exact Qa h
 rw[if_neg (by rw[c1];simp)] at h;simp only[RR,RT,QA];refine QI (fun c2=>?_) (fun c2=>?_)
 ·rw[if_pos (by have:=of_decide_eq_true c2;omega)] at h;exact Qa h
 have c2':b.ops.length≤200:=by have:=of_decide_eq_false c2;omega
 rw[if_neg (by omega)] at h;refine QiB (n:=b.ops.length) (st:=fun i=>(AV.rop (QC b) 0,iv (i:Int),())) (f:=fun i=>opF (b.ops.getD i default)) ?_ ?_ h
 ·intro j k hj h0 h1;have g:(j:Int)<(b.ops.length:Int):=by omega
  simp only[RR,RT,QA,g,Qq hj Q5];rw[QaY hj];have hm:=hs (b.ops.getD j default) (by rw[←QaY hj];exact List.getElem_mem hj);refine Qsu hm.1 hm.2 ?_;simp only[RR];by_cases c3:opF (b.ops.getD j default)=0
  ·simp only[c3,Qh hj (by omega),RR];exact h0 c3
  ·simp only[c3,RR];exact Qa (h1 c3)
 ·intro k h0;have g:¬(b.ops.length:Int)<(b.ops.length:Int):=by omega
  simp only[RR,RT,QA,g];rw[h0] at h;exact Qa h
theorem Qps {bs:List Blk} (hs:sC bs) (h:R (.ret (iv (opsF bs))) σ):acall TP QfJ [roBk bs] σ R:=by
 refine Qls ?_;unfold x21;dsimp only[den,dE,di,tupL,lTup,den2,den3,den4,List.map,den0,den1];unfold opsF at h;simp only[RR,RT,QA];refine QI (fun c2=>?_) (fun c2=>?_)
 ·rw[if_pos (by have:=of_decide_eq_true c2;omega)] at h;exact Qa h
 have c2':bs.length≤60:=by have:=of_decide_eq_false c2;omega
 rw[if_neg (by omega)] at h;refine QiB (n:=bs.length) (st:=fun i=>(roBk bs,iv (i:Int),())) (f:=fun i=>blkF (bs.getD i default)) ?_ ?_ h
 ·intro j k hj h0 h1;have g:(j:Int)<(bs.length:Int):=by omega
  simp only[RR,RT,QA,g,Qq hj Jr];rw[QhZ hj];refine Qpr (hs _ (by rw[←QhZ hj];exact List.getElem_mem hj)) ?_;simp only[RR];by_cases c3:blkF (bs.getD j default)=0
  ·simp only[c3,Qh hj (by omega),RR];exact h0 c3
  ·simp only[c3,RR];exact Qa (h1 c3)
 ·intro k h0;have g:¬(bs.length:Int)<(bs.length:Int):=by omega
  simp only[RR,RT,QA,g];rw[h0] at h;exact Qa h
end
section
variable [L:Lam] {σ:AH} {R:AEnd→AH→Prop}
theorem Qu {cs:List AV} {n:Nat} (h:cs.length=n):lodA n (.rop cs 0) σ=some (.agg cs):=by
 have:=(At.rop σ cs).lodA (n:=n) (by omega);rw[this,List.take_of_length_le (by omega)]
def bD (N:Nat) (ds:List Dat):Prop:=ds.length≤N∧∀d,d∈ds→d.name.size≤N
def bO (N:Nat) (os:List OpD):Prop:=os.length≤N∧∀o,o∈os→o.name.size≤N∧bD N o.data
def bC (N:Nat) (bs:List Blk):Prop:=bs.length≤N∧∀b,b∈bs→bO N b.ops
theorem JO {v:AV} (h:v.one=true):JF v=some [v]:=by
 cases v<;>first|rfl|(cases h)|(rename_i u;cases u<;>first|rfl|cases h)
theorem QiC {φ n off:Nat} {zs:List AV} {v:AV} {k:AH→Prop} (ho:off<n) (h1:v.one=true) (h:k (σ.set φ ⟨0,n,[zs.set off v]⟩)):sto 1 (.ptr φ 0 0 off) v (σ.set φ ⟨0,n,[zs]⟩) k:=by
 refine Q4 (es:=[zs]) (cs:=zs) (AH.set_same ..) rfl ho (JO h1) h1 ?_;simp only[List.set_cons_zero,AH.set_set];exact h
theorem QtJ {x:AV} {xs z1 z2:List AV} {k:AV→AV→AV→AH→Prop} (hx:JF x=some xs)
  (h:∀φ2 φ3:Nat,φ2≠φ3→σ φ2=none→σ φ3=none→k (.rop xs 0) (.ptr φ2 0 0 0) (.ptr φ3 0 0 0) ((σ.set φ2 ⟨0,z1.length,[z1]⟩).set φ3 ⟨0,z2.length,[z2]⟩)):
  abox x σ fun v1 σ=>new z1 σ fun v2 σ=>frz v1 σ fun f1 σ=>new z2 σ fun v3 σ=>k f1 v2 v3 σ:=by
 unfold abox;rw[hx];intro φ1 h1;intro φ2 h2;rw[AH.set_none] at h2;rw[AH.set_comm _ _ _ (Ne.symm h2.1)];refine QK (AH.set_none.2 ⟨Ne.symm h2.1,h1⟩) rfl ?_;intro φ3 h3;rw[AH.set_none] at h3;exact h φ2 φ3 (Ne.symm h3.1) h2.2 h3.2
theorem Qwj {φ2 φ3 n:Nat} {z cs:List AV} (hne:φ2≠φ3) (h2:σ φ2=none) (h3:σ φ3=none) (hz:z.length=n) (hc:cs.length=n) (h1:∀x,x∈cs→x.one=true) (h:R (.ret (.agg cs)) σ):
  frz (.ptr φ3 0 0 0) ((σ.set φ2 ⟨0,n,[z]⟩).set φ3 ⟨0,n,[cs]⟩) fun f3 σ=>og (lodA n f3 σ) fun v16=>sto n (.ptr φ2 0 0 0) v16 σ fun σ=>og (lodA n (.ptr φ2 0 0 0) σ) fun r2=>aret r2 σ R:=by
 refine QK (AH.set_none.2 ⟨Ne.symm hne,h3⟩) hc ?_;simp only[Qu hc,RR];exact J0 h2 hz hc h1 h
theorem Qwk {α:Type} [DecidableEq α] (a:α):(!decide (a=a))=false:=by simp
theorem Qwl {x y:AV} {xs ys:List AV} {k:AV→AV→AH→Prop} (hx:JF x=some xs) (hy:JF y=some ys) (h:k (.rop xs 0) (.rop ys 0) σ):
  abox x σ fun v2 σ=>abox y σ fun v3 σ=>frz v2 σ fun f2 σ=>frz v3 σ fun f3 σ=>k f2 f3 σ:=by
 unfold abox;rw[hx,hy];intro φ1 h1 φ2 h2;rw[AH.set_none] at h2;rw[AH.set_comm _ _ _ (Ne.symm h2.1)];refine QK (AH.set_none.2 ⟨Ne.symm h2.1,h1⟩) rfl ?_;exact QK h2.2 rfl h
theorem QBX {bs:List Blk} (h:bC 1048576 bs):sC bs:=fun b hb o ho=>⟨by have:=((h.2 b hb).2 o ho).1;omega,fun d hd=>by have:=((h.2 b hb).2 o ho).2.2 d hd;omega⟩
end
section
variable [L:Lam] {σ:AH} {R:AEnd→AH→Prop}
def QuP (o:OpD):Int:=if o.kind=6∨o.kind=7∨o.kind=8∨o.kind=9 then 1 else if o.kind=10 then o.a+1 else 0
def QBY (o:OpD):Int:=if o.kind=1∨o.kind=2∨o.kind=3∨o.kind=4∨o.kind=8∨o.kind=9∨o.kind=10 then 1 else if o.kind=15 then 2 else 0
def QBZ (k:Int):Bool:= !(decide (k=5)||decide (k=11)||inB 12 14 k)
def tgtN (o:OpD):Int:=if o.kind=5∨o.kind=6 then o.a else if o.kind=16 then o.c else -1
def Qxq (o:OpD) (h:Int):Bool:=if o.kind=12 then decide (h=1) else if o.kind=11 then decide (h=o.a+1) else if o.kind=13∨o.kind=14 then decide (h=0) else decide (QuP o≤h)
def smO (o:OpD):Prop:=0≤o.a∧o.a≤999∧0≤o.b∧o.b≤999∧0≤o.c∧o.c≤999∧0≤o.d∧o.d≤999
def tgtP (o:OpD):AV:=if o.kind=5∨o.kind=6 then .rop (Qk o) 1 else if o.kind=16 then .rop (Qk o) 3 else .val (.pointer none)
theorem Qna {o:OpD} (h:R (.ret (tgtP o)) σ):acall TP Qbe [.rop (Qk o) 0] σ R:=by
 refine QcH ?_;unfold x123;dsimp only[den,dE,di,tupL,lTup,den2,den3,den4,List.map,den0,den1];unfold tgtP at h;simp only[RR,RT,jn];by_cases c1:o.kind=5
 ·rw[if_pos (by omega)] at h;simp only[c1,RR];exact Qa h
 by_cases c2:o.kind=6
 ·rw[if_pos (by omega)] at h;simp only[c2,RR];exact Qa h
 rw[if_neg (by omega)] at h;by_cases c3:o.kind=16
 ·rw[if_pos c3] at h;simp only[c3,RR];exact Qa h
 rw[if_neg c3] at h;simp only[c1,c2,c3,RR];exact Qa h
def isPt (T:Tab) (t:TypeId):Bool:=match T t with
 |some ti=>match ti.under with
  | .pointer _=>true
  |_=>false
 |none=>false
theorem QsU {T:Tab} {t:TypeId} {cs:List AV} {off:Nat} {k:AV→Prop} (hu:isPt T t=true) (h:k (bv true)):abin T .neq t (.rop cs off) (.val (.pointer none)) k:=by
 unfold isPt at hu;split at hu
 case h_2=>cases hu
 rename_i ti ht;split at hu
 case h_2=>cases hu
 rename_i e he;unfold abin;simp only;unfold aeql;simp only[ht,he];exact h
theorem QsV {T:Tab} {t:TypeId} {k:AV→Prop} (hu:isPt T t=true) (h:k (bv false)):abin T .neq t (.val (.pointer none)) (.val (.pointer none)) k:=by
 unfold isPt at hu;split at hu
 case h_2=>cases hu
 rename_i ti ht;split at hu
 case h_2=>cases hu
 rename_i e he;unfold abin;simp only;unfold aeql;simp only[ht,he];exact h
theorem QuQ {T:Tab} {t:TypeId} {o:OpD} {X Y:Prop} (hs:smO o) (hu:isPt T t=true) (h1:0≤tgtN o→∀p,anil (tgtP o)=some p→(∀τ,lod p τ=some (iv (tgtN o)))→X) (h2:tgtN o= -1→Y):
  abin T .neq t (tgtP o) (.val (.pointer none)) fun v=>apick v X Y:=by
 unfold tgtP tgtN at*;by_cases c1:o.kind=5∨o.kind=6
 ·simp only[if_pos c1] at h1 ⊢;refine QsU hu ?_;simp only[RR];exact h1 hs.1 _ rfl fun _=>rfl
 ·simp only[if_neg c1] at h1 h2 ⊢;by_cases c2:o.kind=16
  ·simp only[if_pos c2] at h1 ⊢;refine QsU hu ?_;simp only[RR];exact h1 hs.2.2.2.2.1 _ rfl fun _=>rfl
  ·simp only[if_neg c2] at h2 ⊢;refine QsV hu ?_;simp only[RR];exact h2 trivial
theorem Qoh {o:OpD} (h:R (.ret (iv (tgtN o))) σ):acall TP QeT [.rop (Qk o) 0] σ R:=by
 refine Qkt ?_;unfold x151;dsimp only[den,dE,di,tupL,lTup,den2,den3,den4,List.map,den0,den1];unfold tgtN at h;simp only[RR,RT,jn];by_cases c1:o.kind=5
 ·rw[if_pos (by omega)] at h;simp only[c1,RR];exact Qa h
 by_cases c2:o.kind=6
 ·rw[if_pos (by omega)] at h;simp only[c2,RR];exact Qa h
 rw[if_neg (by omega)] at h;by_cases c3:o.kind=16
 ·rw[if_pos c3] at h;simp only[c3,RR,RT];exact Qa h
 rw[if_neg c3] at h;simp only[c1,c2,c3,RR];exact Qa h
end
section
variable [L:Lam]
def opA (os:List OpD) (i:Nat):OpD:=os.getD i default
def QB0 (o:OpD) (i:Nat):List Int:=(if QBZ o.kind then [(i:Int)+1] else [])++(if 0≤tgtN o then [tgtN o] else [])
def QB1 (o:OpD) (h:Int):Int:=h - QuP o+QBY o
inductive Reach (os:List OpD):Nat→Int→Prop
 |start:Reach os 0 0
 |step {i:Nat} {h t:Int} (hr:Reach os i h) (hi:i<os.length) (hh:Qxq (opA os i) h=true) (ht:t∈QB0 (opA os i) i):Reach os t.toNat (QB1 (opA os i) h)
def smB (os:List OpD):Prop:=∀o,o∈os→smO o
def atH (out:List Int) (i:Nat):Int:=out.getD i (-1)
structure HOk (os:List OpD) (out:List Int):Prop where
 len:out.length=os.length
 pos:0<os.length
 tgt:∀o,o∈os→tgtN o<os.length
 sound:∀i v,Reach os i v→i<os.length∧atH out i=v∧Qxq (opA os i) v=true
 own:∀i,i<os.length→atH out i= -1∨(0≤atH out i∧Reach os i (atH out i))
 bnd:∀i,i<os.length→atH out i≤1000000
open Classical in
noncomputable def hts (os:List OpD):Option (List Int):=if h:∃out,HOk os out then some h.choose else none
end
section
variable [L:Lam]
def putL:List (List AV)→Nat→List Int→List (List AV)
 |es,_,[]=>es
 |es,i,y::ys=>putL (es.set i [iv y]) (i+1) ys
theorem Stp.ints {κ:Kap} {φ st:Nat} {r:Reg}:∀(ys:List Int) (i:Nat) (es:List (List AV)) (σ:AH) (w:World),Rel κ σ w→σ φ=some ⟨st,1,es⟩→κ.ρ φ st=some r→r.sz=1→r.lo≤i→i+ys.length≤es.length→(∀c,c∈es→c.length=1)→
  Stp κ σ w κ (σ.set φ ⟨st,1,putL es i ys⟩) (w.setCells r.b (r.base+(i - r.lo)) (ys.map (Value.int .i64))):=by
 intro ys
 induction ys with
 |nil=>
  intro i es σ w hr hF _ _ _ _ _;have:σ.set φ ⟨st,1,putL es i []⟩=σ:=AH.set_self hF;rw[this];exact .refl hr
 |cons y ys ih=>
  intro i es σ w hr hF hρ hsz hlo hl hz;have hi:i<es.length:=by simp at hl;omega
  have key:=(Stp.cell (P:=default) hr hF hρ hlo (j:=0) hi (by show 0<1;omega) (VR.val (Value.int .i64 y)) rfl).2;have e1:r.base+(i - r.lo)*r.sz+0=r.base+(i - r.lo):=by rw[hsz];omega
  rw[e1] at key;have e2:Fam.cellSet ⟨st,1,es⟩ i 0 (.val (.int .i64 y))=⟨st,1,es.set i [iv y]⟩:=by
   unfold Fam.cellSet;have h1:(es.getD i []).length=1:=by
    have e:es.getD i []=es[i]:=by simp[List.getD,hi]
    rw[e];exact hz _ (List.getElem_mem hi)
   simp only;obtain ⟨x,hx⟩:∃x,es.getD i []=[x]:=List.length_eq_one_iff.1 h1;rw[hx];rfl
  rw[e2] at key;have h2:=ih (i+1) (es.set i [iv y]) _ _ key.rel (AH.set_same ..) hρ hsz (by omega) (by simp at hl ⊢;omega) (fun c hc=>by
   rcases List.mem_or_eq_of_mem_set hc with h|rfl
   ·exact hz c h
   ·rfl)
  rw[AH.set_set] at h2;have e3:r.base+(i+1 - r.lo)=r.base+(i - r.lo)+1:=by omega
  rw[e3] at h2;exact key.trans h2
theorem QrD:∀(ys:List Int) (pre es:List (List AV)),ys.length≤es.length→putL (pre++es) pre.length ys=pre++(ys.map fun x=>[iv x])++es.drop ys.length:=by
 intro ys
 induction ys with
 |nil=>intro pre es _;simp[putL]
 |cons y ys ih=>
  intro pre es h;cases es with
  |nil=>simp at h
  |cons e es=>
   simp only[putL];have:(pre++e::es).set pre.length [iv y]=(pre++[[iv y]])++es:=by simp
   rw[this];have h2:=ih (pre++[[iv y]]) es (by simpa using h);simp only[List.length_append,List.length_cons,List.length_nil,Nat.zero_add] at h2;rw[h2];simp
theorem Stp.grown {κ0 κ:Kap} {σ0 σ:AH} {w0:World}:∀(os:List Obj) (w:World),Stp κ0 σ0 w0 κ σ w→Stp κ0 σ0 w0 κ σ (Go.Sort.grow w os.toArray):=by
 intro os
 induction os with
 |nil=>intro w h;simpa using h
 |cons o os ih=>
  intro w h;have:Go.Sort.grow w (o::os).toArray=Go.Sort.grow (w.alloc o) os.toArray:=by
   rw[Go.Sort.alloc_eq_grow,Go.Sort.grow_grow]
   congr 1
   simp
  rw[this];exact ih _ (h.lay o)
theorem QsW {κ:Kap} {σ:AH} {w:World} {φ st:Nat} {es:List (List AV)} {xs:List Int} {v:Value} (hr:Rel κ σ w) (hF:σ φ=some ⟨st,1,es⟩) (hx:∀(i:Nat) (h:i<xs.length),es[i]? =some [iv xs[i]]) (hv:VR κ (.own φ st 0 xs.length) v):
  (xs=[]∧∃a cap,v= .slice a 0 cap∧∀w',VR κ (.own φ st 0 0) (.slice a 0 cap)∨w'=w)∨∃r:Reg,κ.ρ φ st=some r∧r.lo=0∧r.sz=1∧xs.length≤r.cap∧v= .slice (some ⟨r.b,r.base,none⟩) xs.length r.cap∧r.b<w.heap.size∧Go.Sort.Holds (Value.int .i64) w r.b r.base xs.toArray:=by
 generalize hn:xs.length=n at hv;cases hv with
 |ownEnd h hoff=>
  left
  have:xs=[]:=List.length_eq_zero_iff.1 hn;exact ⟨this,_,_,rfl,fun _=> .inl (.ownEnd h hoff)⟩
 |own h hlo hle=>
  rename_i r;right;subst hn;obtain ⟨r',e1,hB,H⟩:=hr.has φ _ hF;have e1':κ.ρ φ st=some r':=e1;rw[h] at e1';obtain rfl:=Option.some.inj e1';have hlo0:r.lo=0:=by omega
  have hsz:r.sz=1:=H.sz;refine ⟨r,h,hlo0,hsz,by omega,?_,?_,?_⟩
  ·simp[hlo0]
  ·obtain ⟨c,e,fz,hh,_⟩:=H.row;exact (Array.getElem?_eq_some_iff.1 hh).1
  ·intro j hj;have hj':j<xs.length:=by simpa using hj
   have hjl:j<es.length:=(List.getElem?_eq_some_iff.1 (hx j hj')).1;obtain ⟨u,hc,hu⟩:=H.cell j 0 (by omega) hjl (by show 0<1;omega);have ej:(es.getD j []).getD 0 .any=iv xs[j]:=by simp[List.getD,hx j hj']
   have hu':VR κ (iv xs[j]) u:=ej▸hu;have e2:r.base+(j - r.lo)*r.sz+0=r.base+j:=by rw[hlo0,hsz];omega
   rw[e2] at hc;refine ⟨?_,H.free _ ?_⟩
   ·rw[hc];cases hu';simp[hj']
   ·have:r.cap*r.sz=r.cap:=by rw[hsz];omega
    omega
theorem QtK {P : Program} {f : FuncId} {fn : Func} (hf : P.funcs[f]? = some fn) (hb : fn.body.isNone = false) (hg : (fn.name == "runtime.NumGoroutine") = false)
  (h0:∀(p:Option Addr) (cap:Nat) (w:World),Calls P f #[.slice p 0 cap] w fun e w'=>e= .returned (.tuple #[])∧w'=w)
  (h1:∀(blk off cap:Nat) (zs:List Int) (w:World),Go.Sort.Holds (Value.int .i64) w blk off zs.toArray→blk<w.heap.size→zs.length<4611686018427387904→
   Calls P f #[.slice (some ⟨blk,off,none⟩) zs.length cap] w fun e w'=>e= .returned (.tuple #[])∧∃n os,w'=Go.Sort.grow (Go.Sort.putRow (Value.int .i64) (Go.Sort.ahead w n) blk off (zs.mergeSort fun x y=>decide (x≤y)).toArray) os)
  {σ:AH} {R:AEnd→AH→Prop} {φ st:Nat} {xs:List Int} (hF:σ φ=some ⟨st,1,xs.map fun x=>[iv x]⟩) (hl:xs.length<4611686018427387904) (h:R (.ret (.tup [])) (σ.set φ ⟨st,1,(xs.mergeSort fun x y=>decide (x≤y)).map fun x=>[iv x]⟩)):
  acall P f [.own φ st 0 xs.length] σ R:=by
 refine ⟨fn,hf,hb,hg,fun κ w vs hr hv=>?_⟩;obtain ⟨v,rfl⟩:∃v,vs=[v]:=List.length_eq_one_iff.1 hv.1.symm;have hv0:VR κ (.own φ st 0 xs.length) v:=hv.2 0 (by simp);have htup:VR κ (.tup []) (.tuple #[]):= .tup (vs:=[]) rfl fun i hi=>absurd hi (Nat.not_lt_zero i)
 rcases QsW hr hF (fun i hi=>by simp[hi]) hv0 with ⟨rfl,a,cap,rfl,_⟩|⟨r,hρ,hlo,hsz,hcap,rfl,hblk,hH⟩
 ·refine (h0 a cap w).mono fun e w' ⟨he,hw⟩=>?_
  subst he;subst hw;refine ⟨κ,_,_,h,?_,htup⟩;have:σ.set φ ⟨st,1,(([]:List Int).mergeSort fun x y=>decide (x≤y)).map fun x=>[iv x]⟩=σ:=AH.set_self (by rw[hF];simp);rw[this];exact .refl hr
 ·refine (h1 r.b r.base r.cap xs w hH hblk hl).mono fun e w' ⟨he,q,os,hw⟩=>?_
  subst he;rw[Lib.sorted_world _ w r.b r.base q xs.toArray _ os hH (by simp)] at hw;subst hw;refine ⟨κ,_,_,h,?_,htup⟩;have hd:Stp κ σ w κ σ (w.drewN q):= .world hr rfl rfl rfl rfl;have hs:=Stp.ints (xs.mergeSort fun x y=>decide (x≤y)) 0 _ σ (w.drewN q) hd.rel hF hρ hsz (by omega) (by simp) (fun c hc=>by obtain ⟨x,_,rfl⟩:=List.mem_map.1 hc;rfl);have e:=QrD (xs.mergeSort fun x y=>decide (x≤y)) [] (xs.map fun x=>[iv x]) (by simp);simp only[List.nil_append,List.length_nil] at e;rw[e] at hs;have e2:((xs.map fun x=>[iv x]).drop (xs.mergeSort fun x y=>decide (x≤y)).length)=([]:List (List AV)):=List.drop_eq_nil_of_le (by simp);rw[e2,List.append_nil] at hs;have e3:r.base+(0 - r.lo)=r.base:=by omega
  rw[e3] at hs;exact Stp.grown os.toList _ (hd.trans hs)
theorem Qpt {P : Program} {f : FuncId} {fn : Func} (hf : P.funcs[f]? = some fn) (hb : fn.body.isNone = false) (hg : (fn.name == "runtime.NumGoroutine") = false)
  (h0:∀(p:Option Addr) (cap:Nat) (w:World),Calls P f #[.slice p 0 cap] w fun e w'=>e= .returned (.tuple #[])∧w'=w)
  {σ:AH} {R:AEnd→AH→Prop} (h:R (.ret (.tup [])) σ):acall P f [.emp] σ R:=by
 refine ⟨fn,hf,hb,hg,fun κ w vs hr hv=>?_⟩;obtain ⟨v,rfl⟩:∃v,vs=[v]:=List.length_eq_one_iff.1 hv.1.symm;have hv0:VR κ .emp v:=hv.2 0 (by simp);cases hv0;refine (h0 _ _ w).mono fun e w' ⟨he,hw⟩=>?_
 subst he;subst hw;exact ⟨κ,_,_,h,.refl hr,.tup (vs:=[]) rfl fun i hi=>absurd hi (Nat.not_lt_zero i)⟩
theorem QlU {P : Program} {f : FuncId} {fn : Func} (hf : P.funcs[f]? = some fn) (hb : fn.body.isNone = false) (hg : (fn.name == "runtime.NumGoroutine") = false)
  (h0:∀(p:Option Addr) (cap:Nat) (w:World),Calls P f #[.slice p 0 cap] w fun e w'=>e= .returned (.slice p 0 cap)∧w'=w)
  {σ:AH} {R:AEnd→AH→Prop} (h:R (.ret .emp) σ):acall P f [.emp] σ R:=by
 refine ⟨fn,hf,hb,hg,fun κ w vs hr hv=>?_⟩;obtain ⟨v,rfl⟩:∃v,vs=[v]:=List.length_eq_one_iff.1 hv.1.symm;have hv0:VR κ .emp v:=hv.2 0 (by simp);cases hv0;refine (h0 _ _ w).mono fun e w' ⟨he,hw⟩=>?_
 subst he;subst hw;exact ⟨κ,_,_,h,.refl hr,VR.emp _⟩
theorem QqI {P : Program} {f : FuncId} {fn : Func} (hf : P.funcs[f]? = some fn) (hb : fn.body.isNone = false) (hg : (fn.name == "runtime.NumGoroutine") = false)
  (h0:∀(p:Option Addr) (cap:Nat) (w:World),Calls P f #[.slice p 0 cap] w fun e w'=>e= .returned (.slice p 0 cap)∧w'=w)
  (h1:∀(blk off cap:Nat) (zs:List Int) (w:World),Go.Sort.Holds (Value.int .i64) w blk off zs.toArray→zs.length≤9223372036854775807→zs.length≤cap→
   Calls P f #[.slice (some ⟨blk,off,none⟩) zs.length cap] w fun e w'=>e= .returned (.slice (some ⟨blk,off,none⟩) (Lib.compact zs).length cap)∧∃q,w'=Go.Sort.putRow (Value.int .i64) (Go.Sort.ahead w q) blk off (Lib.compact zs++List.replicate (zs.length - (Lib.compact zs).length) 0).toArray)
  (hc:∀zs:List Int,(Lib.compact zs).length≤zs.length)
  {σ:AH} {R:AEnd→AH→Prop} {φ st:Nat} {xs:List Int} (hF:σ φ=some ⟨st,1,xs.map fun x=>[iv x]⟩) (hl:xs.length<4611686018427387904)
  (h:R (.ret (.own φ st 0 (Lib.compact xs).length)) (σ.set φ ⟨st,1,(Lib.compact xs++List.replicate (xs.length - (Lib.compact xs).length) 0).map fun x=>[iv x]⟩)):
  acall P f [.own φ st 0 xs.length] σ R:=by
 refine ⟨fn,hf,hb,hg,fun κ w vs hr hv=>?_⟩;obtain ⟨v,rfl⟩:∃v,vs=[v]:=List.length_eq_one_iff.1 hv.1.symm;have hv0:VR κ (.own φ st 0 xs.length) v:=hv.2 0 (by simp);have hcl:=hc xs;rcases QsW hr hF (fun i hi=>by simp[hi]) hv0 with ⟨rfl,a,cap,rfl,_⟩|⟨r,hρ,hlo,hsz,hcap,rfl,hblk,hH⟩
 ·have hz:(Lib.compact ([]:List Int)).length=0:=by simpa using hcl
  have hz2:Lib.compact ([]:List Int)=[]:=List.length_eq_zero_iff.1 hz;refine (h0 a cap w).mono fun e w' ⟨he,hw⟩=>?_
  subst he;subst hw;refine ⟨κ,_,_,h,?_,by rw[hz];exact hv0⟩;have:σ.set φ ⟨st,1,(Lib.compact ([]:List Int)++List.replicate (([]:List Int).length - (Lib.compact ([]:List Int)).length) 0).map fun x=>[iv x]⟩=σ:=AH.set_self (by rw[hF,hz2];simp);rw[this];exact .refl hr
 ·refine (h1 r.b r.base r.cap xs w hH (by omega) hcap).mono fun e w' ⟨he,q,hw⟩=>?_
  subst he;have hlen:(Lib.compact xs++List.replicate (xs.length - (Lib.compact xs).length) 0).length=xs.length:=by simp;omega
  have hg2:=Lib.sorted_world (Value.int .i64) w r.b r.base q xs.toArray (Lib.compact xs++List.replicate (xs.length - (Lib.compact xs).length) 0) #[] hH (by rw[hlen];simp);rw[Go.Sort.grow_empty,Go.Sort.grow_empty] at hg2;rw[hg2] at hw;subst hw;refine ⟨κ,_,_,h,?_,?_⟩
  ·have hd:Stp κ σ w κ σ (w.drewN q):= .world hr rfl rfl rfl rfl;have hs:=Stp.ints (Lib.compact xs++List.replicate (xs.length - (Lib.compact xs).length) 0) 0 _ σ (w.drewN q) hd.rel hF hρ hsz (by omega) (by rw[hlen];simp) (fun c hc=>by obtain ⟨x,_,rfl⟩:=List.mem_map.1 hc;rfl);have e:=QrD (Lib.compact xs++List.replicate (xs.length - (Lib.compact xs).length) 0) [] (xs.map fun x=>[iv x]) (by rw[hlen];simp);simp only[List.nil_append,List.length_nil] at e;rw[e] at hs;have e2:((xs.map fun x=>[iv x]).drop (Lib.compact xs++List.replicate (xs.length - (Lib.compact xs).length) 0).length)=([]:List (List AV)):=List.drop_eq_nil_of_le (by rw[hlen];simp);rw[e2,List.append_nil] at hs;have e3:r.base+(0 - r.lo)=r.base:=by omega
   rw[e3] at hs;exact hd.trans hs
  ·have:=VR.own (κ:=κ) (φ:=φ) (st:=st) (off:=0) (n:=(Lib.compact xs).length) hρ (by omega) (by omega);show VR κ _ _;simpa[hlo] using this
theorem QgQ (zs:List Int):(Lib.compact zs).length≤zs.length:=by
 unfold Lib.compact Lib.compactUpTo;rw[List.length_map];have:=List.length_filter_le (Lib.keeps zs.toArray) (List.range zs.length);rw[List.length_range] at this;exact this
theorem Qsv {zs:List Int} {x:Int}:x∈Lib.compact zs↔x∈zs:=by
 unfold Lib.compact Lib.compactUpTo;have e:∀j,j<zs.length→zs.toArray[j]! =zs.getD j 0:=by
  intro j hj;simp[hj,List.getD]
 constructor
 ·intro h;obtain ⟨j,hj,rfl⟩:=List.mem_map.1 h;have hj1:=List.mem_range.1 (List.mem_filter.1 hj).1;rw[e j hj1];simp[List.getD,hj1]
 ·intro h;obtain ⟨k,hk,hx⟩:=List.getElem_of_mem h;have key:∀n,∀k (hk:k<zs.length),k≤n→zs[k]=x→∃j,∃hj:j<zs.length,zs[j]=x∧Lib.keeps zs.toArray j=true:=by
   intro n
   induction n with
   |zero=>
    intro k hk h0 hx;obtain rfl:k=0:=by omega
    exact ⟨0,hk,hx,Lib.keeps_lt_one _ 0 (by omega)⟩
   |succ n ih=>
    intro k hk hn hx;by_cases c:Lib.keeps zs.toArray k=true
    ·exact ⟨k,hk,hx,c⟩
    ·have h0:k≠0:=by rintro rfl;exact c (Lib.keeps_lt_one _ 0 (by omega))
     have h2:zs.toArray[k]! =zs.toArray[k - 1]! :=Classical.byContradiction fun h=>c (Lib.keeps_pos h)
     refine ih (k - 1) (by omega) (by omega) ?_;rw[e k hk,e (k - 1) (by omega)] at h2;have e1:zs.getD k 0=zs[k]:=by simp[List.getD,hk]
     have e2:zs.getD (k - 1) 0=zs[k - 1]:=by simp[List.getD,show k - 1<zs.length by omega]
     rw[←e2,←h2,e1,hx]
  obtain ⟨j,hj,h1,h2⟩:=key k k hk (Nat.le_refl _) hx;refine List.mem_map.2 ⟨j,List.mem_filter.2 ⟨List.mem_range.2 hj,h2⟩,?_⟩;rw[e j hj];simp[List.getD,hj,h1]
end
section
open Go Go.Proofs
open Go.Shelf
def QkL:Go.Shelf.Ren:=⟨fun|43=>125|n=>n,fun|22=>82|23=>2|3=>3|4=>4|0=>0|n=>n,fun|n=>n⟩
theorem Qh0:Go.Proofs.SlLaysN.n43 Tryz.prog QkL:={
 mixed:=by kernel_rfl
 f43:=⟨Tryz.f125.name,by decide,Tryz.func125.trans (congrArg some (by kernel_rfl))⟩
 t0:=Tryz.underlying0
 a0:=Tryz.isAgg0
 z0:=Tryz.sizeOf0
 v0:=Tryz.zeroValue0
 t3:=Tryz.underlying3
 a3:=Tryz.isAgg3
 z3:=Tryz.sizeOf3
 v3:=Tryz.zeroValue3
 t4:=Tryz.underlying4
 a4:=Tryz.isAgg4
 z4:=Tryz.sizeOf4
 v4:=Tryz.zeroValue4
 t22:=Tryz.underlying82
 a22:=Tryz.isAgg82
 z22:=Tryz.sizeOf82
 v22:=Tryz.zeroValue82
 t23:=Tryz.underlying2
 a23:=Tryz.isAgg2
 z23:=Tryz.sizeOf2
 v23:=Tryz.zeroValue2
 i23:=by kernel_rfl}
open Go.RowKit Go.Lib Go.Sort in
theorem Qh1 (blk off cap:Nat) (zs:List Int) (w:World) (hH:Go.Sort.Holds (Value.int .i64) w blk off zs.toArray) (hsz:zs.length≤9223372036854775807) (hcap:zs.length≤cap):
  Calls Tryz.prog 125 #[.slice (some ⟨blk,off,none⟩) zs.length cap] w fun e w'=>e= .returned (.slice (some ⟨blk,off,none⟩) (Lib.compact zs).length cap)∧∃q,w'=putRow (Value.int .i64) (Sort.ahead w q) blk off (Lib.compact zs++List.replicate (zs.length - (Lib.compact zs).length) 0).toArray:=AnyG.slices_Compact_int Qh0 blk off cap zs w hH hsz hcap
open Go.RowKit Go.Lib Go.Sort in
theorem U7 (a:Option Addr) (cap:Nat) (w:World):
  Calls Tryz.prog 125 #[.slice a 0 cap] w fun e w'=>e= .returned (.slice a 0 cap)∧w'=w:=AnyG.slices_Compact_int_empty Qh0 a cap w
def QlV:Go.Shelf.Ren:=⟨fun|5=>124|8=>160|7=>159|19=>201|20=>138|10=>192|11=>193|12=>194|13=>195|14=>196|15=>197|16=>198|17=>199|18=>200|30=>228|31=>229|32=>230|33=>231|34=>232|35=>233|40=>250|n=>n,fun|23=>82|25=>2|3=>3|32=>184|22=>82|0=>0|44=>181|46=>134|4=>4|36=>260|35=>259|41=>264|5=>5|9=>9|53=>288|57=>292|63=>307|64=>308|n=>n,fun|n=>n⟩
theorem Qjw:Go.Proofs.SlLaysM.n5 Tryz.prog QlV:={
 mixed:=by kernel_rfl
 f5:=⟨Tryz.f124.name,by decide,Tryz.func124.trans (congrArg some (by kernel_rfl))⟩
 f7:=⟨Tryz.f159.name,by decide,Tryz.func159.trans (congrArg some (by kernel_rfl))⟩
 f8:=Tryz.func160.trans (congrArg some (by kernel_rfl))
 f10:=⟨Tryz.f192.name,by decide,Tryz.func192.trans (congrArg some (by kernel_rfl))⟩
 f11:=⟨Tryz.f193.name,by decide,Tryz.func193.trans (congrArg some (by kernel_rfl))⟩
 f12:=⟨Tryz.f194.name,by decide,Tryz.func194.trans (congrArg some (by kernel_rfl))⟩
 f13:=⟨Tryz.f195.name,by decide,Tryz.func195.trans (congrArg some (by kernel_rfl))⟩
 f14:=⟨Tryz.f196.name,by decide,Tryz.func196.trans (congrArg some (by kernel_rfl))⟩
 f15:=⟨Tryz.f197.name,by decide,Tryz.func197.trans (congrArg some (by kernel_rfl))⟩
 f16:=⟨Tryz.f198.name,by decide,Tryz.func198.trans (congrArg some (by kernel_rfl))⟩
 f17:=⟨Tryz.f199.name,by decide,Tryz.func199.trans (congrArg some (by kernel_rfl))⟩
 f18:=⟨Tryz.f200.name,by decide,Tryz.func200.trans (congrArg some (by kernel_rfl))⟩
 f19:=Tryz.func201.trans (congrArg some (by kernel_rfl))
 f20:=Tryz.func138.trans (congrArg some (by kernel_rfl))
 f30:=⟨Tryz.f228.name,by decide,Tryz.func228.trans (congrArg some (by kernel_rfl))⟩
 f31:=Tryz.func229.trans (congrArg some (by kernel_rfl))
 f32:=Tryz.func230.trans (congrArg some (by kernel_rfl))
 f33:=⟨Tryz.f231.name,by decide,Tryz.func231.trans (congrArg some (by kernel_rfl))⟩
 f34:=⟨Tryz.f232.name,by decide,Tryz.func232.trans (congrArg some (by kernel_rfl))⟩
 f35:=⟨Tryz.f233.name,by decide,Tryz.func233.trans (congrArg some (by kernel_rfl))⟩
 f40:=⟨Tryz.f250.name,by decide,Tryz.func250.trans (congrArg some (by kernel_rfl))⟩
 t0:=Tryz.underlying0
 a0:=Tryz.isAgg0
 z0:=Tryz.sizeOf0
 v0:=Tryz.zeroValue0
 t3:=Tryz.underlying3
 a3:=Tryz.isAgg3
 z3:=Tryz.sizeOf3
 v3:=Tryz.zeroValue3
 t4:=Tryz.underlying4
 a4:=Tryz.isAgg4
 z4:=Tryz.sizeOf4
 v4:=Tryz.zeroValue4
 t5:=Tryz.underlying5
 a5:=Tryz.isAgg5
 z5:=Tryz.sizeOf5
 v5:=Tryz.zeroValue5
 t9:=Tryz.underlying9
 a9:=Tryz.isAgg9
 z9:=Tryz.sizeOf9
 v9:=Tryz.zeroValue9
 t22:=Tryz.underlying82
 a22:=Tryz.isAgg82
 z22:=Tryz.sizeOf82
 v22:=Tryz.zeroValue82
 t23:=Tryz.underlying82
 a23:=Tryz.isAgg82
 z23:=Tryz.sizeOf82
 v23:=Tryz.zeroValue82
 t25:=Tryz.underlying2
 a25:=Tryz.isAgg2
 z25:=Tryz.sizeOf2
 v25:=Tryz.zeroValue2
 t32:=Tryz.underlying184
 a32:=Tryz.isAgg184
 z32:=Tryz.sizeOf184
 v32:=Tryz.zeroValue184
 t35:=Tryz.underlying259
 a35:=Tryz.isAgg259
 z35:=Tryz.sizeOf259
 v35:=Tryz.zeroValue259
 t36:=Tryz.underlying260
 a36:=Tryz.isAgg260
 z36:=Tryz.sizeOf260
 v36:=Tryz.zeroValue260
 t41:=Tryz.underlying264
 a41:=Tryz.isAgg264
 z41:=Tryz.sizeOf264
 v41:=Tryz.zeroValue264
 t44:=Tryz.underlying181
 a44:=Tryz.isAgg181
 z44:=Tryz.sizeOf181
 v44:=Tryz.zeroValue181
 t46:=Tryz.underlying134
 a46:=Tryz.isAgg134
 z46:=Tryz.sizeOf134
 v46:=Tryz.zeroValue134
 t53:=Tryz.underlying288
 a53:=Tryz.isAgg288
 z53:=Tryz.sizeOf288
 v53:=Tryz.zeroValue288
 t57:=Tryz.underlying292
 a57:=Tryz.isAgg292
 z57:=Tryz.sizeOf292
 v57:=Tryz.zeroValue292
 t63:=Tryz.underlying307
 a63:=Tryz.isAgg307
 z63:=Tryz.sizeOf307
 v63:=Tryz.zeroValue307
 t64:=Tryz.underlying308
 a64:=Tryz.isAgg308
 z64:=Tryz.sizeOf308
 v64:=Tryz.zeroValue308}
open Go.Sort Go.RowKit in
theorem QkM (blk off cap:Nat) (zs:List Int) (w:World) (hH:Go.Sort.Holds (Value.int .i64) w blk off zs.toArray) (hblk:blk<w.heap.size) (hsz:zs.length<4611686018427387904):
  Calls Tryz.prog 124 #[.slice (some ⟨blk,off,none⟩) zs.length cap] w fun e w'=>
   e= .returned (.tuple #[])∧∃n os,w'=grow (putRow (Value.int .i64) (Sort.ahead w n) blk off (zs.mergeSort fun x y=>decide (x≤y)).toArray) os:=AnyM.slices_Sort_int Qjw blk off cap zs w hH hblk hsz
open Go.RowKit Go.Sort in
theorem Qba (p:Option Addr) (cap:Nat) (w:World):
  Calls Tryz.prog 124 #[.slice p 0 cap] w fun e w'=>e= .returned (.tuple #[])∧w'=w:=AnyM.slices_Sort_int_none Qjw p cap w
section
open Go.RowKit
variable [L:Lam] {σ:AH} {R:AEnd→AH→Prop}
theorem QqJ {φ st:Nat} {xs:List Int} (hF:σ φ=some ⟨st,1,xs.map fun x=>[iv x]⟩) (hl:xs.length<4611686018427387904) (h:R (.ret (.tup [])) (σ.set φ ⟨st,1,(xs.mergeSort fun x y=>decide (x≤y)).map fun x=>[iv x]⟩)):
  acall TP Qhf [.own φ st 0 xs.length] σ R:=
 QtK Tryz.func124 rfl (by decide) (fun p cap w=>Qba p cap w) (fun blk off cap zs w h1 h2 h3=>QkM blk off cap zs w h1 h2 h3) hF hl h
theorem Qnb {φ st:Nat} {xs:List Int} (hF:σ φ=some ⟨st,1,xs.map fun x=>[iv x]⟩) (hl:xs.length<4611686018427387904)
  (h:R (.ret (.own φ st 0 (Lib.compact xs).length)) (σ.set φ ⟨st,1,(Lib.compact xs++List.replicate (xs.length - (Lib.compact xs).length) 0).map fun x=>[iv x]⟩)):acall TP QdO [.own φ st 0 xs.length] σ R:=
 QqI Tryz.func125 rfl (by decide) (fun p cap w=>U7 p cap w) (fun blk off cap zs w h1 h2 h3=>Qh1 blk off cap zs w h1 h2 h3) QgQ hF hl h
theorem QlW (h:R (.ret (.tup [])) σ):acall TP Qhf [.emp] σ R:=
 Qpt Tryz.func124 rfl (by decide) (fun p cap w=>Qba p cap w) h
theorem QiD (h:R (.ret .emp) σ):acall TP QdO [.emp] σ R:=
 QlU Tryz.func125 rfl (by decide) (fun p cap w=>U7 p cap w) h
end
end
section
variable [L:Lam] {σ:AH} {R:AEnd→AH→Prop}
abbrev ivs (xs:List Int):List (List AV):=xs.map fun x=>[iv x]
theorem Qwm {φ st off n:Nat} {es:List (List AV)} {x:Int} {k:AV→AH→Prop} (hF:σ φ=some ⟨st,1,es⟩) (hl:es.length=off+n) (hb:n+1≤4294967296)
  (h:∀ψ st',σ ψ=none→k (.own φ st' off (n+1)) ((σ.set ψ ⟨0,1,[[iv x]]⟩).set φ ⟨st',1,es++[[iv x]]⟩)):bsl 1 [iv 0] 1 [(0,iv x)] σ fun v σ=>app 1 (.own φ st off n) v σ k:=by
 refine ⟨by decide,?_⟩;rw[if_neg (by decide)];intro ψ hψ;have hne:φ≠ψ:=by rintro rfl;rw[hF] at hψ;cases hψ
 show app 1 (.own φ st off n) (.own ψ 0 0 1) (σ.set ψ ⟨0,1,[[iv x]]⟩) k;unfold app;have e:QL (σ.set ψ ⟨0,1,[[iv x]]⟩) (.own ψ 0 0 1)=some [[iv x]]:=by simp[QL]
 have e2:(σ.set ψ ⟨0,1,[[iv x]]⟩) φ=some ⟨st,1,es⟩:=by rw[AH.set_ne' hne];exact hF
 rw[e];simp only[e2];refine ⟨by simp,trivial,trivial,by omega,by simpa using hb,by intro c hc y hy;simp at hc;subst hc;simp at hy;subst hy;rfl,?_⟩;have c:¬off+n+[[iv x]].length≤es.length:=by simp;omega
 simp only[if_neg c];have e3:es.take (off+n)++[[iv x]]++es.drop (off+n+[[iv x]].length)=es++[[iv x]]:=by
  rw[List.take_of_length_le (by omega),List.drop_eq_nil_of_le (by simp;omega)];simp
 rw[e3];exact h ψ (st+1) hψ
theorem Qwn {x:Int} {k:AV→AH→Prop} (h:∀ψ φ,σ ψ=none→σ φ=none→φ≠ψ→k (.own φ 0 0 1) ((σ.set ψ ⟨0,1,[[iv x]]⟩).set φ ⟨0,1,[[iv x]]⟩)):bsl 1 [iv 0] 1 [(0,iv x)] σ fun v σ=>app 1 .emp v σ k:=by
 refine ⟨by decide,?_⟩;rw[if_neg (by decide)];intro ψ hψ;show app 1 .emp (.own ψ 0 0 1) (σ.set ψ ⟨0,1,[[iv x]]⟩) k;unfold app;have e:QL (σ.set ψ ⟨0,1,[[iv x]]⟩) (.own ψ 0 0 1)=some [[iv x]]:=by simp[QL]
 rw[e];refine ⟨by simp,by simp,by simp,fun _ φ hφ=>?_⟩;rw[AH.set_none] at hφ;exact h ψ φ hψ hφ.2 hφ.1
def Gr (σ τ:AH) (a:AV) (xs:List Int):Prop:=(a= .emp∧xs=[]∧τ=σ)∨∃φ st,σ φ=none∧a= .own φ st 0 xs.length∧τ=σ.set φ ⟨st,1,ivs xs⟩
theorem Gr.push {τ:AH} {a:AV} {xs:List Int} {x:Int} {k:AV→AH→Prop} (h:Gr σ τ a xs) (hb:xs.length+1≤4294967296) (hk:∀a' τ' τ'',Gr σ τ' a' (xs++[x])→AH.Sub τ' τ''→k a' τ''):bsl 1 [iv 0] 1 [(0,iv x)] τ fun v τ=>app 1 a v τ k:=by
 rcases h with ⟨rfl,rfl,rfl⟩|⟨φ,st,hφ,rfl,rfl⟩
 ·refine Qwn fun ψ φ h1 h2 h3=>hk _ (τ.set φ ⟨0,1,[[iv x]]⟩) _ (.inr ⟨φ,0,h2,rfl,rfl⟩) ?_
  exact AH.Sub.set_both (.set (.refl τ) _ h1) _ _
 ·refine Qwm (AH.set_same ..) (by simp) (by simpa using hb) fun ψ st' h1=>?_
  rw[AH.set_none] at h1;have e:((σ.set φ ⟨st,1,ivs xs⟩).set ψ ⟨0,1,[[iv x]]⟩).set φ ⟨st',1,ivs xs++[[iv x]]⟩=(σ.set ψ ⟨0,1,[[iv x]]⟩).set φ ⟨st',1,ivs (xs++[x])⟩:=by
   rw[AH.set_comm _ _ _ (Ne.symm h1.1),AH.set_set];simp[ivs]
  rw[e];exact hk _ (σ.set φ ⟨st',1,ivs (xs++[x])⟩) _ (.inr ⟨φ,st',hφ,by simp,rfl⟩) (AH.Sub.set_both (.set (.refl σ) _ h1.2) _ _)
def tgts (os:List OpD):List Int:=(os.map tgtN).filter fun t=>decide (0≤t)
theorem Qqc {os:List OpD} {i:Nat} (h:i<os.length):tgts (os.take (i+1))=tgts (os.take i)++if 0≤tgtN os[i] then [tgtN os[i]] else []:=by
 unfold tgts;rw[List.take_succ_eq_append_getElem h,List.map_append,List.filter_append]
 congr 1
 simp only[List.map_cons,List.map_nil,List.filter_cons,List.filter_nil,decide_eq_true_eq]
theorem Qnc (os:List OpD):(tgts os).length≤os.length:=by
 unfold tgts;exact Nat.le_trans (List.length_filter_le _ _) (by simp)
theorem Qwo {os:List OpD} {t:Int}:t∈tgts os↔0≤t∧∃o,o∈os∧tgtN o=t:=by
 unfold tgts;rw[List.mem_filter,List.mem_map,decide_eq_true_eq];constructor
 ·rintro ⟨⟨o,h1,h2⟩,h3⟩;exact ⟨h3,o,h1,h2⟩
 ·rintro ⟨h3,o,h1,h2⟩;exact ⟨⟨o,h1,h2⟩,h3⟩
def tgtL (os:List OpD):List Int:=Lib.compact ((tgts os).mergeSort fun x y=>decide (x≤y))
theorem Qwp {os:List OpD} {t:Int}:t∈tgtL os↔0≤t∧∃o,o∈os∧tgtN o=t:=by
 unfold tgtL;rw[Qsv,List.mem_mergeSort,Qwo]
theorem Qwq (os:List OpD):(tgtL os).length≤os.length:=by
 unfold tgtL;exact Nat.le_trans (QgQ _) (by simpa using Qnc os)
theorem Qwr:isPt TT Qi6=true:=by kernel_rfl
theorem QkN {b:Blk} (hs:smB b.ops) (hl:b.ops.length≤200)
  (h0:tgtL b.ops=[]→R (.ret .emp) σ)
  (h:∀φ st fs,σ φ=none→R (.ret (.own φ st 0 (tgtL b.ops).length)) (σ.set φ ⟨st,1,ivs (tgtL b.ops++fs)⟩)):acall TP Qco [.agg (QC b)] σ R:=by
 refine QlH ?_;unfold x88;dsimp only[den,dE,di,tupL,lTup,den2,den3,den4,List.map,den0,den1];refine QnU ?_;refine ⟨by decide,?_⟩;rw[if_pos rfl];simp only[RR,RT,QA];refine Ua b.ops.length (fun i x τ=>∃a,x=(a,roO b.ops,iv (b.ops.length:Int),iv (i:Int),())∧Gr σ τ a (tgts (b.ops.take i))) ⟨.emp,rfl,.inl ⟨rfl,rfl,rfl⟩⟩ ?_;rintro i _ τ hi ⟨a,rfl,hG⟩ R' hR';by_cases hlt:i<b.ops.length
 ·have g:(i:Int)<(b.ops.length:Int):=by omega
  have hso:=hs _ (List.getElem_mem hlt);simp only[g,jn,Qq hlt Q5,RR,RT];refine Qp7 rfl ?_;refine Qna ?_;simp only[Qh hlt (by omega),RR];refine QuQ hso Qwr (fun h0 p hp hq=>?_) (fun h0=>?_)
  ·simp only[hp,hq,RR];refine hG.push (by have:=Qnc (b.ops.take i);simp at this;omega) fun a' τ' τ'' hG' hsub=>?_
   exact hR' _ _ τ' hlt hsub ⟨a',rfl,by rw[Qqc hlt,if_pos h0];exact hG'⟩
  ·exact hR' _ _ τ hlt (.refl τ) ⟨a,rfl,by rw[Qqc hlt,if_neg (by omega),List.append_nil];exact hG⟩
 ·have g:¬(i:Int)<(b.ops.length:Int):=by omega
  obtain rfl:i=b.ops.length:=by omega
  rw[List.take_length] at hG;simp only[g,RR];rcases hG with ⟨rfl,he,rfl⟩|⟨φ,st,hφ,rfl,rfl⟩
  ·refine QlW ?_;simp only[RR];refine QiD ?_;simp only[RR];refine Qa (h0 ?_);unfold tgtL;rw[he];have:=QgQ (([]:List Int).mergeSort fun x y=>decide (x≤y));exact List.length_eq_zero_iff.1 (by simpa using this)
  ·have hlen:(tgts b.ops).length<4611686018427387904:=by have:=Qnc b.ops;omega
   refine QqJ (AH.set_same ..) hlen ?_;simp only[RR,AH.set_set];have e:(tgts b.ops).length=((tgts b.ops).mergeSort fun x y=>decide (x≤y)).length:=by simp
   rw[e];refine Qnb (AH.set_same ..) (by rw[←e];exact hlen) ?_;simp only[RR,AH.set_set];exact Qa (h φ st _ hφ)
end
section
variable [L:Lam]
inductive Nom:AV→Prop
 |val (v:Value):Nom (.val v)
 |own (φ st off n:Nat):Nom (.own φ st off n)
 |ptr (φ st i off:Nat):Nom (.ptr φ st i off)
 |emp:Nom .emp
 |agg {cs:List AV} (h:∀i,i<cs.length→Nom (cs.getD i .any)):Nom (.agg cs)
 |tup {cs:List AV} (h:∀i,i<cs.length→Nom (cs.getD i .any)):Nom (.tup cs)
theorem Nom.vr {κ κ':Kap} (hρ:κ'.ρ=κ.ρ) {a:AV} (hn:Nom a):∀{v:Value},VR κ a v→VR κ' a v:=by
 induction hn with
 |val u=>intro v h;cases h;exact .val _
 |own φ st off n=>
  intro v h;cases h with
  |own h1 h2 h3=>exact .own (by rw[hρ];exact h1) h2 h3
  |ownEnd h1 h2=>exact .ownEnd (by rw[hρ];exact h1) h2
 |ptr φ st i off=>
  intro v h;cases h with
  |ptr h1 h2=>exact .ptr (by rw[hρ];exact h1) h2
 |emp=>intro v h;cases h;exact .emp _
 |agg h ih=>
  intro v k;cases k with
  |agg hl h2=>exact .agg hl fun i hi=>ih i hi (h2 i hi)
 |tup h ih=>
  intro v k;cases k with
  |tup hl h2=>exact .tup hl fun i hi=>ih i hi (h2 i hi)
def NomH (σ:AH):Prop:=∀φ F,σ φ=some F→∀i j,i<F.es.length→j<F.sz→Nom ((F.es.getD i []).getD j .any)
def NomE:AEnd→Prop
 | .ret a=>Nom a
 | .pan a=>Nom a
def thaw (σ0 σ σ1:AH):AH:=fun φ=>match σ φ,σ0 φ with
 |some F,none=>some F
 |_,_=>σ1 φ
theorem Qqd {σ0 σ σ1:AH} {φ:Nat} {F:Fam} (h:σ φ=some F) (h0:σ0 φ=none):thaw σ0 σ σ1 φ=some F:=by simp[thaw,h,h0]
theorem Qcz {σ0 σ σ1:AH} {φ:Nat} (h:σ φ=none∨σ0 φ≠none):thaw σ0 σ σ1 φ=σ1 φ:=by
 unfold thaw;rcases h with h|h
 ·rw[h]
 ·cases e:σ φ with
  |none=>rfl
  |some F=>
   cases e0:σ0 φ with
   |none=>exact absurd e0 h
   |some G=>rfl
theorem Qab {σ0 σ σ1:AH} {φ:Nat} {F:Fam} (h:thaw σ0 σ σ1 φ=some F):(σ φ=some F∧σ0 φ=none)∨((σ φ=none∨σ0 φ≠none)∧σ1 φ=some F):=by
 cases e:σ φ with
 |none=>right;rw[Qcz (.inl e)] at h;exact ⟨.inl rfl,h⟩
 |some G=>
  cases e0:σ0 φ with
  |none=>left;rw[Qqd e e0] at h;exact ⟨h,rfl⟩
  |some K=>right;rw[Qcz (.inr (by rw[e0];simp))] at h;exact ⟨.inr (by simp),h⟩
open Classical in
noncomputable def kapT (σ0 σ:AH) (κ κ1:Kap):Kap:=
 {κ1 with M:=fun b o=>if ∃φ F r,σ φ=some F∧σ0 φ=none∧κ.ρ φ F.st=some r∧r.b=b then none else κ1.M b o}
open Classical in
theorem Qoi {P:Program} {f:FuncId} {args args':List AV} {σ0 σ:AH} {Q:AEnd→AH→Prop} (hs:AH.Sub σ0 σ) (hl:args.length=args'.length) (hf:∀i,i<args.length→Fz σ0 σ (args.getD i .any) (args'.getD i .any))
  (h:acall P f args' σ0 fun e σ1=>NomE e∧NomH σ1∧Q e σ1):
  acall P f args σ fun e σ'=>∃σ1,Q e σ1∧σ'=thaw σ0 σ σ1∧∀φ F,σ φ=some F→σ0 φ=none→σ1 φ=none:=by
 obtain ⟨fn,h1,h2,h3,h4⟩:=h;refine ⟨fn,h1,h2,h3,fun κ w vs hr hv=>?_⟩;obtain ⟨hS,hV⟩:=Qbh hs hr;have hv':VRs (kapF σ0 σ κ w) args' vs:=⟨hl▸hv.1,fun i hi=>hV _ _ _ (hf i (hl▸hi)) (hv.2 i (hl▸hi))⟩;refine (h4 _ w vs hS.rel hv').mono ?_;rintro e w' ⟨κ1,ae,σ1,⟨hne,hnh,hq⟩,hT,hE⟩;have hρF:(kapF σ0 σ κ w).ρ=κ.ρ:=rfl
 -- the blocks that were lent
 have lent:∀b,(∃φ F r,σ φ=some F∧σ0 φ=none∧κ.ρ φ F.st=some r∧r.b=b)→b<w.heap.size∧w'.heap[b]? =w.heap[b]? ∧(∀φ F r,σ1 φ=some F→κ1.ρ φ F.st=some r→r.b≠b):=by
  rintro b ⟨φ,F,r,hF,h0,hρ,rfl⟩;have hb:=hr.block_lt hF hρ;refine ⟨hb,?_⟩;have key:=hT.fra.blk r.b hb (fun ψ G s hG hs'=>?_)
  ·exact ⟨key.1,key.2.2⟩
  ·have hψ:ψ≠φ:=by rintro rfl;rw[h0] at hG;cases hG
   exact hr.inj ψ φ G F s r (hs ψ G hG) hF hs' hρ hψ
 have ids:∀φ F,σ φ=some F→σ0 φ=none→σ1 φ=none∧∀st,κ1.ρ φ st=κ.ρ φ st:=by
  intro φ F hF h0;obtain ⟨r,hρ,_,_⟩:=hr.has φ F hF;exact hT.fra.ids φ h0 ⟨_,r,hρ⟩
 have hρ1:∀φ st r,κ.ρ φ st=some r→κ1.ρ φ st=some r:=fun φ st r h=>hT.ext.ρ φ st r h
 have hM1:∀b o v,κ.M b o=some v→¬(∃φ F r,σ φ=some F∧σ0 φ=none∧κ.ρ φ F.st=some r∧r.b=b):=by
  rintro b o v hm ⟨φ,F,r,hF,h0,hρ,rfl⟩;rw[hr.off φ F r hF hρ o] at hm;cases hm
 have hext:Ext κ (kapT σ0 σ κ κ1):=by
  refine ⟨hρ1,fun b o v hm=>?_,hT.ext.B,hT.ext.W⟩;have hn:=hM1 b o v hm;show (if _ then none else κ1.M b o)=some v;rw[if_neg hn];refine hT.ext.M b o v ?_;show (if _ then _ else κ.M b o)=some v;rw[if_neg hn];exact hm
 have hB:(kapT σ0 σ κ κ1).B=κ.B:=hT.ext.B;refine ⟨kapT σ0 σ κ κ1,ae,thaw σ0 σ σ1,⟨σ1,hq,rfl,fun φ F hF h0=>(ids φ F hF h0).1⟩,⟨hext,?_,?_⟩,?_⟩
 ·refine ⟨?_,?_,?_,?_,?_,?_,?_,?_,hT.rel.obj,Lam.kpm _ _ hext hr.kp⟩
  ·intro φ F hF;rcases Qab hF with ⟨hF,h0⟩|⟨_,hF⟩
   ·obtain ⟨r,hρ,hb,hH⟩:=hr.has φ F hF;exact ⟨r,hρ1 _ _ _ hρ,by rw[hB];exact hb,hH.same hext (lent r.b ⟨φ,F,r,hF,h0,hρ,rfl⟩).2.1⟩
   ·obtain ⟨r,hρ,hb,hH⟩:=hT.rel.has φ F hF;refine ⟨r,hρ,hb,⟨hH.sz,hH.len,hH.row,hH.free,hH.esz,fun i j hlo hi hj=>?_⟩⟩;obtain ⟨v,hc,hv⟩:=hH.cell i j hlo hi hj;exact ⟨v,hc,(hnh φ F hF i j hi hj).vr (κ:=κ1) (κ':=kapT σ0 σ κ κ1) rfl hv⟩
  ·intro φ ψ F G r s hF hG hr1 hs1 hne;rcases Qab hF with ⟨hF,h0⟩|⟨_,hF⟩
   ·have hρF':κ.ρ φ F.st=some r:=by rw[←(ids φ F hF h0).2];exact hr1
    rcases Qab hG with ⟨hG,h0'⟩|⟨_,hG⟩
    ·have hρG':κ.ρ ψ G.st=some s:=by rw[←(ids ψ G hG h0').2];exact hs1
     exact hr.inj φ ψ F G r s hF hG hρF' hρG' hne
    ·exact Ne.symm ((lent r.b ⟨φ,F,r,hF,h0,hρF',rfl⟩).2.2 ψ G s hG hs1)
   ·rcases Qab hG with ⟨hG,h0'⟩|⟨_,hG⟩
    ·have hρG':κ.ρ ψ G.st=some s:=by rw[←(ids ψ G hG h0').2];exact hs1
     exact (lent s.b ⟨ψ,G,s,hG,h0',hρG',rfl⟩).2.2 φ F r hF hr1
    ·exact hT.rel.inj φ ψ F G r s hF hG hr1 hs1 hne
  ·intro b o v hm;have hm':(if ∃φ F r,σ φ=some F∧σ0 φ=none∧κ.ρ φ F.st=some r∧r.b=b then none else κ1.M b o)=some v:=hm;split at hm'
   ·cases hm'
   ·exact hT.rel.mem b o v hm'
  ·intro φ F r hF hρ o;show (if _ then none else κ1.M r.b o)=none;split
   ·rfl
   ·rename_i hn;rcases Qab hF with ⟨hF,h0⟩|⟨_,hF⟩
    ·exact absurd ⟨φ,F,r,hF,h0,by rw[←(ids φ F hF h0).2];exact hρ,rfl⟩ hn
    ·exact hT.rel.off φ F r hF hρ o
  ·intro φ F st hF hst;rcases Qab hF with ⟨hF,h0⟩|⟨_,hF⟩
   ·show κ1.ρ φ st=none;rw[(ids φ F hF h0).2];exact hr.up φ F st hF hst
   ·exact hT.rel.up φ F st hF hst
  ·obtain ⟨n1,k1⟩:=hr.fin;obtain ⟨n2,k2⟩:=hT.rel.fin;refine ⟨max n1 n2,fun φ hφ=>?_⟩;obtain ⟨a1,a2⟩:=k1 φ (by omega);obtain ⟨b1,b2⟩:=k2 φ (by omega);exact ⟨by rw[Qcz (.inl a1)];exact b1,b2⟩
  ·exact hT.rel.bel
  ·exact hT.rel.bw
 ·refine ⟨hT.fra.size,fun b hb hu=>?_,fun φ hn hex=>?_⟩
  ·have hnl:¬(∃φ F r,σ φ=some F∧σ0 φ=none∧κ.ρ φ F.st=some r∧r.b=b):=by
    rintro ⟨φ,F,r,hF,_,hρ,e⟩;exact hu φ F r hF hρ e
   obtain ⟨c1,c2,c3⟩:=hT.fra.blk b hb (fun φ F r hF hρ=>hu φ F r (hs φ F hF) hρ);refine ⟨c1,fun o=>?_,fun φ F r hF hρ=>?_⟩
   ·show (if _ then none else κ1.M b o)=κ.M b o;rw[if_neg hnl,c2 o];show (if _ then _ else κ.M b o)=κ.M b o;rw[if_neg hnl]
   ·rcases Qab hF with ⟨hF,h0⟩|⟨_,hF⟩
    ·exact hu φ F r hF (by rw[←(ids φ F hF h0).2];exact hρ)
    ·exact c3 φ F r hF hρ
  ·have hn0:σ0 φ=none:=hs.none hn;obtain ⟨c1,c2⟩:=hT.fra.ids φ hn0 hex;exact ⟨by rw[Qcz (.inl hn)];exact c1,c2⟩
 ·cases ae with
  |ret a=>
   cases e with
   |returned v=>exact (show Nom a from hne).vr (κ:=κ1) (κ':=kapT σ0 σ κ κ1) rfl hE
   |_=>exact hE.elim
  |pan a=>
   cases e with
   |panicked ch=>
    obtain ⟨v,e1,e2⟩:=hE;exact ⟨v,e1,(show Nom a from hne).vr (κ:=κ1) (κ':=kapT σ0 σ κ κ1) rfl e2⟩
   |_=>exact hE.elim
end
section
variable [L:Lam] {σ τ:AH} {R:AEnd→AH→Prop}
theorem Qsw {T:Tab} {s d:TypeId} {x:AV} {es:List (List AV)} {bs:List UInt8} {k:AV→AH→Prop} (hb:QgX T s d=true) (hx:QL σ x=some es) (ha:Qde es=some bs) (hn:∀u,x≠ .val (.string u)) (hi:∀kd n,x≠ .val (.int kd n))
  (h:k (.val (.string ⟨bs.toArray⟩)) σ):Qd4 T s d x σ k:=by
 unfold QgX at hb;split at hb
 case h_2=>cases hb
 rename_i ts td h1 h2;split at hb
 case h_2=>cases hb
 rename_i e h3 h4;split at hb
 case h_2=>cases hb
 rename_i te h5;split at hb
 case h_2=>cases hb
 rename_i h6;unfold Qd4;simp only[h1,h2,h3,h4,h5,h6,hx,ha];exact ⟨Nat.eq_of_beq_eq_true hb,hn,h⟩
theorem QiE (a b:ByteArray) (h:a.size+b.size≤4611686018427387904):sbin .add (.val (.string a)) (.val (.string b))=some (.val (.string (a++b))):=by
 show Option.map AV.val (if a.size+b.size≤4611686018427387904 then some (.string (a++b)) else none)=_;rw[if_pos h];rfl
theorem Qws (x:UInt8):(⟨[x].toArray⟩:ByteArray).size=1:=rfl
theorem Qqe:(⟨#[]⟩:ByteArray).size=0:=rfl
theorem Qwt:QgX TT QBS ty_s=true:=by kernel_rfl
end
section
set_option maxRecDepth 100000
variable [L:Lam]
def itB (n:Int):ByteArray:=⟨(Lib.itoa n).toArray⟩
theorem QrE {a b:List UInt8} (h:bs a=bs b):a=b:=by
 have:=congrArg (fun x:ByteArray=>x.data.toList) h;simpa using this
theorem Qdr (a b:List UInt8):bs a++bs b=bs (a++b):=by
 apply ByteArray.ext
 simp[ByteArray.data_append]
def isDg (c:UInt8):Bool:=decide (48≤c.toNat)&&decide (c.toNat≤57)
theorem QbP {c:UInt8}:isDg c=true↔48≤c.toNat∧c.toNat≤57:=by unfold isDg;rw[Bool.and_eq_true,decide_eq_true_iff,decide_eq_true_iff]
def val (acc:Nat) (l:List UInt8):Nat:=l.foldl (fun a c=>a*10+(c.toNat - 48)) acc
theorem QrF (acc:Nat) (c:UInt8) (l:List UInt8):val acc (c::l)=val (acc*10+(c.toNat - 48)) l:=by unfold val;rw[List.foldl_cons]
theorem Qwu {d:Nat} (h:d<10):(UInt8.ofNat (48+d)).toNat=48+d:=by
 rw[UInt8.toNat_ofNat'];omega
theorem Qxr {d:Nat} (h:d<10):isDg (UInt8.ofNat (48+d))=true:=by
 rw[QbP,Qwu h];omega
theorem QdJ {u:Nat} (h:¬u<10):Lib.decDigits u=Lib.decDigits (u / 10)++[UInt8.ofNat (48+u % 10)]:=by rw[Lib.decDigits,dif_neg h]
theorem QkO:∀(u:Nat),∀c,c∈Lib.decDigits u→isDg c=true:=by
 intro u
 induction u using Nat.strongRecOn with
 |_ u ih=>
  intro c hc;by_cases h:u<10
  ·rw[Lib.decDigits_one h] at hc;rw[List.mem_singleton.1 hc];exact Qxr h
  ·rw[QdJ h] at hc;rcases List.mem_append.1 hc with hc|hc
   ·exact ih _ (by omega) c hc
   ·rw[List.mem_singleton.1 hc];exact Qxr (by omega)
theorem QdK:∀(k u:Nat),u<10 ^ (k+1)→1≤(Lib.decDigits u).length∧(Lib.decDigits u).length≤k+1:=by
 intro k
 induction k with
 |zero=>
  intro u h;rw[Lib.decDigits_one (by simpa using h)];simp
 |succ k ih=>
  intro u h;by_cases c:u<10
  ·rw[Lib.decDigits_one c];simp
  ·rw[QdJ c];have:=ih (u / 10) (by rw[Nat.pow_succ] at h;omega);simp only[List.length_append,List.length_cons,List.length_nil];omega
def sgnB (l:List UInt8):Bool:=match l with|c::_=>decide (c.toNat=45)|[]=>false
def dgsB (l:List UInt8):List UInt8:=if sgnB l then l.tail else l
def J2 (l:List UInt8):Bool:=decide (1≤(dgsB l).length)&&decide ((dgsB l).length≤10)&&(dgsB l).all isDg
def parV (l:List UInt8):Int:=if sgnB l then -(val 0 (dgsB l):Nat) else (val 0 (dgsB l):Nat)
theorem Qjx:∀(l:List UInt8) (acc:Nat),(∀c,c∈l→isDg c=true)→(acc+1)*10 ^ l.length≤1000000000000000000→Lib.parseUintM 18446744073709551615 acc l= .ok (val acc l)∧val acc l<(acc+1)*10 ^ l.length:=by
 intro l
 induction l with
 |nil=>intro acc _ _;exact ⟨rfl,by simp[val]⟩
 |cons c l ih=>
  intro acc hd hb;have h1:=QbP.1 (hd c (.head _));rw[List.length_cons,Nat.pow_succ] at hb ⊢;have hp:1≤10 ^ l.length:=Nat.one_le_pow _ _ (by decide);have e:(acc+1)*(10 ^ l.length*10)=((acc+1)*10)*10 ^ l.length:=by rw[Nat.mul_comm (10 ^ l.length) 10,Nat.mul_assoc]
  rw[e] at hb ⊢;have h2:(acc*10+(c.toNat - 48)+1)*10 ^ l.length≤((acc+1)*10)*10 ^ l.length:=Nat.mul_le_mul_right _ (by omega);have h3:(acc+1)*10≤((acc+1)*10)*10 ^ l.length:=Nat.le_mul_of_pos_right _ hp;obtain ⟨i1,i2⟩:=ih (acc*10+(c.toNat - 48)) (fun x hx=>hd x (.tail _ hx)) (by omega);refine ⟨?_,by rw[QrF];omega⟩;rw[Lib.parseUintM,if_pos h1,if_neg (by omega),if_neg (by omega),i1,QrF]
theorem QBB {l:List UInt8} (hd:∀c,c∈l→isDg c=true) (hl:l.length≤10):val 0 l<10 ^ l.length:=by
 have hp:10 ^ l.length≤10 ^ 10:=Nat.pow_le_pow_right (by decide) hl;have:=(Qjx l 0 hd (by rw[Nat.zero_add,Nat.one_mul];omega)).2;omega
theorem Qnd {l:List UInt8} (hd:∀c,c∈l→isDg c=true) (hl:l.length≤10):val 0 l<10000000000:=by
 have:=QBB hd hl;have hp:10 ^ l.length≤10 ^ 10:=Nat.pow_le_pow_right (by decide) hl;omega
def QbD (l:List UInt8):Bool:=J2 l&&(inB (-1000000000) 1000000000 (parV l)&&decide (itB (parV l)=bs l))
variable {σ τ:AH} {R:AEnd→AH→Prop}
theorem QtL {x:Int} (h0:0≤x) (h1:x≤255):IntKind.u8.wrap x=x:=by
 have e:x % (2 ^ IntKind.u8.bits:Int)=x:=Int.emod_eq_of_lt h0 (by simp[IntKind.bits];omega);unfold IntKind.wrap;simp[e,IntKind.signed]
theorem Qpu {n:Nat} (hn:n<10) (h:R (.ret (str (bs (Lib.decDigits n)))) σ):acall TP UB [iv (n:Int)] σ R:=by
 refine QaJ ?_;unfold x22;dsimp only[den,dE,di,dwat,Qf,List.map,den0,den1];have g1:¬(n:Int)<0:=by omega
 have g2:(n:Int)<10:=by omega
 have e2:ibin .add (iv 48) (iv (n:Int))=some (iv (48+(n:Int))):=Jk (by omega) (by omega);have e3:UI .u8 (iv (48+(n:Int)))=some (.val (.int .u8 (48+(n:Int)))):=by
  show some (AV.val (.int .u8 (IntKind.u8.wrap (48+(n:Int)))))=_;rw[QtL (by omega) (by omega)]
 simp only[g1,g2,e2,e3,RR];refine ⟨by decide,?_⟩;rw[if_neg (by decide)];intro ψ hψ;have ha:∀w:Int,QL (σ.set ψ ⟨0,1,[[.val (.int .u8 w)]]⟩) (.own ψ 0 0 1)=some [[.val (.int .u8 w)]]:=fun w=>by simp[QL]
 have hb:∀w:Int,Qde [[.val (.int .u8 w)]]=some [UInt8.ofNat w.toNat]:=fun w=>rfl
 refine Qsw Qwt (ha _) (hb _) (by intro u h;cases h) (by intro kd n h;cases h) ?_;have e:(⟨[UInt8.ofNat (48+(n:Int)).toNat].toArray⟩:ByteArray)=bs (Lib.decDigits n):=by
  rw[Lib.decDigits_one hn,show (48+(n:Int)).toNat=48+n by omega]
 rw[e];exact Uk (.set (.refl σ) _ hψ) h
theorem QcM:∀(n:Nat),n≤10000000000→∀{σ:AH} {R:AEnd→AH→Prop},R (.ret (str (bs (Lib.decDigits n)))) σ→acall TP UB [iv (n:Int)] σ R:=by
 intro n
 induction n using Nat.strongRecOn with
 |_ n ih=>
  intro hn σ R h;by_cases c:n<10
  ·refine Qpu c ?_;exact h
  refine QaJ ?_;unfold x22;dsimp only[den,dE,di,dwat,Qf,List.map,den0,den1];have g1:¬(n:Int)<0:=by omega
  have g2:¬(n:Int)<10:=by omega
  have e0:ibin .quo (iv (n:Int)) (iv 10)=some (iv ((n / 10:Nat):Int)):=by
   show some (iv (IntKind.i64.wrap ((n:Int).tdiv 10)))=_;rw[Int.tdiv_eq_ediv_of_nonneg (by omega),QbK (by omega) (by omega)];rfl
  have e1:ibin .rem (iv (n:Int)) (iv 10)=some (iv ((n % 10:Nat):Int)):=by
   show some (iv ((n:Int).tmod 10))=_;rw[Int.tmod_eq_emod_of_nonneg (by omega)];rfl
  have e2:ibin .add (iv 48) (iv ((n % 10:Nat):Int))=some (iv (48+((n % 10:Nat):Int))):=Jk (by omega) (by omega);have e3:UI .u8 (iv (48+((n % 10:Nat):Int)))=some (.val (.int .u8 (48+((n % 10:Nat):Int)))):=by
   show some (AV.val (.int .u8 (IntKind.u8.wrap _)))=_;rw[QtL (by omega) (by omega)]
  have e4:∀w:Int,bslR 1 [.val (.int .u8 0)] 1 [(0,.val (.int .u8 w))]=some (.ro [[.val (.int .u8 w)]]):=fun w=>by
   show (if 1*1≤2 ^ 24∧(∀c,c∈[[AV.val (.int .u8 w)]]→c.length=1) then some (if 1=0 then AV.emp else .ro [[.val (.int .u8 w)]]) else none)=_;rw[if_pos ⟨by decide,by simp⟩];rfl
  have e5:∀w:Int,b2s (.ro [[.val (.int .u8 w)]])=some (str ⟨[UInt8.ofNat w.toNat].toArray⟩):=fun w=>rfl
  simp only[g1,g2,e0,e1,e2,e3,e4,e5,RR];refine ih (n / 10) (by omega) (by omega) ?_;have hl:=QdK 10 (n / 10) (by omega);have e6:=QiE (bs (Lib.decDigits (n / 10))) ⟨[UInt8.ofNat (48+((n % 10:Nat):Int)).toNat].toArray⟩ (by rw[Qm,Qws];omega);have e7:bs (Lib.decDigits (n / 10))++⟨[UInt8.ofNat (48+((n % 10:Nat):Int)).toNat].toArray⟩=bs (Lib.decDigits n):=by
   rw[QdJ c,←Qdr,show (48+((n % 10:Nat):Int)).toNat=48+n % 10 by omega]
  rw[e7] at e6;refine ⟨trivial,?_⟩;simp only[e6,RR];exact Qa h
theorem QsX {v:Int} (h0: -9223372036854775808≤ -v) (h1: -v≤9223372036854775807):aun .neg (iv v)=some (iv (-v)):=by
 show some (iv (IntKind.i64.wrap (0 - v)))=_;rw[Int.zero_sub,QbK h0 h1]
theorem JC {v:Int} (h0: -1000000000≤v) (h1:v≤1000000000) (h:R (.ret (str (itB v))) σ):acall TP UB [iv v] σ R:=by
 unfold itB Lib.itoa at h;by_cases c:v<0
 ·rw[if_pos c] at h;refine QaJ ?_;unfold x22;dsimp only[den,dE,di,dwat,Qf,List.map,den0,den1];have e1: -v=((v.natAbs:Nat):Int):=by omega
  simp only[c,QsX (show -9223372036854775808≤ -v by omega) (show -v≤9223372036854775807 by omega),RR];rw[e1];refine QcM _ (by omega) ?_;have hl:=QdK 10 v.natAbs (by omega);have e6:=QiE ⟨#[45]⟩ (bs (Lib.decDigits v.natAbs)) (by rw[Qm (Lib.decDigits v.natAbs)];show 1+(Lib.decDigits v.natAbs).length≤4611686018427387904;omega);have e7:(⟨#[45]⟩:ByteArray)++bs (Lib.decDigits v.natAbs)=bs (45::Lib.decDigits v.natAbs):=Qdr [45] _;rw[e7] at e6;simp only[e6,RR];exact Qa h
 ·rw[if_neg c] at h;have e1:v=((v.toNat:Nat):Int):=by omega
  rw[e1];exact QcM _ (by omega) h
theorem Qwv {l:List UInt8} {j:Nat} (h:j<l.length):val 0 (l.take (j+1))=val 0 (l.take j)*10+(l[j].toNat - 48):=by
 rw[List.take_succ_eq_append_getElem h];unfold val;rw[List.foldl_append,List.foldl_cons,List.foldl_nil]
theorem sub8 {x:Int} (h0:48≤x) (h1:x≤255):ibin .sub (u8v x) (u8v 48)=some (u8v (x - 48)):=by
 show some (u8v (IntKind.u8.wrap (x - 48)))=_;rw[QtL (by omega) (by omega)]
theorem QB2 {x:Int} (h0:0≤x) (h1:x≤255):UI .i64 (u8v x)=some (iv x):=by
 show some (iv (IntKind.i64.wrap x))=_;rw[QbK (by omega) (by omega)]
theorem J3 {X:Type} {B:X→AH→Prop} {E:(X→AH→Prop)→Prop} (P:X→AH→Prop) (hB:∀x σ,P x σ→B x σ) (hE:∀k:X→AH→Prop,(∀x σ,P x σ→k x σ)→E k):jn B E:=hE B hB
theorem Qpv {l:List UInt8} (hl:l.length≤1048576) (h1:J2 l=true→R (.ret (.tup [iv (parV l),bv (inB (-1000000000) 1000000000 (parV l)&&decide (itB (parV l)=bs l))])) σ)
  (h0:J2 l=false→R (.ret (.tup [iv 0,bv false])) σ):acall TP Qf3 [str (bs l)] σ R:=by
 have fin:∀v:Int,J2 l=true→v=parV l→acall TP QdC [iv v] σ (onr (fun v58 σ=>
   og (gval v58 true false (some (iv v))) fun v60=>
   gpick v58 (acall TP UB [v60] σ (onr (fun v61 σ=>og (sbin .eql v61 (str (bs l))) fun v63=>aret (.tup [iv v,v63]) σ R) (fun v σ=>apan v σ R))) (aret (.tup [iv v,bv false]) σ R) False) (fun v σ=>apan v σ R)):=by
  rintro v hok rfl;have h1:=h1 hok;refine QkG ?_;unfold numB;cases c:inB (-1000000000) 1000000000 (parV l) with
  |false=>
   rw[c] at h1;simp only[RR];exact Qa h1
  |true=>
   rw[c] at h1;have:=Js.1 c;simp only[RR];refine JC this.1 this.2 ?_;simp only[Jy,RR];exact Qa h1
 refine QlQ ?_;unfold x236;dsimp only[den,dE,di,tupL,lTup,den2,den3,den4,List.map,den0,den1];have dm:∀m:Nat,m≤l.length→dgsB l=l.drop m→(dgsB l).length=l.length - m:=fun m h e=>by rw[e,List.length_drop]
 refine J3 (P:=fun x τ=>τ=σ∧∃m:Nat,x=(str (bs l),iv (m:Int),())∧m≤l.length∧dgsB l=l.drop m∧sgnB l=decide ((m:Int)=1)) ?_ ?_
 ·rintro x τ ⟨rfl,m,rfl,hm,hd,hs⟩;have hlen:=dm m hm hd;have s1:ibin .sub (iv (l.length:Int)) (iv (m:Int))=some (iv ((dgsB l).length:Int)):=by
   rw[QU (by omega) (by omega)];congr 3;omega
  simp only[Qm,s1,RR];by_cases c1:((dgsB l).length:Int)<1
  ·have hn:J2 l=false:=by
    unfold J2;rw[decide_eq_false (by omega)];rfl
   simp only[c1,RR];exact Qa (h0 hn)
  by_cases c2:10<((dgsB l).length:Int)
  ·have hn:J2 l=false:=by
    unfold J2;rw[decide_eq_false (show ¬(dgsB l).length≤10 by omega),Bool.and_false];rfl
   simp only[c1,c2,s1,Qm,RR];exact Qa (h0 hn)
  simp only[c1,c2,s1,Qm,RR];refine UV (dgsB l).length (fun j=>(str (bs l),iv (m:Int),iv ((val 0 ((dgsB l).take j):Nat):Int),iv ((m+j:Nat):Int),())) (fun j=>∀c,c∈(dgsB l).take j→isDg c=true) rfl (by simp) ?_;intro j hj hH R2 hR2;by_cases c3:j<(dgsB l).length
  ·have g1:((m+j:Nat):Int)<(l.length:Int):=by omega
   have hmj:m+j<l.length:=by omega
   have eb:l[m+j]=(dgsB l)[j]:=by
    have:(dgsB l)[j]? =(l.drop m)[j]? :=by rw[hd]
    rw[List.getElem?_eq_getElem c3,List.getElem?_drop,List.getElem?_eq_getElem hmj] at this;exact (Option.some.inj this).symm
   have ix:=Q6 hmj;rw[eb] at ix;have bad:isDg (dgsB l)[j]=false→J2 l=false:=by
    intro hf;unfold J2;have:(dgsB l).all isDg=false:=by
     rw[Bool.eq_false_iff];intro ha;have:=List.all_eq_true.1 ha _ (List.getElem_mem c3);rw[hf] at this;cases this
    rw[this,Bool.and_false]
   have hb:((dgsB l)[j].toNat:Nat)<256:=(dgsB l)[j].toNat_lt;by_cases c4:(((dgsB l)[j].toNat:Nat):Int)<48
   ·have hf:isDg (dgsB l)[j]=false:=by
     rw[Bool.eq_false_iff];intro ht;have:=QbP.1 ht;omega
    simp only[Qm,g1,ix,JH,c4,RR];exact Qa (h0 (bad hf))
   by_cases c5:57<(((dgsB l)[j].toNat:Nat):Int)
   ·have hf:isDg (dgsB l)[j]=false:=by
     rw[Bool.eq_false_iff];intro ht;have:=QbP.1 ht;omega
    simp only[Qm,g1,ix,JH,c4,c5,RR];exact Qa (h0 (bad hf))
   have ht:isDg (dgsB l)[j]=true:=QbP.2 (by omega);have hv:=Qnd hH (by rw[List.length_take];omega);have hsub:=sub8 (x:=(((dgsB l)[j].toNat:Nat):Int)) (by omega) (by omega);have hcv:=QB2 (x:=(((dgsB l)[j].toNat:Nat):Int) - 48) (by omega) (by omega);have e1:ibin .mul (iv ((val 0 ((dgsB l).take j):Nat):Int)) (iv 10)=some (iv (((val 0 ((dgsB l).take j):Nat):Int)*10)):=Qv7 (by omega) (by omega);have e2:ibin .add (iv (((val 0 ((dgsB l).take j):Nat):Int)*10)) (iv ((((dgsB l)[j].toNat:Nat):Int) - 48))=some (iv ((val 0 ((dgsB l).take (j+1)):Nat):Int)):=by
    rw[Jk (by omega) (by omega),Qwv c3];congr 3;omega
   have e3:ibin .add (iv ((m+j:Nat):Int)) (iv 1)=some (iv ((m+(j+1):Nat):Int)):=by
    rw[Jk (by omega) (by omega)];congr 3
   simp only[Qm,g1,ix,JH,c4,c5,e1,hsub,hcv,e2,e3,RR];refine hR2 c3 ?_ _ (.refl _);intro c hc;rw[List.take_succ_eq_append_getElem c3] at hc;rcases List.mem_append.1 hc with hc|hc
   ·exact hH c hc
   ·rw[List.mem_singleton.1 hc];exact ht
  ·obtain rfl:j=(dgsB l).length:=by omega
   have g1:¬((m+(dgsB l).length:Nat):Int)<(l.length:Int):=by omega
   rw[List.take_length] at hH ⊢;have hok:J2 l=true:=by
    unfold J2;rw[Bool.and_eq_true,Bool.and_eq_true,decide_eq_true_iff,decide_eq_true_iff,List.all_eq_true];exact ⟨⟨by omega,by omega⟩,hH⟩
   have hv:=Qnd hH (by omega);simp only[Qm,g1,jn,RR];by_cases c6:(m:Int)=1
   ·rw[decide_eq_true c6] at hs;simp only[c6,QsX (v:=((val 0 (dgsB l):Nat):Int)) (by omega) (by omega),RR];exact fin _ hok (by unfold parV;rw[hs];rfl)
   ·rw[decide_eq_false c6] at hs;simp only[c6,RR];exact fin _ hok (by unfold parV;rw[hs];rfl)
 ·intro k hk;cases l with
  |nil=>
   simp only[Qm,List.length_nil,RR];exact hk _ _ ⟨rfl,0,rfl,by simp,rfl,rfl⟩
  |cons c r=>
   have ix:=Q6 (l:=c::r) (i:=0) (by simp);have g1:(0:Int)<((c::r).length:Int):=by simp only[List.length_cons];omega
   have ix:idxStr (str (bs (c::r))) (iv 0)=some (u8v (c.toNat:Nat)):=ix;by_cases c1:((c.toNat:Nat):Int)=45
   ·have hs:sgnB (c::r)=true:=by unfold sgnB;simp;omega
    simp only[Qm,g1,ix,JH,c1,RR];exact hk _ _ ⟨rfl,1,rfl,by simp,by unfold dgsB;rw[hs];rfl,hs⟩
   ·have hs:sgnB (c::r)=false:=by unfold sgnB;simp;omega
    simp only[Qm,g1,ix,JH,c1,RR];exact hk _ _ ⟨rfl,0,rfl,by simp,by unfold dgsB;rw[hs];rfl,hs⟩
end
section
variable [L:Lam]
def numP (s:ByteArray):Int × Int:=match Lib.parseIntB 64 s.data.toList with
 | .ok v=>if inB (-1000000000) 1000000000 v&&decide (itB v=s) then (v,0) else (0,5)
 |_=>(0,5)
theorem Qww {l:List UInt8} (h:J2 l=true):Lib.parseIntB 64 l= .ok (parV l):=by
 unfold J2 at h;rw[Bool.and_eq_true,Bool.and_eq_true,decide_eq_true_iff,decide_eq_true_iff,List.all_eq_true] at h;obtain ⟨⟨h1,h2⟩,h3⟩:=h;have hp:10 ^ (dgsB l).length≤10 ^ 10:=Nat.pow_le_pow_right (by decide) h2;have e:=(Qjx (dgsB l) 0 h3 (by rw[Nat.zero_add,Nat.one_mul];omega)).1;have hv:=Qnd h3 h2;have eb:Lib.parseUintB 64 (dgsB l)= .ok (val 0 (dgsB l)):=by
  unfold Lib.parseUintB;rw[if_neg (by intro hc;rw[hc] at h1;simp at h1)];exact e
 cases l with
 |nil=>simp[dgsB,sgnB] at h1
 |cons c r=>
  unfold Lib.parseIntB;simp only;have hd:(if c.toNat=43∨c.toNat=45 then r else c::r)=dgsB (c::r):=by
   unfold dgsB sgnB;by_cases c1:c.toNat=45
   ·simp[c1]
   ·by_cases c2:c.toNat=43
    ·have hx:c∈dgsB (c::r):=by simp[dgsB,sgnB,c1]
     have:=QbP.1 (h3 c hx);omega
    ·simp[c1,c2]
  rw[hd,eb];simp only;unfold parV sgnB;by_cases c1:c.toNat=45
  ·simp only[c1,not_true,false_and,if_false,true_and,decide_true,if_true];rw[if_neg (by omega)]
  ·simp only[c1,not_false_iff,true_and,false_and,if_false,decide_false,Bool.false_eq_true];rw[if_neg (by omega)]
theorem Qoj {v:Int} (h0: -1000000000≤v) (h1:v≤1000000000):J2 (Lib.itoa v)=true:=by
 have key:∀u:Nat,u≤1000000000→((decide (1≤(Lib.decDigits u).length)&&decide ((Lib.decDigits u).length≤10))&&(Lib.decDigits u).all isDg)=true:=by
  intro u hu;have:=QdK 9 u (by omega);rw[Bool.and_eq_true,Bool.and_eq_true,decide_eq_true_iff,decide_eq_true_iff,List.all_eq_true];exact ⟨⟨this.1,this.2⟩,QkO u⟩
 unfold Lib.itoa;split
 ·have e:dgsB (45::Lib.decDigits v.natAbs)=Lib.decDigits v.natAbs:=by simp[dgsB,sgnB]
  unfold J2;rw[e];exact key _ (by omega)
 ·have e:dgsB (Lib.decDigits v.toNat)=Lib.decDigits v.toNat:=by
   unfold dgsB;have:sgnB (Lib.decDigits v.toNat)=false:=by
    have hd:=QkO v.toNat;cases hc:Lib.decDigits v.toNat with
    |nil=>rfl
    |cons c r=>
     rw[hc] at hd;have:=QbP.1 (hd c (.head _));unfold sgnB;simp only[decide_eq_false_iff_not];omega
   rw[this];rfl
  unfold J2;rw[e];exact key _ (by omega)
theorem Qzx (l:List UInt8):numP (bs l)=if QbD l then (parV l,0) else (0,5):=by
 have hl:(bs l).data.toList=l:=by simp
 unfold numP QbD;rw[hl];cases hp:J2 l with
 |true=>
  rw[Qww hp];simp only[Bool.true_and]
 |false=>
  simp only[Bool.false_and,Bool.false_eq_true,if_false];cases h:Lib.parseIntB 64 l with
  |ok v=>
   simp only;rw[if_neg ?_];intro hc;rw[Bool.and_eq_true,decide_eq_true_iff] at hc;have hb:=(@Js lam0 _ _ _).1 hc.1;have:l=Lib.itoa v:=(QrE hc.2).symm;rw[this,Qoj hb.1 hb.2] at hp;cases hp
  |_=>rfl
end
section
open Go Go.Proofs
open Go.Shelf
def QrG:Go.Shelf.Ren:=⟨fun|173=>48|246=>75|283=>104|284=>105|285=>106|286=>107|129=>138|317=>137|318=>139|319=>140|320=>141|337=>172|338=>173|n=>n,fun|2=>2|3=>3|9=>9|4=>4|171=>133|0=>0|53=>134|37=>59|5=>5|173=>137|212=>180|51=>181|20=>20|213=>182|46=>184|232=>269|233=>270|n=>n,fun|17=>0|18=>2|19=>3|n=>n⟩
theorem Qwx:Go.Proofs.LaysM.n173 Tryz.prog QrG:={
 mixed:=by kernel_rfl
 f129:=Tryz.func138.trans (congrArg some (by kernel_rfl))
 f173:=Tryz.func48.trans (congrArg some (by kernel_rfl))
 f246:=Tryz.func75.trans (congrArg some (by kernel_rfl))
 f283:=Tryz.func104.trans (congrArg some (by kernel_rfl))
 f284:=Tryz.func105.trans (congrArg some (by kernel_rfl))
 f285:=Tryz.func106.trans (congrArg some (by kernel_rfl))
 f286:=Tryz.func107.trans (congrArg some (by kernel_rfl))
 f317:=Tryz.func137.trans (congrArg some (by kernel_rfl))
 f318:=Tryz.func139.trans (congrArg some (by kernel_rfl))
 f319:=Tryz.func140.trans (congrArg some (by kernel_rfl))
 f320:=Tryz.func141.trans (congrArg some (by kernel_rfl))
 f337:=Tryz.func172.trans (congrArg some (by kernel_rfl))
 f338:=Tryz.func173.trans (congrArg some (by kernel_rfl))
 t0:=Tryz.underlying0
 a0:=Tryz.isAgg0
 z0:=Tryz.sizeOf0
 v0:=Tryz.zeroValue0
 t2:=Tryz.underlying2
 a2:=Tryz.isAgg2
 z2:=Tryz.sizeOf2
 v2:=Tryz.zeroValue2
 t3:=Tryz.underlying3
 a3:=Tryz.isAgg3
 z3:=Tryz.sizeOf3
 v3:=Tryz.zeroValue3
 t4:=Tryz.underlying4
 a4:=Tryz.isAgg4
 z4:=Tryz.sizeOf4
 v4:=Tryz.zeroValue4
 t5:=Tryz.underlying5
 a5:=Tryz.isAgg5
 z5:=Tryz.sizeOf5
 v5:=Tryz.zeroValue5
 t9:=Tryz.underlying9
 a9:=Tryz.isAgg9
 z9:=Tryz.sizeOf9
 v9:=Tryz.zeroValue9
 t20:=Tryz.underlying20
 a20:=Tryz.isAgg20
 z20:=Tryz.sizeOf20
 v20:=Tryz.zeroValue20
 t37:=Tryz.underlying59
 a37:=Tryz.isAgg59
 z37:=Tryz.sizeOf59
 v37:=Tryz.zeroValue59
 t46:=Tryz.underlying184
 a46:=Tryz.isAgg184
 z46:=Tryz.sizeOf184
 v46:=Tryz.zeroValue184
 t51:=Tryz.underlying181
 a51:=Tryz.isAgg181
 z51:=Tryz.sizeOf181
 v51:=Tryz.zeroValue181
 t53:=Tryz.underlying134
 a53:=Tryz.isAgg134
 z53:=Tryz.sizeOf134
 v53:=Tryz.zeroValue134
 t171:=Tryz.underlying133
 a171:=Tryz.isAgg133
 z171:=Tryz.sizeOf133
 v171:=Tryz.zeroValue133
 t173:=Tryz.underlying137
 a173:=Tryz.isAgg137
 z173:=Tryz.sizeOf137
 v173:=Tryz.zeroValue137
 t212:=Tryz.underlying180
 a212:=Tryz.isAgg180
 z212:=Tryz.sizeOf180
 v212:=Tryz.zeroValue180
 t213:=Tryz.underlying182
 a213:=Tryz.isAgg182
 z213:=Tryz.sizeOf182
 t232:=Tryz.underlying269
 a232:=Tryz.isAgg269
 z232:=Tryz.sizeOf269
 v232:=Tryz.zeroValue269
 t233:=Tryz.underlying270
 a233:=Tryz.isAgg270
 z233:=Tryz.sizeOf270
 v233:=Tryz.zeroValue270
 g17:=by kernel_rfl
 g18:=by kernel_rfl
 g19:=by kernel_rfl
 i0:=by kernel_rfl
 i2:=by kernel_rfl
 i3:=by kernel_rfl
 i4:=by kernel_rfl
 i5:=by kernel_rfl
 i9:=by kernel_rfl
 i20:=by kernel_rfl
 i37:=by kernel_rfl
 i46:=by kernel_rfl
 i51:=by kernel_rfl
 i53:=by kernel_rfl
 i171:=by kernel_rfl
 i173:=by kernel_rfl
 i212:=by kernel_rfl
 i232:=by kernel_rfl
 i233:=by kernel_rfl
 m17:=by kernel_rfl
 m18:=by kernel_rfl
 m19:=by kernel_rfl}
open Go.RowKit Go.Sort Go.Lib in
theorem Qfu (n : Int) (h0 : -9223372036854775808 ≤ n) (h1 : n ≤ 9223372036854775807) (w : World) (htab : Lib.TabIs Tryz.prog w "internal/strconv.uint64pow10" .u64 Lib.pow10Tab) :
  Calls Tryz.prog 48 #[.int .i64 n,.int .i64 10] w fun e w'=>e= .returned (.string ⟨(Lib.itoa n).toArray⟩)∧∃k os,w'=grow (w.drewN k) os:=Any.strconv_FormatInt_10 Qwx n h0 h1 w htab
def laysC174_ren:Go.Shelf.Ren:=⟨fun|174=>244|247=>252|245=>253|287=>256|279=>257|280=>258|281=>259|282=>260|321=>261|322=>262|316=>263|171=>265|205=>264|243=>266|246=>75|283=>104|284=>105|285=>106|286=>107|129=>138|317=>137|318=>139|319=>140|320=>141|337=>172|338=>173|n=>n,fun|9=>9|3=>3|2=>2|75=>63|85=>299|4=>4|167=>318|5=>5|53=>134|175=>319|46=>184|168=>321|37=>59|0=>0|210=>327|21=>21|127=>89|145=>331|143=>329|171=>133|173=>137|212=>180|51=>181|20=>20|213=>182|232=>269|233=>270|80=>66|n=>n,fun|15=>6|16=>7|17=>0|18=>2|19=>3|n=>n⟩
theorem Qne:Go.Proofs.LaysC.n174 Tryz.prog laysC174_ren:={
 mixed:=by kernel_rfl
 f129:=Tryz.func138.trans (congrArg some (by kernel_rfl))
 f171:=Tryz.func265.trans (congrArg some (by kernel_rfl))
 f174:=Tryz.func244.trans (congrArg some (by kernel_rfl))
 f205:=Tryz.func264.trans (congrArg some (by kernel_rfl))
 f243:=Tryz.func266.trans (congrArg some (by kernel_rfl))
 f245:=Tryz.func253.trans (congrArg some (by kernel_rfl))
 f246:=Tryz.func75.trans (congrArg some (by kernel_rfl))
 f247:=Tryz.func252.trans (congrArg some (by kernel_rfl))
 f279:=Tryz.func257.trans (congrArg some (by kernel_rfl))
 f280:=Tryz.func258.trans (congrArg some (by kernel_rfl))
 f281:=Tryz.func259.trans (congrArg some (by kernel_rfl))
 f282:=Tryz.func260.trans (congrArg some (by kernel_rfl))
 f283:=Tryz.func104.trans (congrArg some (by kernel_rfl))
 f284:=Tryz.func105.trans (congrArg some (by kernel_rfl))
 f285:=Tryz.func106.trans (congrArg some (by kernel_rfl))
 f286:=Tryz.func107.trans (congrArg some (by kernel_rfl))
 f287:=Tryz.func256.trans (congrArg some (by kernel_rfl))
 f316:=Tryz.func263.trans (congrArg some (by kernel_rfl))
 f317:=Tryz.func137.trans (congrArg some (by kernel_rfl))
 f318:=Tryz.func139.trans (congrArg some (by kernel_rfl))
 f319:=Tryz.func140.trans (congrArg some (by kernel_rfl))
 f320:=Tryz.func141.trans (congrArg some (by kernel_rfl))
 f321:=Tryz.func261.trans (congrArg some (by kernel_rfl))
 f322:=Tryz.func262.trans (congrArg some (by kernel_rfl))
 f337:=Tryz.func172.trans (congrArg some (by kernel_rfl))
 f338:=Tryz.func173.trans (congrArg some (by kernel_rfl))
 t0:=Tryz.underlying0
 a0:=Tryz.isAgg0
 z0:=Tryz.sizeOf0
 v0:=Tryz.zeroValue0
 t2:=Tryz.underlying2
 a2:=Tryz.isAgg2
 z2:=Tryz.sizeOf2
 v2:=Tryz.zeroValue2
 t3:=Tryz.underlying3
 a3:=Tryz.isAgg3
 z3:=Tryz.sizeOf3
 v3:=Tryz.zeroValue3
 t4:=Tryz.underlying4
 a4:=Tryz.isAgg4
 z4:=Tryz.sizeOf4
 v4:=Tryz.zeroValue4
 t5:=Tryz.underlying5
 a5:=Tryz.isAgg5
 z5:=Tryz.sizeOf5
 v5:=Tryz.zeroValue5
 t9:=Tryz.underlying9
 a9:=Tryz.isAgg9
 z9:=Tryz.sizeOf9
 v9:=Tryz.zeroValue9
 t20:=Tryz.underlying20
 a20:=Tryz.isAgg20
 z20:=Tryz.sizeOf20
 v20:=Tryz.zeroValue20
 t21:=Tryz.underlying21
 a21:=Tryz.isAgg21
 z21:=Tryz.sizeOf21
 v21:=Tryz.zeroValue21
 t37:=Tryz.underlying59
 a37:=Tryz.isAgg59
 z37:=Tryz.sizeOf59
 v37:=Tryz.zeroValue59
 t46:=Tryz.underlying184
 a46:=Tryz.isAgg184
 z46:=Tryz.sizeOf184
 v46:=Tryz.zeroValue184
 t51:=Tryz.underlying181
 a51:=Tryz.isAgg181
 z51:=Tryz.sizeOf181
 v51:=Tryz.zeroValue181
 t53:=Tryz.underlying134
 a53:=Tryz.isAgg134
 z53:=Tryz.sizeOf134
 v53:=Tryz.zeroValue134
 t75:=Tryz.underlying63
 a75:=Tryz.isAgg63
 z75:=Tryz.sizeOf63
 v75:=Tryz.zeroValue63
 t85:=Tryz.underlying299
 a85:=Tryz.isAgg299
 z85:=Tryz.sizeOf299
 v85:=Tryz.zeroValue299
 t127:=Tryz.underlying89
 a127:=Tryz.isAgg89
 z127:=Tryz.sizeOf89
 v127:=Tryz.zeroValue89
 t143:=Tryz.underlying329
 a143:=Tryz.isAgg329
 z143:=Tryz.sizeOf329
 v143:=Tryz.zeroValue329
 t145:=Tryz.underlying331
 a145:=Tryz.isAgg331
 z145:=Tryz.sizeOf331
 v145:=Tryz.zeroValue331
 t167:=Tryz.underlying318
 a167:=Tryz.isAgg318
 z167:=Tryz.sizeOf318
 v167:=Tryz.zeroValue318
 t168:=Tryz.underlying321
 a168:=Tryz.isAgg321
 z168:=Tryz.sizeOf321
 v168:=Tryz.zeroValue321
 t171:=Tryz.underlying133
 a171:=Tryz.isAgg133
 z171:=Tryz.sizeOf133
 v171:=Tryz.zeroValue133
 t173:=Tryz.underlying137
 a173:=Tryz.isAgg137
 z173:=Tryz.sizeOf137
 v173:=Tryz.zeroValue137
 t175:=Tryz.underlying319
 a175:=Tryz.isAgg319
 z175:=Tryz.sizeOf319
 v175:=Tryz.zeroValue319
 t210:=Tryz.underlying327
 a210:=Tryz.isAgg327
 z210:=Tryz.sizeOf327
 v210:=Tryz.zeroValue327
 t212:=Tryz.underlying180
 a212:=Tryz.isAgg180
 z212:=Tryz.sizeOf180
 v212:=Tryz.zeroValue180
 t213:=Tryz.underlying182
 a213:=Tryz.isAgg182
 z213:=Tryz.sizeOf182
 t232:=Tryz.underlying269
 a232:=Tryz.isAgg269
 z232:=Tryz.sizeOf269
 v232:=Tryz.zeroValue269
 t233:=Tryz.underlying270
 a233:=Tryz.isAgg270
 z233:=Tryz.sizeOf270
 v233:=Tryz.zeroValue270
 g15:=by kernel_rfl
 g16:=by kernel_rfl
 g17:=by kernel_rfl
 g18:=by kernel_rfl
 g19:=by kernel_rfl
 t80:=Tryz.underlying66
 a80:=Tryz.isAgg66
 z80:=Tryz.sizeOf66
 v80:=Tryz.zeroValue66
 i0:=by kernel_rfl
 i2:=by kernel_rfl
 i3:=by kernel_rfl
 i4:=by kernel_rfl
 i5:=by kernel_rfl
 i9:=by kernel_rfl
 i20:=by kernel_rfl
 i21:=by kernel_rfl
 i37:=by kernel_rfl
 i46:=by kernel_rfl
 i51:=by kernel_rfl
 i53:=by kernel_rfl
 i75:=by kernel_rfl
 i80:=by kernel_rfl
 i85:=by kernel_rfl
 i127:=by kernel_rfl
 i143:=by kernel_rfl
 i145:=by kernel_rfl
 i167:=by kernel_rfl
 i168:=by kernel_rfl
 i171:=by kernel_rfl
 i173:=by kernel_rfl
 i175:=by kernel_rfl
 i210:=by kernel_rfl
 i212:=by kernel_rfl
 i232:=by kernel_rfl
 i233:=by kernel_rfl
 m15:=by kernel_rfl
 m16:=by kernel_rfl
 m17:=by kernel_rfl
 m18:=by kernel_rfl
 m19:=by kernel_rfl
 c0:=by kernel_rfl
 c2:=by kernel_rfl
 c3:=by kernel_rfl
 c4:=by kernel_rfl
 c5:=by kernel_rfl
 c9:=by kernel_rfl
 c20:=by kernel_rfl
 c21:=by kernel_rfl
 c37:=by kernel_rfl
 c46:=by kernel_rfl
 c51:=by kernel_rfl
 c53:=by kernel_rfl
 c75:=by kernel_rfl
 c80:=by kernel_rfl
 c85:=by kernel_rfl
 c127:=by kernel_rfl
 c143:=by kernel_rfl
 c145:=by kernel_rfl
 c167:=by kernel_rfl
 c168:=by kernel_rfl
 c171:=by kernel_rfl
 c173:=by kernel_rfl
 c175:=by kernel_rfl
 c210:=by kernel_rfl
 c212:=by kernel_rfl
 c213:=by kernel_rfl
 c232:=by kernel_rfl
 c233:=by kernel_rfl}
open Go.RowKit in
theorem JP (s:ByteArray) (hmax:s.size≤9223372036854775806) (v:Int) (h:Lib.parseIntB 64 s.data.toList= .ok v) (w:World):
  Calls Tryz.prog 244 #[.string s,.int .i64 10,.int .i64 64] w fun e w'=>e= .returned (.tuple #[.int .i64 v,.nilIface])∧(w'=w∨∃t,w'=Lib.bytesWorld w 5 t):=Any.strconv_ParseInt_10_at64_ok Qne s hmax v h w
open Go.RowKit in
theorem Qbf (s:ByteArray) (hlim:s.size≤281474976710656) (h:Lib.parseIntB 64 s.data.toList= Go.Lib.NumEnd.syntax) (ev:Value) (w:World) (hv:w.cell? ⟨6,0,none⟩=some ev) (hev:ev= .nilIface∨∃te pe,ev= .iface te pe):
  Calls Tryz.prog 244 #[.string s,.int .i64 10,.int .i64 64] w fun e w'=>∃N,e= .returned (.tuple #[.int .i64 (0),.iface 321 (.pointer (some ⟨N,0,none⟩))])∧w.heap.size≤N∧w'.heap[N]? =some (.cells #[.string ⟨#[80,97,114,115,101,73,110,116]⟩,.string s,ev] 327 (0,0))∧Below w.heap.size w w':=Any.strconv_ParseInt_10_at64_syntax Qne s hlim h ev w hv hev
open Go.RowKit in
theorem Qbu (s:ByteArray) (hlim:s.size≤281474976710656) (h:Lib.parseIntB 64 s.data.toList= .range) (ev:Value) (w:World) (hv:w.cell? ⟨7,0,none⟩=some ev) (hev:ev= .nilIface∨∃te pe,ev= .iface te pe):
  Calls Tryz.prog 244 #[.string s,.int .i64 10,.int .i64 64] w fun e w'=>∃N,e= .returned (.tuple #[.int .i64 (Lib.intSat 64 s.data.toList),.iface 321 (.pointer (some ⟨N,0,none⟩))])∧w.heap.size≤N∧w'.heap[N]? =some (.cells #[.string ⟨#[80,97,114,115,101,73,110,116]⟩,.string s,ev] 327 (0,0))∧Below w.heap.size w w':=Any.strconv_ParseInt_10_at64_range Qne s hlim h ev w hv hev
end
section
set_option maxRecDepth 100000
theorem QuR {P:Program} {f:FuncId} {args:List AV} {vs:List Value} {v:Value} {W:World} (h:@acall lam0 P f args ah0 (fun e _=>e= .ret (.val v))) (hv:VRs (kap0 W) args vs):
  Calls P f vs.toArray W fun e w'=>e= .returned v∧Below W.heap.size W w':=by
 letI:Lam:=lam0
 obtain ⟨fn,h1,h2,h3,h4⟩:=h;refine (h4 (kap0 W) W vs (rel0 W) hv).mono ?_;rintro e w' ⟨κ',ae,σ',rfl,hs,hE⟩;have hb:=hs.rel.bel;rw[hs.ext.B,hs.ext.W] at hb;cases e with
 |returned v=>cases hE;exact ⟨rfl,hb⟩
 |_=>exact hE.elim
def Qok (lo hi v:Int):Int:=if inB lo hi v then 0 else 3
theorem QiF (n:Int) (w:World):Calls TP QbN #[.int .i64 n] w fun e w'=>e= .returned (.int .i64 (Qok (-1000000000) 1000000000 n))∧Below w.heap.size w w':=by
 letI:Lam:=lam0
 refine QuR (args:=[iv n]) (vs:=[.int .i64 n]) ?_ (.cons (.val _) (.nil _));refine Qdp ?_;unfold Qgp Qok;refine JX ?_;cases c:inB (-1000000000) 1000000000 n<;>simp only[RR]<;>exact Qa rfl
theorem Qq2 (n : Int) (h0 : -9223372036854775808 ≤ n) (h1 : n ≤ 9223372036854775807) (w : World) (ht : Lib.TabIs Tryz.prog w "internal/strconv.uint64pow10" .u64 Lib.pow10Tab) :
  Calls Tryz.prog 27 #[.int .i64 n] w fun e w'=>e= .returned (.string (itB n))∧Below w.heap.size w w':=by
 go_enter Tryz.func27,Tryz.ntmps27
 go_wp2_with (go_at_call 48;refine (Qfu n h0 h1 _ ht).mono ?_;rintro e w' ⟨rfl,k,os,rfl⟩)
 go_ret
 exact ⟨rfl,Lib.below_grow _ _ (Nat.le_refl _) _ _⟩
structure NumW (w:World):Prop where
 tab : Lib.TabIs Tryz.prog w "internal/strconv.uint64pow10" .u64 Lib.pow10Tab
 e1:∃ev,w.cell? ⟨laysC174_ren.g 15,0,none⟩=some ev∧(ev= .nilIface∨∃te pe,ev= .iface te pe)
 e2:∃ev,w.cell? ⟨laysC174_ren.g 16,0,none⟩=some ev∧(ev= .nilIface∨∃te pe,ev= .iface te pe)
theorem NumW.below {B:Nat} {w w':World} (h:NumW w) (hb:Below B w w') (hB:w.heap.size≤B):NumW w':=by
 obtain ⟨a,⟨v1,b1,c1⟩,⟨v2,b2,c2⟩⟩:=h;exact ⟨QfG a hb hB,⟨v1,Jh b1 hb hB,c1⟩,⟨v2,Jh b2 hb hB,c2⟩⟩
theorem Qds {w w1:World} {t:TypeId} {x y:Value} (hb:Below (w.alloc (.cells #[x,y] t)).heap.size (w.alloc (.cells #[x,y] t)) w1):
  w1.heap[w.heap.size]? =some (.cells #[x,y] t):=by
 rw[hb.block _ (by show w.heap.size<(w.heap.push _).size;rw[Array.size_push];omega)];exact heap_alloc_new w _
theorem QaZ {w1:World} {b:Nat} {t:TypeId} {x y p q:Value} (h:w1.heap[b]? =some (.cells #[x,y] t)):
  ((w1.setCell ⟨b,0,none⟩ p).setCell ⟨b,1,none⟩ q).heap[b]? =some (.cells #[p,q] t):=by
 unfold World.setCell;simp only[Array.getElem?_modify,h,if_true,Option.map_some];rfl
theorem Qdt {w w1 w2:World} {t:TypeId} {x y:Value} (h1:Below (w.alloc (.cells #[x,y] t)).heap.size (w.alloc (.cells #[x,y] t)) w1) (h2:Below w1.heap.size w1 w2):
  Below (w.alloc (.cells #[x,y] t)).heap.size (w.alloc (.cells #[x,y] t)) w2∧w2.heap[w.heap.size]? =some (.cells #[x,y] t)∧w2.cell? ⟨w.heap.size,0,none⟩=some x∧w2.cell? ⟨w.heap.size,1,none⟩=some y∧
   w2.frozen? ⟨w.heap.size,0,none⟩=false∧w2.frozen? ⟨w.heap.size,1,none⟩=false:=by
 have hb:=h1.trans (h2.mono h1.size);have hr:=Qds hb;exact ⟨hb,hr,by simp[World.cell?,hr],by simp[World.cell?,hr],by simp[World.frozen?,hr],by simp[World.frozen?,hr]⟩
theorem QlX (s:ByteArray) (hs:s.size≤281474976710656) (w:World) (hw:NumW w) (h:Lib.parseIntB 64 s.data.toList=Go.Lib.NumEnd.syntax):
  Calls Tryz.prog 221 #[.string s] w fun e w'=>e= .returned (.agg #[.int .i64 5,.int .i64 0])∧Below w.heap.size w w':=by
 obtain ⟨ev,hv,hev⟩:=hw.e1;have hg:laysC174_ren.g 15<w.heap.size:=World.block_lt_of_cell? (h:=hv)
 go_enter Tryz.func221,Tryz.ntmps221
 go_wp2_with (go_at_call 244;refine (Qbf s hs h ev _ ?_ hev).mono ?_)
 ·exact Jh hv (.alloc (.refl w.heap.size w) (Nat.le_refl _) _) (Nat.le_refl _)
 rintro e w1 ⟨N,rfl, -, -,hb⟩;have hr:=Qds hb;have hc0:w1.cell? ⟨w.heap.size,0,none⟩=some (.int .i64 0):=by simp[World.cell?,hr]
 have hc1:w1.cell? ⟨w.heap.size,1,none⟩=some (.int .i64 0):=by simp[World.cell?,hr]
 have hf0:w1.frozen? ⟨w.heap.size,0,none⟩=false:=by simp[World.frozen?,hr]
 have hf1:w1.frozen? ⟨w.heap.size,1,none⟩=false:=by simp[World.frozen?,hr]
 go_wp2
 (try simp only[Exit.inBlock,Exit.then])
 refine bodyPost_ret (results_cell_row Tryz.results221 _ _ w.heap.size 281 _ (0,0) _ rfl (QaZ hr) Tryz.underlying281 rfl rfl) rfl ?_;exact ⟨rfl,.setCell (.setCell ((Below.alloc (.refl w.heap.size w) (Nat.le_refl _) _).trans (hb.mono (by simp))) (Nat.le_refl _) _) (Nat.le_refl _) _⟩
theorem Qnf (s:ByteArray) (hs:s.size≤281474976710656) (w:World) (hw:NumW w) (h:Lib.parseIntB 64 s.data.toList= .range):
  Calls Tryz.prog 221 #[.string s] w fun e w'=>e= .returned (.agg #[.int .i64 5,.int .i64 0])∧Below w.heap.size w w':=by
 obtain ⟨ev,hv,hev⟩:=hw.e2;have hg:laysC174_ren.g 16<w.heap.size:=World.block_lt_of_cell? (h:=hv)
 go_enter Tryz.func221,Tryz.ntmps221
 go_wp2_with (go_at_call 244;refine (Qbu s hs h ev _ ?_ hev).mono ?_)
 ·exact Jh hv (.alloc (.refl w.heap.size w) (Nat.le_refl _) _) (Nat.le_refl _)
 rintro e w1 ⟨N,rfl, -, -,hb⟩;have hr:=Qds hb;have hc0:w1.cell? ⟨w.heap.size,0,none⟩=some (.int .i64 0):=by simp[World.cell?,hr]
 have hc1:w1.cell? ⟨w.heap.size,1,none⟩=some (.int .i64 0):=by simp[World.cell?,hr]
 have hf0:w1.frozen? ⟨w.heap.size,0,none⟩=false:=by simp[World.frozen?,hr]
 have hf1:w1.frozen? ⟨w.heap.size,1,none⟩=false:=by simp[World.frozen?,hr]
 go_wp2
 (try simp only[Exit.inBlock,Exit.then])
 refine bodyPost_ret (results_cell_row Tryz.results221 _ _ w.heap.size 281 _ (0,0) _ rfl (QaZ hr) Tryz.underlying281 rfl rfl) rfl ?_;exact ⟨rfl,.setCell (.setCell ((Below.alloc (.refl w.heap.size w) (Nat.le_refl _) _).trans (hb.mono (by simp))) (Nat.le_refl _) _) (Nat.le_refl _) _⟩
theorem Qpw (s:ByteArray) (hs:s.size≤281474976710656) (w:World) (hw:NumW w) (v:Int) (h:Lib.parseIntB 64 s.data.toList= .ok v) (hi:inB (-1000000000) 1000000000 v=false):
  Calls Tryz.prog 221 #[.string s] w fun e w'=>e= .returned (.agg #[.int .i64 5,.int .i64 0])∧Below w.heap.size w w':=by
 have hv:=Lib.parseIntB_bounds h;have cN:∀w,Calls Tryz.prog 206 #[.int .i64 v] w fun e w'=>e= .returned (.int .i64 3)∧Below w.heap.size w w':=fun w=>by
  have:=QiF v w;unfold Qok at this;rw[hi] at this;exact this
 go_enter Tryz.func221,Tryz.ntmps221
 go_wp2_with (go_at_call 244;refine (JP s (by omega) v h _).mono ?_;rintro e w1 ⟨rfl,hW⟩)
 have hb1:Below (w.alloc (.cells #[.int .i64 0,.int .i64 0] 281)).heap.size (w.alloc (.cells #[.int .i64 0,.int .i64 0] 281)) w1:=by
  rcases hW with rfl|⟨t,rfl⟩
  ·exact Below.refl _ _
  ·exact Lib.bytesWorld_below _ _ _
 clear hW
 go_wp2_with (go_at_call 206;refine (cN _).mono ?_;rintro e w2 ⟨rfl,hb2⟩;obtain ⟨hb2,hr,hc0,hc1,hf0,hf1⟩:=Qdt hb1 hb2)
 go_wp2
 (try simp only[Exit.inBlock,Exit.then])
 refine bodyPost_ret (results_cell_row Tryz.results221 _ _ w.heap.size 281 _ (0,0) _ rfl (QaZ hr) Tryz.underlying281 rfl rfl) rfl ?_;exact ⟨rfl,.setCell (.setCell ((Below.alloc (.refl w.heap.size w) (Nat.le_refl _) _).trans (hb2.mono (by simp))) (Nat.le_refl _) _) (Nat.le_refl _) _⟩
theorem Qpx (s:ByteArray) (hs:s.size≤281474976710656) (w:World) (hw:NumW w) (v:Int) (h:Lib.parseIntB 64 s.data.toList= .ok v) (hi:inB (-1000000000) 1000000000 v=true) (hd:¬itB v=s):
  Calls Tryz.prog 221 #[.string s] w fun e w'=>e= .returned (.agg #[.int .i64 5,.int .i64 0])∧Below w.heap.size w w':=by
 have hv:=Lib.parseIntB_bounds h;have cN:∀w,Calls Tryz.prog 206 #[.int .i64 v] w fun e w'=>e= .returned (.int .i64 0)∧Below w.heap.size w w':=fun w=>by
  have:=QiF v w;unfold Qok at this;rw[hi] at this;exact this
 have hl:((itB v).toList==s.toList)=false:=by rw[@Qd8 lam0];simp[hd]
 go_enter Tryz.func221,Tryz.ntmps221
 go_wp2_with (go_at_call 244;refine (JP s (by omega) v h _).mono ?_;rintro e w1 ⟨rfl,hW⟩)
 have hb1:Below (w.alloc (.cells #[.int .i64 0,.int .i64 0] 281)).heap.size (w.alloc (.cells #[.int .i64 0,.int .i64 0] 281)) w1:=by
  rcases hW with rfl|⟨t,rfl⟩
  ·exact Below.refl _ _
  ·exact Lib.bytesWorld_below _ _ _
 clear hW
 go_wp2_with (go_at_call 206;refine (cN _).mono ?_;rintro e w2 ⟨rfl,hb2⟩;obtain ⟨hb2,hr,hc0,hc1,hf0,hf1⟩:=Qdt hb1 hb2)
 have ht : Lib.TabIs Tryz.prog w2 "internal/strconv.uint64pow10" .u64 Lib.pow10Tab := QfG hw.tab ((Below.alloc (.refl w.heap.size w) (Nat.le_refl _) _).trans (hb2.mono (by simp))) (Nat.le_refl _)
 have i1:=(@Js lam0 _ _ _).1 hi
 go_wp2_with (go_at_call 27;refine (Qq2 v (by omega) (by omega) w2 ht).mono ?_;rintro e w3 ⟨rfl,hb3⟩;obtain ⟨hb3,hr,hc0,hc1,hf0,hf1⟩:=Qdt hb2 hb3)
 go_wp2
 all_goals first
  |(exfalso;simp_all;done)
  |skip
 (try simp only[Exit.inBlock,Exit.then])
 refine bodyPost_ret (results_cell_row Tryz.results221 _ _ w.heap.size 281 _ (0,0) _ rfl (QaZ hr) Tryz.underlying281 rfl rfl) rfl ?_;exact ⟨rfl,.setCell (.setCell ((Below.alloc (.refl w.heap.size w) (Nat.le_refl _) _).trans (hb3.mono (by simp))) (Nat.le_refl _) _) (Nat.le_refl _) _⟩
theorem Qol (s:ByteArray) (hs:s.size≤281474976710656) (w:World) (hw:NumW w) (v:Int) (h:Lib.parseIntB 64 s.data.toList= .ok v) (hi:inB (-1000000000) 1000000000 v=true) (hd:itB v=s):
  Calls Tryz.prog 221 #[.string s] w fun e w'=>e= .returned (.agg #[.int .i64 0,.int .i64 v])∧Below w.heap.size w w':=by
 have hv:=Lib.parseIntB_bounds h;have cN:∀w,Calls Tryz.prog 206 #[.int .i64 v] w fun e w'=>e= .returned (.int .i64 0)∧Below w.heap.size w w':=fun w=>by
  have:=QiF v w;unfold Qok at this;rw[hi] at this;exact this
 have hl:((itB v).toList==s.toList)=true:=by rw[@Qd8 lam0];simp[hd]
 go_enter Tryz.func221,Tryz.ntmps221
 go_wp2_with (go_at_call 244;refine (JP s (by omega) v h _).mono ?_;rintro e w1 ⟨rfl,hW⟩)
 have hb1:Below (w.alloc (.cells #[.int .i64 0,.int .i64 0] 281)).heap.size (w.alloc (.cells #[.int .i64 0,.int .i64 0] 281)) w1:=by
  rcases hW with rfl|⟨t,rfl⟩
  ·exact Below.refl _ _
  ·exact Lib.bytesWorld_below _ _ _
 clear hW
 go_wp2_with (go_at_call 206;refine (cN _).mono ?_;rintro e w2 ⟨rfl,hb2⟩;obtain ⟨hb2,hr,hc0,hc1,hf0,hf1⟩:=Qdt hb1 hb2)
 have ht : Lib.TabIs Tryz.prog w2 "internal/strconv.uint64pow10" .u64 Lib.pow10Tab := QfG hw.tab ((Below.alloc (.refl w.heap.size w) (Nat.le_refl _) _).trans (hb2.mono (by simp))) (Nat.le_refl _)
 have i1:=(@Js lam0 _ _ _).1 hi
 go_wp2_with (go_at_call 27;refine (Qq2 v (by omega) (by omega) w2 ht).mono ?_;rintro e w3 ⟨rfl,hb3⟩;obtain ⟨hb3,hr,hc0,hc1,hf0,hf1⟩:=Qdt hb2 hb3)
 go_wp2
 all_goals first
  |(exfalso;simp_all;done)
  |skip
 (try simp only[Exit.inBlock,Exit.then])
 refine bodyPost_ret (results_cell_row Tryz.results221 _ _ w.heap.size 281 _ (0,0) _ rfl (QaZ hr) Tryz.underlying281 rfl rfl) rfl ?_;exact ⟨rfl,.setCell (.setCell ((Below.alloc (.refl w.heap.size w) (Nat.le_refl _) _).trans (hb3.mono (by simp))) (Nat.le_refl _) _) (Nat.le_refl _) _⟩
theorem QtM (s:ByteArray) (hs:s.size≤281474976710656) (w:World) (hw:NumW w):
  Calls Tryz.prog 221 #[.string s] w fun e w'=>e= .returned (.agg #[.int .i64 (numP s).2,.int .i64 (numP s).1])∧Below w.heap.size w w':=by
 unfold numP;cases h:Lib.parseIntB 64 s.data.toList with
 |range=>exact Qnf s hs w hw h
 |ok v=>
  cases hi:inB (-1000000000) 1000000000 v with
  |false=>
   have:=Qpw s hs w hw v h hi;simpa[hi] using this
  |true=>
   by_cases hd:itB v=s
   ·have:=Qol s hs w hw v h hi hd;simpa[hi,hd] using this
   ·have:=Qpx s hs w hw v h hi hd;simpa[hi,hd] using this
 |_=>exact QlX s hs w hw h
end
end Go.Proofs.YtggnjjalfnhiiaaGreatDoor.E
