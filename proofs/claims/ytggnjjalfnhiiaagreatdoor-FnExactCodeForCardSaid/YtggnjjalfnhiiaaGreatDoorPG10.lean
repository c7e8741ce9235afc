import Derived.Test.YtggnjjalfnhiiaaGreatDoorPG9
/- What functions come to. Printed by mkg.py. -/
set_option maxRecDepth 1000000
namespace Go.Proofs.YtggnjjalfnhiiaaGreatDoor.E
open Go Go.RowKit
section
open X
set_option linter.unusedVariables false
set_option linter.unusedSectionVars false
variable [Lam] {a0 a1 a2 a3 a4 a5 a6:AV} {σ:AH} {R:AEnd→AH→Prop}
def x5:Sx:= .box Y0 (.frz 2 Y0 (Q (.lenStr Y3) (D .gtr Y0 (Y 1048576) (P 0 (.ret (.lit (.val (.bool true)))) (Q (.lodA 4 Y2) (.call 13 [Y0] (.call 18 [Y7,Y0] (.new [(iv 0),(str ⟨#[]⟩)] (.sto 2 Y0 Y1 (.frz 9 Y0 (Q (.lodA 4 Y7) (.call 13 [Y0] (.call 19 [Y12,Y0] (.new [(iv 0),(str ⟨#[]⟩)] (.sto 2 Y0 Y1 (.frz 14 Y0 (Q (.lodA 2 Y0) (Q (.lodA 2 Y6) (.call 10 [Y1,Y0] (Q (.aun .not Y0) (P 0 (.ret (.lit (.val (.bool false)))) (.ret (.lit (.val (.bool true)))))))))))))))))))))))))
theorem QeZ (h:den TP TT R x5 [a1,a0] [] σ):acall TP Qbm [a0,a1] σ R:=Qb Qg Tryz.func5 rfl x5 (by kernel_rfl) rfl h
def x7:Sx:= .new [(iv 0),(str ⟨#[]⟩)] (.call 21 [Y1] (D .neq Y0 (Y 0) (P 0 (Q (.bld [(iv 0),(str ⟨#[]⟩)] [(0,1),(1,1)] [(0,Y1)]) (.sto 2 Y3 Y0 (Q (.lodA 2 Y3) (.ret Y0)))) (.lp [0,2,4,5] (O 0 (D .lss Y4 Y0 (H 0 (.ret Y4) (H 1 (.lenStr Y0) (H 2 (B .leq Y0 (Y 6000)) (Q (.pickV Y3 Y0 (.lit (.val (.bool false)))) (P 0 (.ord [0,1,2,6,7,8,9,10,3,4,5,11,12,13,14] [0,1,0,4,15,31,0,0,192,448,960,1996,4095,8191,16383] (Q (.sbin .add Y8 (.lit (.val (.string ⟨#[98,108,111,99,107,32]⟩)))) (J 2 7 10 (Q (F 0 0) (M 0 (.call 22 [Y13] (.wat [⟨none,(.lod Y2),Y1⟩,⟨none,(.idx 2 Y11 Y14),Y3⟩] (Q (.sbin .add Y4 Y0) (Q (.sbin .add Y0 (.lit (.val (.string ⟨#[32]⟩)))) (.call 22 [Y3] (.wat [] (Q (.sbin .add Y1 Y0) (Q (.sbin .add Y0 (.lit (.val (.string ⟨#[10]⟩)))) (.lp [0,2,4,5,6] (J 2 0 3 (Q (F 1 0) (M 0 (O 0 (D .lss Y8 Y0 (H 0 (.ret Y7) (H 1 (.lenStr Y0) (H 2 (B .leq Y0 (Y 6000)) (Q (.pickV Y3 Y0 (.lit (.val (.bool false)))) (P 0 (.ord [0,1,5,6,7,8,9,10,11,2,3,4,12,13,14,15] [0,0,2,7,15,0,0,96,224,480,0,2016,4070,8191,16383,32767] (J 2 9 12 (Q (F 1 0) (M 0 (J 7 0 16 (.call 22 [Y17] (.wat [⟨none,(.idx 7 Y2 Y18),Y1⟩,⟨none,(.lod Y3),Y2⟩,⟨none,(.idx 2 Y14 Y17),Y4⟩] (Q (.sbin .add Y16 Y0) (Q (.sbin .add Y0 (.lit (.val (.string ⟨#[58,32]⟩)))) (.call 23 [Y3] (.wat [] (Q (.sbin .add Y1 Y0) (Q (.sbin .add Y0 (.lit (.val (.string ⟨#[10]⟩)))) (D .add Y23 (Y 1) (.jump 0 [Y20,Y21,Y1,Y23,Y0]))))))))))))))) (D .add Y12 (Y 1) (.jump 1 [Y10,Y11,Y12,Y0])))))))))))) [Y16,Y17,Y0,Y19,(Y 0)])))))))))))))) (Q (.lenStr Y8) (D .gtr Y0 (Y 6000) (P 0 (Q (.bld [(iv 0),(str ⟨#[]⟩)] [(0,1),(1,1)] [(0,(Y 2))]) (.sto 2 Y10 Y0 (Q (.lodA 2 Y10) (.ret Y0)))) (Q (.bld [(iv 0),(str ⟨#[]⟩)] [(0,1),(1,1)] [(1,Y10)]) (.sto 2 Y10 Y0 (Q (.lodA 2 Y10) (.ret Y0)))))))))))))) [Y3,Y2,(.lit (str ⟨#[]⟩)),(Y 0)]))))
theorem Qj5 (h:den TP TT R x7 [a0] [] σ):acall TP QeC [a0] σ R:=Qb Qg Tryz.func7 rfl x7 (by kernel_rfl) rfl h
def x10:Sx:= .box Y1 (.box Y1 (.frz 2 Y1 (.frz 3 Y1 (Q (F 0 1) (M 0 (Q (F 0 2) (M 0 (D .neq Y2 Y0 (P 0 (.ret (.lit (.val (.bool false)))) (Q (F 1 6) (M 0 (Q (F 1 7) (M 0 (Q (.sbin .neq Y2 Y0) (P 0 (.ret (.lit (.val (.bool false)))) (.ret (.lit (.val (.bool true)))))))))))))))))))
theorem QgK (h:den TP TT R x10 [a1,a0] [] σ):acall TP Qcm [a0,a1] σ R:=Qb Qg Tryz.func10 rfl x10 (by kernel_rfl) rfl h
def x12:Sx:= .box Y0 (.new [(iv 0),nilS] (.frz 2 Y1 (.call 32 [Y0] (D .neq Y0 (Y 0) (P 0 (Q (.bld [(iv 0),nilS] [(0,1),(1,1)] [(0,Y1)]) (.sto 2 Y4 Y0 (Q (.lodA 2 Y4) (.ret Y0)))) (.call 33 [Y6,Y2] (Q (.aext Y0 0) (Q (.aext Y1 1) (Q (.bld [(iv 0),nilS] [(0,1),(1,1)] [(0,Y0),(1,Y1)]) (.sto 2 Y7 Y0 (Q (.lodA 2 Y7) (.ret Y0))))))))))))
theorem Qj6 (h:den TP TT R x12 [a1,a0] [] σ):acall TP QeD [a0,a1] σ R:=Qb Qg Tryz.func12 rfl x12 (by kernel_rfl) rfl h
def x13:Sx:= .box Y0 (.new [(iv 0),(iv 0),(.val (.bool false)),(.val (.bool false))] (.frz 1 Y1 (.new [(iv 0),(iv 0),(.val (.bool false)),(.val (.bool false))] (Q (F 0 1) (M 0 (Q (F 0 2) (.sto 1 Y0 Y1 (Q (F 1 4) (M 0 (Q (F 1 5) (.sto 1 Y0 Y1 (Q (F 2 7) (M 0 (Q (F 2 8) (.sto 1 Y0 Y1 (Q (F 3 10) (M 0 (Q (F 3 11) (.sto 1 Y0 Y1 (.frz 4 Y12 (Q (.lodA 4 Y0) (.sto 4 Y16 Y0 (Q (.lodA 4 Y16) (.ret Y0))))))))))))))))))))))))
theorem Qj7 (h:den TP TT R x13 [a0] [] σ):acall TP QeE [a0] σ R:=Qb Qg Tryz.func13 rfl x13 (by kernel_rfl) rfl h
def x14:Sx:= .box Y0 (.new [(iv 0),nilS] (.frz 2 Y1 (Q (.lodA 4 Y0) (.call 34 [Y0] (D .neq Y0 (Y 0) (P 0 (Q (.bld [(iv 0),nilS] [(0,1),(1,1)] [(0,Y1)]) (.sto 2 Y5 Y0 (Q (.lodA 2 Y5) (.ret Y0)))) (Q (.lodA 4 Y3) (.call 35 [Y8,Y0] (Q (.aext Y0 0) (Q (.aext Y1 1) (Q (.bld [(iv 0),nilS] [(0,1),(1,1)] [(0,Y0),(1,Y1)]) (.sto 2 Y9 Y0 (Q (.lodA 2 Y9) (.ret Y0))))))))))))))
theorem Qj8 (h:den TP TT R x14 [a1,a0] [] σ):acall TP QeF [a0,a1] σ R:=Qb Qg Tryz.func14 rfl x14 (by kernel_rfl) rfl h
def x18:Sx:= .box Y0 (.new [(iv 0),(str ⟨#[]⟩)] (.frz 2 Y1 (Q (.lodA 4 Y0) (.call 12 [Y5,Y0] (.new [(iv 0),nilS] (.sto 2 Y0 Y1 (.frz 7 Y0 (Q (F 0 0) (M 0 (D .neq Y0 (Y 0) (P 0 (Q (F 0 3) (M 0 (Q (.bld [(iv 0),(str ⟨#[]⟩)] [(0,1),(1,1)] [(0,Y0)]) (.sto 2 Y11 Y0 (Q (.lodA 2 Y11) (.ret Y0)))))) (Q (F 1 3) (M 0 (.call 7 [Y0] (.sto 2 Y11 Y0 (Q (.lodA 2 Y11) (.ret Y0)))))))))))))))))
theorem Qlq (h:den TP TT R x18 [a1,a0] [] σ):acall TP QfH [a0,a1] σ R:=Qb Qg Tryz.func18 rfl x18 (by kernel_rfl) rfl h
def x19:Sx:= .box Y0 (.new [(iv 0),(str ⟨#[]⟩)] (.frz 2 Y1 (Q (.lodA 4 Y0) (.call 14 [Y5,Y0] (.new [(iv 0),nilS] (.sto 2 Y0 Y1 (.frz 7 Y0 (Q (F 0 0) (M 0 (D .neq Y0 (Y 0) (P 0 (Q (F 0 3) (M 0 (Q (.bld [(iv 0),(str ⟨#[]⟩)] [(0,1),(1,1)] [(0,Y0)]) (.sto 2 Y11 Y0 (Q (.lodA 2 Y11) (.ret Y0)))))) (Q (F 1 3) (M 0 (.call 9 [Y0] (.sto 2 Y11 Y0 (Q (.lodA 2 Y11) (.ret Y0)))))))))))))))))
theorem Qlr (h:den TP TT R x19 [a1,a0] [] σ):acall TP QfI [a0,a1] σ R:=Qb Qg Tryz.func19 rfl x19 (by kernel_rfl) rfl h
def x21:Sx:=O 0 (D .gtr Y0 (Y 60) (P 0 (.ret (Y 2)) (.lp [0,3] (O 0 (D .lss Y2 Y0 (P 0 (J 2 2 3 (.call 39 [Y0] (D .neq Y0 (Y 0) (P 0 (.ret Y1) (D .add Y6 (Y 1) (.jump 0 [Y6,Y0])))))) (.ret (Y 0))))) [Y2,(Y 0)])))
theorem Qls (h:den TP TT R x21 [a0] [] σ):acall TP QfJ [a0] σ R:=Qb Qg Tryz.func21 rfl x21 (by kernel_rfl) rfl h
def x22:Sx:=D .lss Y0 (Y 0) (P 0 (Q (.aun .neg Y1) (.call 22 [Y0] (Q (.sbin .add (.lit (.val (.string ⟨#[45]⟩))) Y0) (.ret Y0)))) (D .lss Y1 (Y 10) (P 0 (D .add (Y 48) Y2 (Q (.conv .u8 Y0) (.bsl 1 [(.val (.int .u8 0))] 1 [(0,Y0)] (.cnv 59 9 Y0 (.ret Y0))))) (.ord [0,1,3,4,5,6,7,8,2,9,10] [0,1,3,0,8,24,56,120,248,511,1023] (D .quo Y2 (Y 10) (D .rem Y3 (Y 10) (D .add (Y 48) Y0 (Q (.conv .u8 Y0) (Q (.bslR 1 [(.val (.int .u8 0))] 1 [(0,Y0)]) (Q (.b2s Y0) (.call 22 [Y5] (.wat [] (Q (.sbin .add Y0 Y1) (.ret Y0))))))))))))))
theorem QaJ (h:den TP TT R x22 [a0] [] σ):acall TP UB [a0] σ R:=Qb Qg Tryz.func22 rfl x22 (by kernel_rfl) rfl h
def x23:Sx:= .bsl 1 [(str ⟨#[]⟩)] 17 [(0,(.lit (str ⟨#[]⟩))),(1,(.lit (.val (.string ⟨#[99,111,110,115,116]⟩)))),(2,(.lit (.val (.string ⟨#[108,111,99,97,108]⟩)))),(3,(.lit (.val (.string ⟨#[103,108,111,98,97,108]⟩)))),(4,(.lit (.val (.string ⟨#[99,108,111,115,117,114,101]⟩)))),(5,(.lit (.val (.string ⟨#[106,117,109,112]⟩)))),(6,(.lit (.val (.string ⟨#[105,102,110,111,116]⟩)))),(7,(.lit (.val (.string ⟨#[112,111,112]⟩)))),(8,(.lit (.val (.string ⟨#[115,101,116]⟩)))),(9,(.lit (.val (.string ⟨#[100,101,102]⟩)))),(10,(.lit (.val (.string ⟨#[99,97,108,108]⟩)))),(11,(.lit (.val (.string ⟨#[116,97,105,108]⟩)))),(12,(.lit (.val (.string ⟨#[114,101,116,117,114,110]⟩)))),(13,(.lit (.val (.string ⟨#[99,111,110,115,116,114,101,116]⟩)))),(14,(.lit (.val (.string ⟨#[108,111,99,97,108,114,101,116]⟩)))),(15,(.lit (.val (.string ⟨#[108,111,99,97,108,115]⟩)))),(16,(.lit (.val (.string ⟨#[108,111,99,97,108,105,102,110,111,116]⟩))))] (.frz 1 Y0 (Q (A 2) (Q (F 0 0) (M 0 (J 1 3 0 (M 0 (.jn 31 [0,4] (.jn 63 [0,4] (.call 43 [Y0] (.lp [0,4,5,6] (Q (A 0) (Q (F 0 0) (M 0 (.call 44 [Y0] (D .lss Y7 Y0 (P 0 (Q (.sbin .add Y6 (.lit (.val (.string ⟨#[32]⟩)))) (J 1 8 9 (M 0 (.call 22 [Y0] (Q (.sbin .add Y3 Y0) (D .add Y13 (Y 1) (.jump 0 [Y11,Y1,Y13,Y0]))))))) (.ret Y6))))))) [Y1,Y2,Y0,(Y 0)])) (Q (A 0) (Q (F 0 0) (M 0 (.call 41 [Y0] (P 0 (Q (.sbin .add Y5 (.lit (.val (.string ⟨#[32]⟩)))) (Q (A 5) (Q (F 6 0) (M 0 (.call 42 [Y0,(Y 0)] (Q (.sbin .add Y4 Y0) (.jump 0 [Y10,Y0]))))))) (.jump 0 [Y4,Y5]))))))) (Q (A 7) (Q (F 0 0) (M 0 (.call 40 [Y0] (P 0 (Q (.sbin .add Y4 (.lit (.val (.string ⟨#[32]⟩)))) (Q (A 12) (Q (F 5 0) (M 0 (Q (.sbin .add Y3 Y0) (.jump 0 [Y16,Y0])))))) (.jump 0 [Y11,Y4])))))))))))))
theorem QmH (h:den TP TT R x23 [a0] [] σ):acall TP Qg8 [a0] σ R:=Qb Qg Tryz.func23 rfl x23 (by kernel_rfl) rfl h
def x25:Sx:=O 0 (D .gtr Y0 (Y 60) (P 0 (.ret (Y 2)) (O 2 (.lp [9,10,11] (D .lss Y2 Y1 (P 0 (J 2 1 3 (Q (.lodA 2 Y0) (.new [(iv 0),nilS] (.sto 2 Y0 Y1 (.frz 6 Y0 (Q (.lodA 2 Y0) (.call 46 [Y0] (D .neq Y0 (Y 0) (P 0 (.ret Y1) (D .add Y10 (Y 1) (.jump 0 [Y9,Y10,Y0]))))))))))) (.ret (Y 0)))) [Y3,Y0,(Y 0)]))))
theorem Qj9 (h:den TP TT R x25 [a0] [] σ):acall TP QeG [a0] σ R:=Qb Qg Tryz.func25 rfl x25 (by kernel_rfl) rfl h
def x28:Sx:= .box Y0 (.frz 1 Y0 (.bsl 1 [(str ⟨#[]⟩)] 16 [(0,(.lit (.val (.string ⟨#[99,111,110,115,116]⟩)))),(1,(.lit (.val (.string ⟨#[108,111,99,97,108]⟩)))),(2,(.lit (.val (.string ⟨#[103,108,111,98,97,108]⟩)))),(3,(.lit (.val (.string ⟨#[99,108,111,115,117,114,101]⟩)))),(4,(.lit (.val (.string ⟨#[106,117,109,112]⟩)))),(5,(.lit (.val (.string ⟨#[105,102,110,111,116]⟩)))),(6,(.lit (.val (.string ⟨#[112,111,112]⟩)))),(7,(.lit (.val (.string ⟨#[115,101,116]⟩)))),(8,(.lit (.val (.string ⟨#[100,101,102]⟩)))),(9,(.lit (.val (.string ⟨#[99,97,108,108]⟩)))),(10,(.lit (.val (.string ⟨#[116,97,105,108]⟩)))),(11,(.lit (.val (.string ⟨#[114,101,116,117,114,110]⟩)))),(12,(.lit (.val (.string ⟨#[99,111,110,115,116,114,101,116]⟩)))),(13,(.lit (.val (.string ⟨#[108,111,99,97,108,114,101,116]⟩)))),(14,(.lit (.val (.string ⟨#[108,111,99,97,108,115]⟩)))),(15,(.lit (.val (.string ⟨#[108,111,99,97,108,105,102,110,111,116]⟩))))] (Q (F 0 1) (M 0 (D .sub Y0 (Y 1) (J 1 3 0 (M 0 (.bsl 1 [(str ⟨#[]⟩)] 1 [(0,Y0)] (.jn 15 [1,3] (.ord [0,1,2,3,4,5,6,7,8,9,10,14,11,12,13] [0,1,0,4,0,16,0,64,255,0,512,1536,4095,8191,0] (Q (F 1 0) (M 0 (Q (F 2 2) (M 0 (Q (F 3 4) (M 0 (Q (F 4 6) (M 0 (Q (.bslR 1 [(iv 0)] 4 [(0,Y6),(1,Y4),(2,Y2),(3,Y0)]) (Q (F 0 9) (M 0 (.call 52 [Y0] (.wat [⟨none,(.lod Y5),Y4⟩,⟨none,(.lod Y7),Y6⟩,⟨none,(.lod Y9),Y8⟩,⟨none,(.lod Y11),Y10⟩] (Q (.slc 1 Y3 none (some Y0) none) (O 0 (.lp [3,44,45,46] (D .lss Y3 Y2 (P 0 (J 1 2 4 (M 0 (.call 27 [Y0] (.bsl 1 [(str ⟨#[]⟩)] 1 [(0,Y0)] (.app 1 Y5 Y0 (D .add Y9 (Y 1) (.jump 0 [Y1,Y8,Y9,Y0]))))))) (.call 53 [Y1,(.lit (.val (.string ⟨#[32]⟩)))] (.ret Y0)))) [Y15,Y1,Y0,(Y 0)]))))))))))))))))) (Q (F 0 7) (M 0 (.call 49 [Y0] (P 0 (Q (F 5 10) (M 0 (.bsl 1 [(str ⟨#[]⟩)] 1 [(0,Y0)] (.app 1 Y6 Y0 (.jump 0 [Y14,Y0]))))) (Q (F 0 10) (M 0 (.call 50 [Y0] (P 0 (Q (F 6 13) (M 0 (.call 51 [Y0,(Y 0)] (.bsl 1 [(str ⟨#[]⟩)] 1 [(0,Y0)] (.app 1 Y10 Y0 (.jump 0 [Y18,Y0])))))) (.jump 0 [Y13,Y6]))))))))))))))))))
theorem Qlt (h:den TP TT R x28 [a0] [] σ):acall TP QfK [a0] σ R:=Qb Qg Tryz.func28 rfl x28 (by kernel_rfl) rfl h
def x32:Sx:= .jn 13 [16] (P 0 (.ret (Y 3)) (.ret (Y 0))) (Q (A 0) (Q (F 0 0) (M 0 (.call 55 [Y0] (Q (.aun .not Y0) (G 0 (.ret Y5) (G 1 (A 0) (G 2 (F 1 0) (G 3 (L 0) (.gpick Y4 (.jump 0 [(.lit (.val (.bool true)))]) (.call 56 [Y0] (Q (.aun .not Y0) (.jump 0 [Y0]))) (.no)))))))))))
theorem Qka (h:den TP TT R x32 [a0] [] σ):acall TP QeH [a0] σ R:=Qb Qg Tryz.func32 rfl x32 (by kernel_rfl) rfl h
def x33:Sx:= .call 57 [Y1] (Q (.aext Y0 0) (Q (.aext Y1 1) (D .neq Y0 (Y 0) (P 0 (.rets [(.lit nilS),Y1]) (.jn 31 [1,6] (Q (A 0) (Q (F 1 0) (M 0 (.call 59 [Y4,Y0] (.rets [Y0,(Y 0)]))))) (Q (A 4) (Q (F 2 0) (M 0 (P 0 (.call 58 [Y5] (.jump 0 [Y8,Y0])) (.jump 0 [Y7,Y5]))))))))))
theorem Qlu (h:den TP TT R x33 [a1,a0] [] σ):acall TP QfL [a0,a1] σ R:=Qb Qg Tryz.func33 rfl x33 (by kernel_rfl) rfl h
def x34:Sx:= .box Y0 (.jn 13 [12] (P 0 (.ret (Y 3)) (.ret (Y 0))) (.frz 1 Y0 (Q (F 0 0) (M 0 (.call 60 [Y0] (Q (.aun .not Y0) (G 0 (F 1 4) (G 1 (L 0) (.gpick Y2 (.jump 0 [(.lit (.val (.bool true)))]) (.call 61 [Y0] (D .neq Y0 (Y 0) (.jump 0 [Y0]))) (.no))))))))))
theorem Qhy (h:den TP TT R x34 [a0] [] σ):acall TP QcE [a0] σ R:=Qb Qg Tryz.func34 rfl x34 (by kernel_rfl) rfl h
def x35:Sx:= .box Y0 (.frz 2 Y0 (.call 62 [Y3] (Q (.aext Y0 0) (Q (.aext Y1 1) (D .neq Y0 (Y 0) (P 0 (.rets [(.lit nilS),Y1]) (.jn 31 [3,6] (Q (F 1 0) (M 0 (.call 64 [Y3,Y0] (.rets [Y0,(Y 0)])))) (Q (F 2 4) (M 0 (P 0 (.call 63 [Y4] (.jump 0 [Y7,Y0])) (.jump 0 [Y6,Y4])))))))))))
theorem Qkb (h:den TP TT R x35 [a1,a0] [] σ):acall TP QeI [a0,a1] σ R:=Qb Qg Tryz.func35 rfl x35 (by kernel_rfl) rfl h
def x39:Sx:=Q (A 0) (Q (F 0 0) (M 0 (.call 68 [Y0,(Y 0),(Y 3)] (Q (.aun .not Y0) (P 0 (.ret (Y 3)) (Q (A 5) (Q (F 1 0) (M 0 (O 0 (D .gtr Y0 (Y 200) (P 0 (.ret (Y 2)) (.lp [0,3] (Q (A 0) (Q (F 1 0) (M 0 (O 0 (D .lss Y5 Y0 (P 0 (Q (A 5) (Q (F 1 0) (M 0 (J 7 0 9 (.call 69 [Y0] (D .neq Y0 (Y 0) (P 0 (.ret Y1) (D .add Y12 (Y 1) (.jump 0 [Y12,Y0]))))))))) (.ret (Y 0)))))))) [Y10,(Y 0)]))))))))))))
theorem Qlv (h:den TP TT R x39 [a0] [] σ):acall TP QfM [a0] σ R:=Qb Qg Tryz.func39 rfl x39 (by kernel_rfl) rfl h
def x40:Sx:=D .eql Y0 (Y 3) (G 0 (.ret Y1) (G 1 (B .eql Y0 (Y 8)) (Q (.pickV Y2 (.lit (.val (.bool true))) Y0) (G 0 (.ret Y4) (G 1 (B .eql Y0 (Y 9)) (Q (.pickV Y2 (.lit (.val (.bool true))) Y0) (.ret Y0)))))))
theorem Qlw (h:den TP TT R x40 [a0] [] σ):acall TP QfN [a0] σ R:=Qb Qg Tryz.func40 rfl x40 (by kernel_rfl) rfl h
def x41:Sx:=D .eql Y0 (Y 1) (G 0 (.ret Y1) (G 1 (B .eql Y0 (Y 13)) (Q (.pickV Y2 (.lit (.val (.bool true))) Y0) (.ret Y0))))
theorem Qlx (h:den TP TT R x41 [a0] [] σ):acall TP QfO [a0] σ R:=Qb Qg Tryz.func41 rfl x41 (by kernel_rfl) rfl h
def x42:Sx:=J 4 1 0 (Q (A 0) (Q (F 0 0) (M 0 (D .eql Y0 (Y 1) (P 0 (Q (A 4) (Q (F 2 0) (M 0 (.call 22 [Y0] (.ret Y0))))) (D .eql Y1 (Y 2) (P 0 (.bsl 1 [(str ⟨#[]⟩)] 2 [(0,(.lit (.val (.string ⟨#[35,102]⟩)))),(1,(.lit (.val (.string ⟨#[35,116]⟩))))] (Q (A 6) (Q (F 2 0) (M 0 (J 1 3 0 (M 0 (.ret Y0))))))) (D .eql Y2 (Y 3) (P 0 (Q (A 6) (Q (F 3 0) (M 0 (.ret Y0)))) (.call 70 [Y8,Y7] (.lp [0,6,7,8] (O 2 (D .lss Y4 Y0 (P 0 (.jn 16201 [0,6,7,8] (J 1 2 3 (M 0 (.call 42 [Y2,Y0] (Q (.sbin .add Y4 Y0) (D .add Y7 (Y 1) (.jump 0 [Y5,Y1,Y7,Y0])))))) (D .gtr Y5 (Y 0) (P 0 (Q (.sbin .add Y4 (.lit (.val (.string ⟨#[32]⟩)))) (.jump 0 [Y4,Y0,Y6,Y7])) (.jump 0 [Y3,Y4,Y5,Y6])))) (Q (.sbin .add Y3 (.lit (.val (.string ⟨#[41]⟩)))) (.ret Y0))))) [Y9,(.lit (.val (.string ⟨#[40]⟩))),Y0,(Y 0)])))))))))))
theorem Qly (h:den TP TT R x42 [a1,a0] [] σ):acall TP Qcn [a0,a1] σ R:=Qb Qg Tryz.func42 rfl x42 (by kernel_rfl) rfl h
def x43:Sx:= .ord [0,1,2,3,4,5,6,7,8,9,10,11,12,13,14,15,16,17] [0,1,3,7,0,16,48,112,0,256,768,1792,0,4096,12288,28672,65535,131071] (Q (A 0) (Q (F 1 0) (M 0 (Q (A 3) (Q (F 2 0) (M 0 (Q (A 6) (Q (F 3 0) (M 0 (Q (A 9) (Q (F 4 0) (M 0 (Q (.bslR 1 [(iv 0)] 4 [(0,Y9),(1,Y6),(2,Y3),(3,Y0)]) (.ret Y0))))))))))))))
theorem QnZ (h:den TP TT R x43 [a0] [] σ):acall TP QiX [a0] σ R:=Qb Qg Tryz.func43 rfl x43 (by kernel_rfl) rfl h
def QqC (a0:AV) (σ:AH) (R:AEnd→AH→Prop):Prop:=
 jn (X:=Tup [3,4]) (fun x1 σ=>
 apick x1.2.1 (
 aret (iv 1) σ R) (
 jn (X:=Tup [3,10]) (fun x2 σ=>
 apick x2.2.1 (
 aret (iv 2) σ R) (
 og (ibin .eql x2.1 (iv 16)) fun v14=>
 apick v14 (
 aret (iv 3) σ R) (
 og (ibin .eql x2.1 (iv 15)) fun v16=>
 apick v16 (
 aret (iv 4) σ R) (
 aret (iv 0) σ R)))) fun k2=>
 og (ibin .eql x1.1 (iv 2)) fun v11=>
 apick v11 (
 k2 (x1.1,v11,()) σ) (
 og (ibin .eql x1.1 (iv 14)) fun v12=>
 k2 (x1.1,v12,()) σ))) fun k1=>
 og (ibin .eql a0 (iv 4)) fun v5=>
 apick v5 (
 k1 (a0,v5,()) σ) (
 og (ibin .eql a0 (iv 5)) fun v6=>
 apick v6 (
 k1 (a0,v6,()) σ) (
 og (ibin .eql a0 (iv 6)) fun v7=>
 apick v7 (
 k1 (a0,v7,()) σ) (
 og (ibin .eql a0 (iv 10)) fun v8=>
 apick v8 (
 k1 (a0,v8,()) σ) (
 og (ibin .eql a0 (iv 11)) fun v9=>
 k1 (a0,v9,()) σ))))
def x44:Sx:= .jn 53 [3,4] (P 1 (.ret (Y 1)) (.jn 215 [3,10] (P 1 (.ret (Y 2)) (D .eql Y0 (Y 16) (P 0 (.ret (Y 3)) (D .eql Y1 (Y 15) (P 0 (.ret (Y 4)) (.ret (Y 0))))))) (D .eql Y0 (Y 2) (P 0 (.jump 0 [Y1,Y0]) (D .eql Y1 (Y 14) (.jump 0 [Y2,Y0])))))) (D .eql Y0 (Y 4) (P 0 (.jump 0 [Y1,Y0]) (D .eql Y1 (Y 5) (P 0 (.jump 0 [Y2,Y0]) (D .eql Y2 (Y 6) (P 0 (.jump 0 [Y3,Y0]) (D .eql Y3 (Y 10) (P 0 (.jump 0 [Y4,Y0]) (D .eql Y4 (Y 11) (.jump 0 [Y5,Y0]))))))))))
theorem QAZ:okF TT Tryz.f44 1 x44=true:=by decide+kernel
theorem QmI (h:QqC a0 σ R):acall TP Qg9 [a0] σ R:=
 Qb (ρ:=[a0]) Qg Tryz.func44 rfl x44 QAZ rfl h
def x46:Sx:= .box Y0 (.frz 1 Y0 (Q (F 0 0) (M 0 (.call 72 [Y0,(Y 0),(Y 3)] (Q (.aun .not Y0) (P 0 (.ret (Y 3)) (Q (F 1 4) (M 0 (O 0 (D .gtr Y0 (Y 200) (P 0 (.ret (Y 2)) (Q (F 1 8) (M 0 (O 0 (.lp [17,18,19] (D .lss Y2 Y1 (P 0 (J 7 1 3 (Q (.lodA 7 Y0) (.new [(iv 0),(iv 0),(iv 0),(iv 0),(iv 0),(str ⟨#[]⟩),nilS] (.sto 7 Y0 Y1 (.frz 6 Y0 (Q (.lodA 7 Y0) (.call 73 [Y0] (D .neq Y0 (Y 0) (P 0 (.ret Y1) (D .add Y10 (Y 1) (.jump 0 [Y9,Y10,Y0]))))))))))) (.ret (Y 0)))) [Y1,Y0,(Y 0)])))))))))))))))
theorem Qip (h:den TP TT R x46 [a0] [] σ):acall TP Qdh [a0] σ R:=Qb Qg Tryz.func46 rfl x46 (by kernel_rfl) rfl h
def x49:Sx:=D .eql Y0 (Y 3) (G 0 (.ret Y1) (G 1 (B .eql Y0 (Y 8)) (Q (.pickV Y2 (.lit (.val (.bool true))) Y0) (G 0 (.ret Y4) (G 1 (B .eql Y0 (Y 9)) (Q (.pickV Y2 (.lit (.val (.bool true))) Y0) (.ret Y0)))))))
theorem Qlz (h:den TP TT R x49 [a0] [] σ):acall TP QfP [a0] σ R:=Qb Qg Tryz.func49 rfl x49 (by kernel_rfl) rfl h
def x50:Sx:=D .eql Y0 (Y 1) (G 0 (.ret Y1) (G 1 (B .eql Y0 (Y 13)) (Q (.pickV Y2 (.lit (.val (.bool true))) Y0) (.ret Y0))))
theorem QmJ (h:den TP TT R x50 [a0] [] σ):acall TP QcR [a0] σ R:=Qb Qg Tryz.func50 rfl x50 (by kernel_rfl) rfl h
def x51:Sx:=J 4 1 0 (Q (.lodA 4 Y0) (.new [(iv 0),(iv 0),(iv 0),(str ⟨#[]⟩)] (.sto 4 Y0 Y1 (.frz 4 Y0 (Q (F 0 0) (M 0 (D .eql Y0 (Y 1) (P 0 (Q (F 2 3) (M 0 (.call 27 [Y0] (.ret Y0)))) (D .eql Y1 (Y 2) (P 0 (Q (F 2 4) (M 0 (.call 76 [Y0] (.ret Y0)))) (D .eql Y2 (Y 3) (P 0 (Q (F 3 5) (M 0 (.ret Y0))) (.bsl 1 [(str ⟨#[]⟩)] 0 [] (.call 77 [Y11,Y10] (O 0 (.lp [0,6,32,33,34] (D .lss Y4 Y3 (P 0 (J 1 3 5 (M 0 (.call 51 [Y3,Y0] (.bsl 1 [(str ⟨#[]⟩)] 1 [(0,Y0)] (.app 1 Y6 Y0 (D .add Y10 (Y 1) (.jump 0 [Y7,Y1,Y9,Y10,Y0]))))))) (.call 53 [Y2,(.lit (.val (.string ⟨#[32]⟩)))] (Q (.sbin .add (.lit (.val (.string ⟨#[40]⟩))) Y0) (Q (.sbin .add Y0 (.lit (.val (.string ⟨#[41]⟩)))) (.ret Y0)))))) [Y13,Y2,Y1,Y0,(Y 0)]))))))))))))))))
theorem QlA (h:den TP TT R x51 [a1,a0] [] σ):acall TP QfQ [a0,a1] σ R:=Qb Qg Tryz.func51 rfl x51 (by kernel_rfl) rfl h
def QqD (a0:AV) (σ:AH) (R:AEnd→AH→Prop):Prop:=
 jn (X:=Tup [3,4]) (fun x1 σ=>
 apick x1.2.1 (
 aret (iv 1) σ R) (
 jn (X:=Tup [3,10]) (fun x2 σ=>
 apick x2.2.1 (
 aret (iv 2) σ R) (
 og (ibin .eql x2.1 (iv 16)) fun v14=>
 apick v14 (
 aret (iv 3) σ R) (
 og (ibin .eql x2.1 (iv 15)) fun v16=>
 apick v16 (
 aret (iv 4) σ R) (
 aret (iv 0) σ R)))) fun k2=>
 og (ibin .eql x1.1 (iv 2)) fun v11=>
 apick v11 (
 k2 (x1.1,v11,()) σ) (
 og (ibin .eql x1.1 (iv 14)) fun v12=>
 k2 (x1.1,v12,()) σ))) fun k1=>
 og (ibin .eql a0 (iv 4)) fun v5=>
 apick v5 (
 k1 (a0,v5,()) σ) (
 og (ibin .eql a0 (iv 5)) fun v6=>
 apick v6 (
 k1 (a0,v6,()) σ) (
 og (ibin .eql a0 (iv 6)) fun v7=>
 apick v7 (
 k1 (a0,v7,()) σ) (
 og (ibin .eql a0 (iv 10)) fun v8=>
 apick v8 (
 k1 (a0,v8,()) σ) (
 og (ibin .eql a0 (iv 11)) fun v9=>
 k1 (a0,v9,()) σ))))
def x52:Sx:= .jn 53 [3,4] (P 1 (.ret (Y 1)) (.jn 215 [3,10] (P 1 (.ret (Y 2)) (D .eql Y0 (Y 16) (P 0 (.ret (Y 3)) (D .eql Y1 (Y 15) (P 0 (.ret (Y 4)) (.ret (Y 0))))))) (D .eql Y0 (Y 2) (P 0 (.jump 0 [Y1,Y0]) (D .eql Y1 (Y 14) (.jump 0 [Y2,Y0])))))) (D .eql Y0 (Y 4) (P 0 (.jump 0 [Y1,Y0]) (D .eql Y1 (Y 5) (P 0 (.jump 0 [Y2,Y0]) (D .eql Y2 (Y 6) (P 0 (.jump 0 [Y3,Y0]) (D .eql Y3 (Y 10) (P 0 (.jump 0 [Y4,Y0]) (D .eql Y4 (Y 11) (.jump 0 [Y5,Y0]))))))))))
theorem QA4:okF TT Tryz.f52 1 x52=true:=by decide+kernel
theorem QmK (h:QqD a0 σ R):acall TP Qha [a0] σ R:=
 Qb (ρ:=[a0]) Qg Tryz.func52 rfl x52 QA4 rfl h
def x55:Sx:= .call 68 [Y0,(Y 1),(Y 64)] (.ret Y0)
theorem QlB (h:den TP TT R x55 [a0] [] σ):acall TP QnX [a0] σ R:=Qb Qg Tryz.func55 rfl x55 (by kernel_rfl) rfl h
def x56:Sx:= .call 68 [Y0,(Y 0),(Y 15)] (.ret Y0)
theorem Qkd (h:den TP TT R x56 [a0] [] σ):acall TP QmF [a0] σ R:=Qb Qg Tryz.func56 rfl x56 (by kernel_rfl) rfl h
def x57:Sx:= .call 80 [Y0] (Q (.aext Y0 0) (Q (.aext Y1 1) (D .neq Y0 (Y 0) (P 0 (.rets [(.lit nilS),Y1]) (.call 81 [Y2] (Q (.aext Y0 0) (Q (.aext Y1 1) (Q (.aun .not Y0) (P 0 (.rets [(.lit nilS),(Y 2)]) (.rets [Y2,(Y 0)]))))))))))
theorem Qke (h:den TP TT R x57 [a0] [] σ):acall TP QeJ [a0] σ R:=Qb Qg Tryz.func57 rfl x57 (by kernel_rfl) rfl h
def x58:Sx:= .call 82 [Y0] (.lp [3,4] (O 0 (D .lss Y2 Y0 (P 0 (J 2 2 3 (.call 83 [Y0] (D .add Y5 (Y 1) (.jump 0 [Y5,Y0])))) (.ret Y2)))) [Y0,(Y 0)])
theorem Qiq (h:den TP TT R x58 [a0] [] σ):acall TP QaB [a0] σ R:=Qb Qg Tryz.func58 rfl x58 (by kernel_rfl) rfl h
def x59:Sx:= .call 82 [Y1] (.lp [1,5,6] (O 1 (D .lss Y3 Y0 (P 0 (J 2 3 4 (.call 84 [Y0,Y3] (J 2 5 6 (Q (F 1 0) (.sto 1 Y0 Y2 (D .add Y8 (Y 1) (.jump 0 [Y7,Y8,Y0]))))))) (.ret Y3)))) [Y1,Y0,(Y 0)])
theorem Qir (h:den TP TT R x59 [a1,a0] [] σ):acall TP QaC [a0,a1] σ R:=Qb Qg Tryz.func59 rfl x59 (by kernel_rfl) rfl h
def x60:Sx:= .call 72 [Y0,(Y 1),(Y 64)] (.ret Y0)
theorem QmL (h:den TP TT R x60 [a0] [] σ):acall TP Qpd [a0] σ R:=Qb Qg Tryz.func60 rfl x60 (by kernel_rfl) rfl h
def x61:Sx:= .call 72 [Y0,(Y 0),(Y 15)] (Q (.aun .not Y0) (P 0 (.ret (Y 3)) (.ret (Y 0))))
theorem Qis (h:den TP TT R x61 [a0] [] σ):acall TP Qdi [a0] σ R:=Qb Qg Tryz.func61 rfl x61 (by kernel_rfl) rfl h
def x62:Sx:= .call 85 [Y0] (Q (.aext Y0 0) (Q (.aext Y1 1) (D .neq Y0 (Y 0) (P 0 (.rets [(.lit nilS),Y1]) (.call 86 [Y2] (Q (.aext Y0 0) (Q (.aext Y1 1) (.rets [Y1,Y0]))))))))
theorem QjF (h:den TP TT R x62 [a0] [] σ):acall TP QdM [a0] σ R:=Qb Qg Tryz.func62 rfl x62 (by kernel_rfl) rfl h
def x63:Sx:= .call 87 [Y0] (O 1 (.lp [3,14,15,16] (D .lss Y3 Y2 (P 0 (J 2 2 4 (Q (.lodA 2 Y0) (.new [(iv 0),nilS] (.sto 2 Y0 Y1 (.frz 7 Y0 (J 2 5 8 (Q (F 1 0) (M 0 (Q (F 1 3) (M 0 (O 0 (.lp [3,5,6,14,15,16,27,28,29] (D .lss Y8 Y7 (P 0 (.jn 956839 [3,5,6,14,15,16,27,28,29] (D .add Y8 (Y 1) (.jump 0 [Y1,Y2,Y3,Y4,Y5,Y6,Y7,Y8,Y0])) (J 7 7 9 (Q (.lodA 7 Y0) (.new [(iv 0),(iv 0),(iv 0),(iv 0),(iv 0),(str ⟨#[]⟩),nilS] (.sto 7 Y0 Y1 (.frz 12 Y0 (Q (F 0 0) (M 0 (D .neq Y0 (Y 5) (H 0 (F 0 3) (H 1 (L 0) (H 2 (B .neq Y0 (Y 6)) (Q (.pickV Y3 Y0 (.lit (.val (.bool false)))) (P 0 (.jump 0 [Y12,Y13,Y14,Y15,Y16,Y17,Y18,Y19,Y20]) (Q (F 1 7) (M 0 (.jn 30618831 [3,5,6,7,9,14,15,16,27,28,29] (J 7 2 3 (Q (F 1 0) (.sto 1 Y0 Y6 (.jump 0 [Y2,Y3,Y4,Y7,Y8,Y9,Y10,Y11,Y12])))) (Q (F 1 15) (M 0 (O 0 (.lp [3,5,6,7,9,14,15,16,27,28,29,46,47] (D .lss Y12 Y11 (P 0 (Q (F 1 2) (M 0 (J 7 0 7 (Q (F 0 0) (M 0 (D .neq Y0 (Y 5) (P 0 (.jump 1 [Y7,Y8,Y9,Y10,Y11,Y12,Y13,Y14,Y15,Y16,Y17]) (Q (F 1 8) (M 0 (J 7 0 13 (Q (F 1 0) (M 0 (D .add Y24 (Y 1) (.jump 0 [Y13,Y14,Y15,Y16,Y1,Y18,Y19,Y20,Y21,Y22,Y23,Y24,Y0])))))))))))))) (.jump 1 [Y1,Y2,Y3,Y4,Y5,Y6,Y7,Y8,Y9,Y10,Y11]))) [Y17,Y18,Y19,Y25,Y3,Y20,Y21,Y22,Y23,Y24,Y25,Y0,(Y 0)]))))))))))))))))))))) (O 3 (.lp [3,5,6,14,15,16,69,70,71] (D .lss Y8 Y7 (P 0 (.jn 956903 [3,5,6,14,15,16,69,70,71] (D .add Y8 (Y 1) (.jump 0 [Y1,Y2,Y3,Y4,Y5,Y6,Y7,Y8,Y0])) (J 7 7 9 (Q (.lodA 7 Y0) (.new [(iv 0),(iv 0),(iv 0),(iv 0),(iv 0),(str ⟨#[]⟩),nilS] (.sto 7 Y0 Y1 (.frz 12 Y0 (Q (F 0 0) (M 0 (D .eql Y0 (Y 5) (H 0 (F 1 9) (H 1 (L 0) (H 2 (F 1 5) (H 3 (L 0) (H 4 (I 7 2 0) (H 5 (F 0 0) (H 6 (L 0) (H 7 (B .eql Y0 (Y 12)) (Q (.pickV Y8 Y0 (.lit (.val (.bool false)))) (P 0 (Q (.bld [(iv 0),(iv 0),(iv 0),(iv 0),(iv 0),(str ⟨#[]⟩),nilS] [(0,1),(1,1),(2,1),(3,1),(4,1),(5,1),(6,1)] [(0,(Y 12))]) (J 7 20 26 (.sto 7 Y0 Y1 (.jump 0 [Y19,Y20,Y21,Y22,Y23,Y24,Y25,Y26,Y27])))) (.jump 0 [Y17,Y18,Y19,Y20,Y21,Y22,Y23,Y24,Y25])))))))))))))))))))) (D .add Y6 (Y 1) (.jump 2 [Y2,Y5,Y6,Y0])))) [Y2,Y3,Y4,Y5,Y6,Y7,Y4,Y0,(Y 0)])))) [Y11,Y6,Y3,Y12,Y13,Y14,Y1,Y0,(Y 0)])))))))))))) (.ret Y1))) [Y1,Y2,Y0,(Y 0)]))
theorem QmM (h:den TP TT R x63 [a0] [] σ):acall TP Qhb [a0] σ R:=Qb Qg Tryz.func63 rfl x63 (by kernel_rfl) rfl h
def x64:Sx:= .call 87 [Y1] (O 0 (.lp [1,5,17,18,19] (D .lss Y4 Y3 (P 0 (J 2 3 5 (Q (.lodA 2 Y0) (.new [(iv 0),nilS] (.sto 2 Y0 Y1 (.jn 7475 [1,5,6,7,8,9,10,17,18,19] (.lp [1,5,6,7,8,9,10,11,17,18,19] (Q (F 1 3) (M 0 (O 0 (D .lss Y10 Y0 (P 0 (Q (F 1 7) (M 0 (J 7 0 13 (Q (.lodA 7 Y0) (.new [(iv 0),(iv 0),(iv 0),(iv 0),(iv 0),(str ⟨#[]⟩),nilS] (.sto 7 Y0 Y1 (O 14 (J 1 16 17 (.sto 1 Y0 Y1 (.jn 7654695 [1,5,6,7,8,9,10,11,12,17,18,19] (.frz 3 Y8 (Q (.lodA 7 Y0) (.bsl 7 [(iv 0),(iv 0),(iv 0),(iv 0),(iv 0),(str ⟨#[]⟩),nilS] 1 [(0,Y0)] (.app 7 Y8 Y0 (D .add Y11 (Y 1) (.jump 0 [Y5,Y6,Y7,Y8,Y9,Y1,Y11,Y0,Y14,Y15,Y16])))))) (.jn 15309389 [1,5,6,7,8,9,10,11,12,17,18,19,60] (P 12 (.ord [0,1,2,3,4,5,6,7,8,9,10,11,12,13,14] [0,0,2,0,8,30,62,0,255,511,1023,1023,0,6143,16383] (Q (.lodA 7 Y8) (Q (F 1 4) (M 0 (D .add Y10 (Y 1) (J 7 1 0 (Q (.lodA 7 Y0) (.call 90 [Y5,Y0,Y6] (.wat [] (Q (.aext Y0 0) (Q (.aext Y1 1) (.new [(iv 0),(iv 0),(iv 0),(iv 0),(iv 0),(str ⟨#[]⟩),nilS] (.wat [] (.sto 7 Y0 Y2 (.wat [] (.frz 22 Y0 (P 2 (Q (.lodA 7 Y0) (.sto 7 Y20 Y0 (.frz 4 Y20 (D .add Y20 (Y 1) (.jump 0 [Y14,Y15,Y16,Y17,Y18,Y19,Y20,Y0,Y1,Y23,Y24,Y25]))))) (.jump 0 [Y11,Y12,Y13,Y14,Y15,Y16,Y17,Y18,Y19,Y20,Y21,Y22])))))))))))))))))) (.jump 0 [Y0,Y1,Y2,Y3,Y4,Y5,Y6,Y7,Y8,Y9,Y10,Y11])) (D .add Y18 (Y 1) (Q (F 1 15) (M 0 (O 0 (D .lss Y3 Y0 (H 0 (.ret Y20) (H 1 (.ret Y24) (H 2 (B .add Y0 (Y 1)) (.gpick Y3 (.call 89 [Y2,Y0] (Q (.aun .not Y0) (.jump 0 [Y21,Y22,Y23,Y24,Y25,Y26,Y27,Y28,Y12,Y29,Y30,Y31,Y0]))) (.jump 0 [Y19,Y20,Y21,Y22,Y23,Y24,Y25,Y26,Y10,Y27,Y28,Y29,(.lit (.val (.bool false)))]) (.no))))))))))))))))))))) (.call 91 [Y9,Y10] (J 2 6 7 (Q (F 1 0) (.sto 1 Y0 Y12 (D .add Y17 (Y 1) (.jump 1 [Y8,Y9,Y16,Y17,Y0]))))))))))) [Y0,Y1,Y2,Y3,Y4,Y5,Y6,(Y 0),Y7,Y8,Y9]) (.frz 8 Y0 (.both [0,2,3,4,5] 1 [7,8,6,9] 6 [1,7,8,9] [0,1,0,0,8,24,56,3,135,511] (Q (.lodA 2 Y0) (Q (.bslR 7 [(iv 0),(iv 0),(iv 0),(iv 0),(iv 0),(str ⟨#[]⟩),nilS] 0 []) (Q (F 1 2) (M 0 (O 0 (.call 88 [Y4] (.wat [⟨none,(.lod Y3),Y2⟩] (.mks 82 Y1 Y1 (.wat [⟨none,(.lodA 2 Y7),Y6⟩] (.jump 0 [Y12,Y13,Y16,Y7,Y1,Y5,Y0,Y14,Y15,Y16])))))))))) (Q (.lodA 2 Y0) (Q (.bslR 7 [(iv 0),(iv 0),(iv 0),(iv 0),(iv 0),(str ⟨#[]⟩),nilS] 0 []) (Q (F 1 2) (M 0 (O 0 (.mks 82 Y0 Y0 (.wat [⟨none,(.lodA 2 Y6),Y5⟩] (.call 88 [Y5] (.wat [⟨none,(.lod Y4),Y3⟩] (.jump 0 [Y12,Y13,Y16,Y7,Y0,Y5,Y1,Y14,Y15,Y16]))))))))))))))))) (.ret Y2))) [Y2,Y1,Y1,Y0,(Y 0)]))
theorem Qn0 (h:den TP TT R x64 [a1,a0] [] σ):acall TP QiY [a0,a1] σ R:=Qb Qg Tryz.func64 rfl x64 (by kernel_rfl) rfl h
def x68:Sx:=D .geq Y2 Y1 (H 0 (.ret Y3) (H 1 (.ret Y2) (H 2 (B .leq Y1 Y0) (Q (.pickV Y3 Y0 (.lit (.val (.bool false)))) (.ret Y0)))))
theorem Qpf (h:den TP TT R x68 [a2,a1,a0] [] σ):acall TP QeK [a0,a1,a2] σ R:=Qb Qg Tryz.func68 rfl x68 (by kernel_rfl) rfl h
def x69:Sx:=Q (A 0) (Q (F 0 0) (M 0 (.call 68 [Y0,(Y 1),(Y 16)] (Q (.aun .not Y0) (P 0 (.ret (Y 1)) (.call 43 [Y5] (Q (A 6) (Q (F 0 0) (M 0 (.call 44 [Y0] (.lp [0,3,4] (D .lss Y2 (Y 4) (P 0 (J 1 2 3 (M 0 (D .neq Y0 (Y 0) (P 0 (.ret (Y 1)) (D .add Y6 (Y 1) (.jump 0 [Y5,Y6,Y0])))))) (.jn 125 [0,3,56] (P 2 (.ret (Y 1)) (.lp [0,3,5] (D .lss Y2 (Y 4) (P 0 (J 1 2 3 (M 0 (.call 68 [Y0,(Y 0),(Y 999)] (Q (.aun .not Y0) (P 0 (.ret (Y 3)) (D .add Y7 (Y 1) (.jump 0 [Y6,Y7,Y0]))))))) (Q (A 1) (Q (F 0 0) (M 0 (D .eql Y0 (Y 10) (G 0 (.ret Y5) (G 1 (A 0) (G 2 (F 0 0) (G 3 (L 0) (G 4 (B .eql Y0 (Y 11)) (Q (.pickV Y5 (.lit (.val (.bool true))) Y0) (H 0 (.ret Y11) (H 1 (A 0) (H 2 (F 1 0) (H 3 (L 0) (H 4 (B .gtr Y0 (Y 3)) (Q (.pickV Y5 Y0 (.lit (.val (.bool false)))) (P 0 (.ret (Y 3)) (.jn 1021 [0,98] (P 1 (.ret (Y 5)) (Q (A 0) (Q (F 0 0) (M 0 (.call 41 [Y0] (P 0 (Q (A 4) (Q (F 6 0) (M 0 (.call 97 [Y0] (.ret Y0))))) (.ret (Y 0)))))))) (Q (A 17) (Q (F 0 0) (M 0 (.call 40 [Y0] (H 0 (.ret Y21) (H 1 (A 0) (H 2 (F 5 0) (H 3 (L 0) (.gpick Y4 (.call 96 [Y0] (Q (.aun .not Y0) (.jump 0 [Y27,Y0]))) (.jump 0 [Y25,(.lit (.val (.bool false)))]) (.no)))))))))))))))))))))))))))))) [Y0,Y1,(Y 0)])) (Q (A 1) (Q (F 0 0) (M 0 (.call 40 [Y0] (Q (.aun .not Y0) (H 0 (.ret Y6) (H 1 (A 0) (H 2 (F 5 0) (H 3 (L 0) (H 4 (.sbin .neq Y0 (.lit (str ⟨#[]⟩))) (Q (.pickV Y5 Y0 (.lit (.val (.bool false)))) (G 0 (.ret Y12) (G 1 (A 0) (G 2 (F 0 0) (G 3 (L 0) (.gpick Y4 (.jump 0 [Y16,Y17,(.lit (.val (.bool true)))]) (.call 41 [Y0] (Q (.aun .not Y0) (.gog Y0 true true (.ret Y18) (.gog Y1 true true (A 0) (.gog Y2 true true (F 6 0) (.gog Y3 true true (L 0) (.gog Y4 true true (N 0) (.gog Y5 true true (B .gtr Y0 (Y 0)) (Q (.pickV Y6 Y0 (.lit (.val (.bool false)))) (.jump 0 [Y25,Y26,Y0])))))))))) (.no)))))))))))))))))))) [Y10,Y4,Y0])))))))))))
theorem Qpg (h:den TP TT R x69 [a0] [] σ):acall TP QjY [a0] σ R:=Qb Qg Tryz.func69 rfl x69 (by kernel_rfl) rfl h
def x70:Sx:= .bsl 1 [(iv 0)] 0 [] (.lp [0,1,5,6] (O 0 (D .lss Y4 Y0 (P 0 (.jn 467 [0,1,5,6] (D .add Y3 (Y 1) (.jump 0 [Y1,Y2,Y3,Y0])) (J 4 2 5 (Q (F 1 0) (M 0 (D .eql Y0 Y6 (P 0 (.bsl 1 [(iv 0)] 1 [(0,Y9)] (.app 1 Y9 Y0 (.jump 0 [Y8,Y9,Y0,Y11]))) (.jump 0 [Y6,Y7,Y8,Y9]))))))) (.ret Y4)))) [Y2,Y1,Y0,(Y 0)])
theorem QlC (h:den TP TT R x70 [a1,a0] [] σ):acall TP QfS [a0,a1] σ R:=Qb Qg Tryz.func70 rfl x70 (by kernel_rfl) rfl h
def x72:Sx:=D .leq Y1 Y2 (H 0 (.ret Y3) (H 1 (.ret Y2) (H 2 (B .leq Y1 Y0) (Q (.pickV Y3 Y0 (.lit (.val (.bool false)))) (.ret Y0)))))
theorem Qrz (h:den TP TT R x72 [a2,a1,a0] [] σ):acall TP Qeb [a0,a1,a2] σ R:=Qb Qg Tryz.func72 rfl x72 (by kernel_rfl) rfl h
def x73:Sx:= .box Y0 (.frz 1 Y0 (Q (F 1 0) (M 0 (Q (F 2 2) (M 0 (Q (F 3 4) (M 0 (Q (F 4 6) (M 0 (.bsl 1 [(iv 0)] 4 [(0,Y6),(1,Y4),(2,Y2),(3,Y0)] (.frz 11 Y0 (.jn 121 [1,3,14] (P 2 (.ret (Y 1)) (.call 100 [Y1,(.lit (.clo (.func Qbd) [] []))] (G 0 (F 0 1) (G 1 (L 0) (G 2 (B .eql Y0 (Y 10)) (G 3 (.ret Y0) (.gog Y0 false true (F 0 5) (.gog Y1 false true (L 0) (.gog Y2 false true (B .eql Y0 (Y 11)) (G 7 (.pickV Y3 (.lit (.val (.bool true))) Y0) (G 8 (.ret Y0) (.gog Y0 true true (F 1 10) (.gog Y1 true true (L 0) (.gog Y2 true true (B .gtr Y0 (Y 3)) (G 12 (.pickV Y3 Y0 (.lit (.val (.bool false)))) (Q (.pickV Y13 (.lit (.val (.bool true))) Y0) (P 0 (.ret (Y 3)) (Q (F 0 15) (M 0 (.call 49 [Y0] (P 0 (Q (F 5 18) (M 0 (.call 102 [Y0] (.ret Y0)))) (Q (F 0 18) (M 0 (.call 50 [Y0] (P 0 (Q (F 6 21) (M 0 (.call 103 [Y0] (.ret Y0)))) (.ret (Y 0))))))))))))))))))))))))))) (Q (F 0 10) (M 0 (.call 72 [Y0,(Y 1),(Y 16)] (Q (.aun .not Y0) (G 0 (.ret Y4) (G 1 (F 0 15) (G 2 (L 0) (.gpick Y3 (.jump 0 [Y17,Y7,(.lit (.val (.bool true)))]) (.call 52 [Y0] (Q (.slc 1 Y3 (some Y0) none none) (.call 100 [Y0,(.lit (.clo (.func Qbc) [] []))] (G 0 (F 5 20) (G 1 (L 0) (G 2 (.sbin .neq Y0 (.lit (str ⟨#[]⟩))) (G 3 (.ret Y0) (.gog Y0 true true (F 0 24) (.gog Y1 true true (L 0) (.gpick Y2 (.call 49 [Y0] (Q (.aun .not Y0) (G 8 (.ret Y0) (Q (.pickV Y9 (.lit (.val (.bool true))) Y0) (G 0 (F 6 30) (G 1 (L 0) (G 2 (N 0) (G 3 (B .gtr Y0 (Y 0)) (G 4 (.ret Y0) (.gog Y0 true true (F 0 35) (.gog Y1 true true (L 0) (.gpick Y2 (.call 50 [Y0] (Q (.aun .not Y0) (G 9 (.ret Y0) (Q (.pickV Y10 (.lit (.val (.bool true))) Y0) (.jump 0 [Y41,Y31,Y0]))))) (G 7 (.ret (.lit (.val (.bool false)))) (Q (.pickV Y8 (.lit (.val (.bool true))) Y0) (.jump 0 [Y39,Y29,Y0]))) (G 7 (.pickV (.lit (.tup [])) (.lit (.tup [])) (.lit (.val (.bool false)))) (Q (.pickV Y8 (.lit (.val (.bool true))) Y0) (.jump 0 [Y39,Y29,Y0]))))))))))))))) (G 6 (.ret (.lit (.val (.bool false)))) (Q (.pickV Y7 (.lit (.val (.bool true))) Y0) (G 0 (F 6 28) (G 1 (L 0) (G 2 (N 0) (G 3 (B .gtr Y0 (Y 0)) (G 4 (.ret Y0) (.gog Y0 true true (F 0 33) (.gog Y1 true true (L 0) (.gpick Y2 (.call 50 [Y0] (Q (.aun .not Y0) (G 9 (.ret Y0) (Q (.pickV Y10 (.lit (.val (.bool true))) Y0) (.jump 0 [Y39,Y29,Y0]))))) (G 7 (.ret (.lit (.val (.bool false)))) (Q (.pickV Y8 (.lit (.val (.bool true))) Y0) (.jump 0 [Y37,Y27,Y0]))) (G 7 (.pickV (.lit (.tup [])) (.lit (.tup [])) (.lit (.val (.bool false)))) (Q (.pickV Y8 (.lit (.val (.bool true))) Y0) (.jump 0 [Y37,Y27,Y0]))))))))))))) (G 6 (.pickV (.lit (.tup [])) (.lit (.tup [])) (.lit (.val (.bool false)))) (Q (.pickV Y7 (.lit (.val (.bool true))) Y0) (G 0 (F 6 28) (G 1 (L 0) (G 2 (N 0) (G 3 (B .gtr Y0 (Y 0)) (G 4 (.ret Y0) (.gog Y0 true true (F 0 33) (.gog Y1 true true (L 0) (.gpick Y2 (.call 50 [Y0] (Q (.aun .not Y0) (G 9 (.ret Y0) (Q (.pickV Y10 (.lit (.val (.bool true))) Y0) (.jump 0 [Y39,Y29,Y0]))))) (G 7 (.ret (.lit (.val (.bool false)))) (Q (.pickV Y8 (.lit (.val (.bool true))) Y0) (.jump 0 [Y37,Y27,Y0]))) (G 7 (.pickV (.lit (.tup [])) (.lit (.tup [])) (.lit (.val (.bool false)))) (Q (.pickV Y8 (.lit (.val (.bool true))) Y0) (.jump 0 [Y37,Y27,Y0]))))))))))))))))))))))) (.no)))))))))))))))))))))
theorem QlD (h:den TP TT R x73 [a0] [] σ):acall TP QfT [a0] σ R:=Qb Qg Tryz.func73 rfl x73 (by kernel_rfl) rfl h
def x76:Sx:=D .eql Y0 (Y 1) (P 0 (.ret (.lit (.val (.string ⟨#[35,116]⟩)))) (.ret (.lit (.val (.string ⟨#[35,102]⟩)))))
theorem Qkg (h:den TP TT R x76 [a0] [] σ):acall TP QeL [a0] σ R:=Qb Qg Tryz.func76 rfl x76 (by kernel_rfl) rfl h
def x77:Sx:= .bsl 1 [(iv 0)] 0 [] (O 2 (.lp [1,5,9,10,11] (D .lss Y4 Y3 (P 0 (.jn 935 [1,5,9,10,11] (D .add Y4 (Y 1) (.jump 0 [Y1,Y2,Y3,Y4,Y0])) (J 4 3 5 (Q (.lodA 4 Y0) (.new [(iv 0),(iv 0),(iv 0),(str ⟨#[]⟩)] (.sto 4 Y0 Y1 (.frz 8 Y0 (Q (F 1 0) (M 0 (D .eql Y0 Y7 (P 0 (.bsl 1 [(iv 0)] 1 [(0,Y12)] (.app 1 Y10 Y0 (.jump 0 [Y10,Y0,Y12,Y13,Y14]))) (.jump 0 [Y8,Y9,Y10,Y11,Y12]))))))))))) (.ret Y2))) [Y2,Y1,Y3,Y0,(Y 0)]))
theorem Qn1 (h:den TP TT R x77 [a1,a0] [] σ):acall TP QiZ [a0,a1] σ R:=Qb Qg Tryz.func77 rfl x77 (by kernel_rfl) rfl h
end
end Go.Proofs.YtggnjjalfnhiiaaGreatDoor.E
