import Derived.Test.YtggnjjalfnhiiaaGreatDoorPM9
/- What functions come to. Printed by mkg.py. -/
set_option maxRecDepth 1000000
namespace Go.Proofs.YtggnjjalfnhiiaaGreatDoor.E
open Go Go.RowKit X
set_option linter.unusedVariables false
set_option linter.unusedSectionVars false
variable [Lam] {a0 a1 a2 a3 a4 a5 a6:AV} {σ:AH} {R:AEnd→AH→Prop}
def x4:Sx:= .box (Z 0) (.frz 2 (Z 0) (Q (.lenStr (Z 3)) (D .gtr (Z 0) (Y 1048576) (P 0 (.ret (.lit (.val (.bool true)))) (Q (.lodA 4 (Z 2)) (.call 13 [(Z 0)] (.call 12 [(Z 7),(Z 0)] (.new [(iv 0),nilS] (.sto 2 (Z 0) (Z 1) (.frz 9 (Z 0) (Q (.lodA 4 (Z 7)) (.call 13 [(Z 0)] (.call 14 [(Z 12),(Z 0)] (.new [(iv 0),nilS] (.sto 2 (Z 0) (Z 1) (.frz 14 (Z 0) (Q (.lodA 2 (Z 0)) (Q (.lodA 2 (Z 6)) (.call 15 [(Z 1),(Z 0)] (Q (.aun .not (Z 0)) (P 0 (.ret (.lit (.val (.bool false)))) (Q (.lodA 2 (Z 4)) (.call 16 [(Z 0),(Y 1)] (Q (.lodA 2 (Z 6)) (.call 17 [(Z 0),(Y 1)] (D .lss (Z 0) (Y 0) (P 0 (.ret (.lit (.val (.bool false)))) (D .neq (Z 1) (Z 3) (P 0 (.ret (.lit (.val (.bool false)))) (Q (.lodA 4 (Z 22)) (.call 13 [(Z 0)] (.call 14 [(Z 27),(Z 0)] (.new [(iv 0),nilS] (.sto 2 (Z 0) (Z 1) (.frz 29 (Z 0) (Q (.lodA 2 (Z 0)) (Q (.lodA 2 (Z 21)) (.call 15 [(Z 1),(Z 0)] (Q (.aun .not (Z 0)) (P 0 (.ret (.lit (.val (.bool false)))) (Q (.lodA 2 (Z 19)) (.call 17 [(Z 0),(Y 1)] (D .lss (Z 0) (Y 0) (P 0 (.ret (.lit (.val (.bool false)))) (D .neq (Z 1) (Z 16) (P 0 (.ret (.lit (.val (.bool false)))) (.ret (.lit (.val (.bool true))))))))))))))))))))))))))))))))))))))))))))))))))
theorem Qz7:okF TT Tryz.f4 2 x4=true:=by decide+kernel
def Qbj (a0 a1:AV) (σ:AH) (R:AEnd→AH→Prop):Prop:=den TP TT R x4 [a1,a0] [] σ
theorem Qd0 (h:Qbj a0 a1 σ R):acall TP UD [a0,a1] σ R:=Qb (ρ:=[a1,a0]) Qg Tryz.func4 rfl x4 Qz7 rfl h
def x11:Sx:=O 1 (O 1 (D .neq (Z 1) (Z 0) (P 0 (.ret (.lit (.val (.bool false)))) (.lp [0,1,5] (O 0 (D .lss (Z 3) (Z 0) (P 0 (.ord [0,1,2,3,4,5,6,7,8,9] [0,0,3,7,0,0,48,112,255,511] (J 2 2 4 (Q (.lodA 2 (Z 0)) (J 2 5 6 (Q (.lodA 2 (Z 0)) (.call 31 [(Z 2),(Z 0)] (.wat [] (Q (.aun .not (Z 0)) (P 0 (.ret (.lit (.val (.bool false)))) (D .add (Z 10) (Y 1) (.jump 0 [(Z 9),(Z 10),(Z 0)]))))))))))) (.ret (.lit (.val (.bool true))))))) [(Z 4),(Z 3),(Y 0)]))))
theorem Qy4:okF TT Tryz.f11 2 x11=true:=by decide+kernel
def QfD (a0 a1:AV) (σ:AH) (R:AEnd→AH→Prop):Prop:=den TP TT R x11 [a1,a0] [] σ
theorem Qjp (h:QfD a0 a1 σ R):acall TP Qeq [a0,a1] σ R:=Qb (ρ:=[a1,a0]) Qg Tryz.func11 rfl x11 Qy4 rfl h
def x12:Sx:= .box (Z 0) (.new [(iv 0),nilS] (.frz 2 (Z 1) (.call 32 [(Z 0)] (D .neq (Z 0) (Y 0) (P 0 (Q (.bld [(iv 0),nilS] [(0,1),(1,1)] [(0,(Z 1))]) (.sto 2 (Z 4) (Z 0) (Q (.lodA 2 (Z 4)) (.ret (Z 0))))) (.call 33 [(Z 6),(Z 2)] (Q (.aext (Z 0) 0) (Q (.aext (Z 1) 1) (Q (.bld [(iv 0),nilS] [(0,1),(1,1)] [(0,(Z 0)),(1,(Z 1))]) (.sto 2 (Z 7) (Z 0) (Q (.lodA 2 (Z 7)) (.ret (Z 0)))))))))))))
theorem Qy5:okF TT Tryz.f12 2 x12=true:=by decide+kernel
def QfE (a0 a1:AV) (σ:AH) (R:AEnd→AH→Prop):Prop:=den TP TT R x12 [a1,a0] [] σ
theorem Qjq (h:QfE a0 a1 σ R):acall TP Qer [a0,a1] σ R:=Qb (ρ:=[a1,a0]) Qg Tryz.func12 rfl x12 Qy5 rfl h
def x13:Sx:= .box (Z 0) (.new [(iv 0),(iv 0),(.val (.bool false)),(.val (.bool false))] (.frz 1 (Z 1) (.new [(iv 0),(iv 0),(.val (.bool false)),(.val (.bool false))] (Q (F 0 1) (M 0 (Q (F 0 2) (.sto 1 (Z 0) (Z 1) (Q (F 1 4) (M 0 (Q (F 1 5) (.sto 1 (Z 0) (Z 1) (Q (F 2 7) (M 0 (Q (F 2 8) (.sto 1 (Z 0) (Z 1) (Q (F 3 10) (M 0 (Q (F 3 11) (.sto 1 (Z 0) (Z 1) (.frz 4 (Z 12) (Q (.lodA 4 (Z 0)) (.sto 4 (Z 16) (Z 0) (Q (.lodA 4 (Z 16)) (.ret (Z 0)))))))))))))))))))))))))
theorem Qy6:okF TT Tryz.f13 1 x13=true:=by decide+kernel
def QfF (a0:AV) (σ:AH) (R:AEnd→AH→Prop):Prop:=den TP TT R x13 [a0] [] σ
theorem Qjr (h:QfF a0 σ R):acall TP Qes [a0] σ R:=Qb (ρ:=[a0]) Qg Tryz.func13 rfl x13 Qy6 rfl h
def x14:Sx:= .box (Z 0) (.new [(iv 0),nilS] (.frz 2 (Z 1) (Q (.lodA 4 (Z 0)) (.call 34 [(Z 0)] (D .neq (Z 0) (Y 0) (P 0 (Q (.bld [(iv 0),nilS] [(0,1),(1,1)] [(0,(Z 1))]) (.sto 2 (Z 5) (Z 0) (Q (.lodA 2 (Z 5)) (.ret (Z 0))))) (Q (.lodA 4 (Z 3)) (.call 35 [(Z 8),(Z 0)] (Q (.aext (Z 0) 0) (Q (.aext (Z 1) 1) (Q (.bld [(iv 0),nilS] [(0,1),(1,1)] [(0,(Z 0)),(1,(Z 1))]) (.sto 2 (Z 9) (Z 0) (Q (.lodA 2 (Z 9)) (.ret (Z 0)))))))))))))))
theorem Qy7:okF TT Tryz.f14 2 x14=true:=by decide+kernel
def QfG (a0 a1:AV) (σ:AH) (R:AEnd→AH→Prop):Prop:=den TP TT R x14 [a1,a0] [] σ
theorem Qjs (h:QfG a0 a1 σ R):acall TP QbB [a0,a1] σ R:=Qb (ρ:=[a1,a0]) Qg Tryz.func14 rfl x14 Qy7 rfl h
def x15:Sx:= .box (Z 1) (.box (Z 1) (.frz 2 (Z 1) (.frz 3 (Z 1) (Q (F 0 1) (M 0 (Q (F 0 2) (M 0 (D .neq (Z 2) (Z 0) (P 0 (.ret (.lit (.val (.bool false)))) (Q (F 1 6) (M 0 (Q (F 1 7) (M 0 (.call 11 [(Z 2),(Z 0)] (Q (.aun .not (Z 0)) (P 0 (.ret (.lit (.val (.bool false)))) (.ret (.lit (.val (.bool true))))))))))))))))))))
theorem Qy8:okF TT Tryz.f15 2 x15=true:=by decide+kernel
def Qcz (a0 a1:AV) (σ:AH) (R:AEnd→AH→Prop):Prop:=den TP TT R x15 [a1,a0] [] σ
theorem Qgl (h:Qcz a0 a1 σ R):acall TP Um [a0,a1] σ R:=Qb (ρ:=[a1,a0]) Qg Tryz.func15 rfl x15 Qy8 rfl h
def x16:Sx:= .box (Z 1) (.frz 2 (Z 0) (Q (F 1 0) (M 0 (.call 36 [(Z 0),(Z 4)] (.ret (Z 0))))))
theorem Qy9:okF TT Tryz.f16 2 x16=true:=by decide+kernel
def QbT (a0 a1:AV) (σ:AH) (R:AEnd→AH→Prop):Prop:=den TP TT R x16 [a1,a0] [] σ
theorem QeN (h:QbT a0 a1 σ R):acall TP Qbf [a0,a1] σ R:=Qb (ρ:=[a1,a0]) Qg Tryz.func16 rfl x16 Qy9 rfl h
def x17:Sx:= .box (Z 1) (.frz 2 (Z 0) (Q (F 1 0) (M 0 (.call 37 [(Z 0),(Z 4)] (D .lss (Z 0) (Y 0) (P 0 (.ret (Y (-1))) (.ret (Z 1))))))))
theorem Qza:okF TT Tryz.f17 2 x17=true:=by decide+kernel
def QbU (a0 a1:AV) (σ:AH) (R:AEnd→AH→Prop):Prop:=den TP TT R x17 [a1,a0] [] σ
theorem QeO (h:QbU a0 a1 σ R):acall TP UR [a0,a1] σ R:=Qb (ρ:=[a1,a0]) Qg Tryz.func17 rfl x17 Qza rfl h
def x22:Sx:=D .lss (Z 0) (Y 0) (P 0 (Q (.aun .neg (Z 1)) (.call 22 [(Z 0)] (Q (.sbin .add (.lit (.val (.string ⟨#[45]⟩))) (Z 0)) (.ret (Z 0))))) (D .lss (Z 1) (Y 10) (P 0 (D .add (Y 48) (Z 2) (Q (.conv .u8 (Z 0)) (.bsl 1 [(.val (.int .u8 0))] 1 [(0,(Z 0))] (.cnv 59 9 (Z 0) (.ret (Z 0)))))) (.ord [0,1,3,4,5,6,7,8,2,9,10] [0,1,3,0,8,24,56,120,248,511,1023] (D .quo (Z 2) (Y 10) (D .rem (Z 3) (Y 10) (D .add (Y 48) (Z 0) (Q (.conv .u8 (Z 0)) (Q (.bslR 1 [(.val (.int .u8 0))] 1 [(0,(Z 0))]) (Q (.b2s (Z 0)) (.call 22 [(Z 5)] (.wat [] (Q (.sbin .add (Z 0) (Z 1)) (.ret (Z 0)))))))))))))))
theorem Qzb:okF TT Tryz.f22 1 x22=true:=by decide+kernel
def Qau (a0:AV) (σ:AH) (R:AEnd→AH→Prop):Prop:=den TP TT R x22 [a0] [] σ
theorem QaI (h:Qau a0 σ R):acall TP Ux [a0] σ R:=Qb (ρ:=[a0]) Qg Tryz.func22 rfl x22 Qzb rfl h
def x31:Sx:= .box (Z 1) (.box (Z 1) (.frz 2 (Z 1) (.frz 3 (Z 1) (Q (F 0 1) (M 0 (Q (F 0 2) (M 0 (D .neq (Z 2) (Z 0) (P 0 (.ret (.lit (.val (.bool false)))) (Q (F 1 6) (M 0 (Q (F 1 7) (M 0 (.call 54 [(Z 2),(Z 0)] (Q (.aun .not (Z 0)) (P 0 (.ret (.lit (.val (.bool false)))) (.ret (.lit (.val (.bool true))))))))))))))))))))
theorem Qzc:okF TT Tryz.f31 2 x31=true:=by decide+kernel
def Qg2 (a0 a1:AV) (σ:AH) (R:AEnd→AH→Prop):Prop:=den TP TT R x31 [a1,a0] [] σ
theorem QkI (h:Qg2 a0 a1 σ R):acall TP Qcg [a0,a1] σ R:=Qb (ρ:=[a1,a0]) Qg Tryz.func31 rfl x31 Qzc rfl h
def x32:Sx:= .jn 13 [16] (P 0 (.ret (Y 3)) (.ret (Y 0))) (Q (A 0) (Q (F 0 0) (M 0 (.call 55 [(Z 0)] (Q (.aun .not (Z 0)) (G 0 (.ret (Z 5)) (G 1 (A 0) (G 2 (F 1 0) (G 3 (L 0) (.gpick (Z 4) (.jump 0 [(.lit (.val (.bool true)))]) (.call 56 [(Z 0)] (Q (.aun .not (Z 0)) (.jump 0 [(Z 0)]))) (.no)))))))))))
theorem Qzd:okF TT Tryz.f32 1 x32=true:=by decide+kernel
def QfH (a0:AV) (σ:AH) (R:AEnd→AH→Prop):Prop:=den TP TT R x32 [a0] [] σ
theorem Qjt (h:QfH a0 σ R):acall TP Qet [a0] σ R:=Qb (ρ:=[a0]) Qg Tryz.func32 rfl x32 Qzd rfl h
def x33:Sx:= .call 57 [(Z 1)] (Q (.aext (Z 0) 0) (Q (.aext (Z 1) 1) (D .neq (Z 0) (Y 0) (P 0 (.rets [(.lit nilS),(Z 1)]) (.jn 31 [1,6] (Q (A 0) (Q (F 1 0) (M 0 (.call 59 [(Z 4),(Z 0)] (.rets [(Z 0),(Y 0)]))))) (Q (A 4) (Q (F 2 0) (M 0 (P 0 (.call 58 [(Z 5)] (.jump 0 [(Z 8),(Z 0)])) (.jump 0 [(Z 7),(Z 5)]))))))))))
theorem Qze:okF TT Tryz.f33 2 x33=true:=by decide+kernel
def Qg3 (a0 a1:AV) (σ:AH) (R:AEnd→AH→Prop):Prop:=den TP TT R x33 [a1,a0] [] σ
theorem QkJ (h:Qg3 a0 a1 σ R):acall TP Qfp [a0,a1] σ R:=Qb (ρ:=[a1,a0]) Qg Tryz.func33 rfl x33 Qze rfl h
def x34:Sx:= .box (Z 0) (.jn 13 [12] (P 0 (.ret (Y 3)) (.ret (Y 0))) (.frz 1 (Z 0) (Q (F 0 0) (M 0 (.call 60 [(Z 0)] (Q (.aun .not (Z 0)) (G 0 (F 1 4) (G 1 (L 0) (.gpick (Z 2) (.jump 0 [(.lit (.val (.bool true)))]) (.call 61 [(Z 0)] (D .neq (Z 0) (Y 0) (.jump 0 [(Z 0)]))) (.no))))))))))
theorem Qzf:okF TT Tryz.f34 1 x34=true:=by decide+kernel
def Qde (a0:AV) (σ:AH) (R:AEnd→AH→Prop):Prop:=den TP TT R x34 [a0] [] σ
theorem Qg4 (h:Qde a0 σ R):acall TP Qcy [a0] σ R:=Qb (ρ:=[a0]) Qg Tryz.func34 rfl x34 Qzf rfl h
def x35:Sx:= .box (Z 0) (.frz 2 (Z 0) (.call 62 [(Z 3)] (Q (.aext (Z 0) 0) (Q (.aext (Z 1) 1) (D .neq (Z 0) (Y 0) (P 0 (.rets [(.lit nilS),(Z 1)]) (.jn 31 [3,6] (Q (F 1 0) (M 0 (.call 64 [(Z 3),(Z 0)] (.rets [(Z 0),(Y 0)])))) (Q (F 2 4) (M 0 (P 0 (.call 63 [(Z 4)] (.jump 0 [(Z 7),(Z 0)])) (.jump 0 [(Z 6),(Z 4)])))))))))))
theorem Qzg:okF TT Tryz.f35 2 x35=true:=by decide+kernel
def QfI (a0 a1:AV) (σ:AH) (R:AEnd→AH→Prop):Prop:=den TP TT R x35 [a1,a0] [] σ
theorem Qju (h:QfI a0 a1 σ R):acall TP Qeu [a0,a1] σ R:=Qb (ρ:=[a1,a0]) Qg Tryz.func35 rfl x35 Qzg rfl h
def x36:Sx:= .lp [0,1,5] (O 0 (D .lss (Z 3) (Z 0) (P 0 (J 2 2 4 (Q (F 0 0) (.sto 1 (Z 0) (Z 5) (D .add (Z 5) (Y 1) (J 2 5 7 (Q (F 1 0) (M 0 (.call 65 [(Z 0),(Z 3)] (D .add (Z 11) (Y 1) (.jump 0 [(Z 10),(Z 1),(Z 0)])))))))))) (.ret (Z 3))))) [(Z 1),(Z 0),(Y 0)]
theorem Qzh:okF TT Tryz.f36 2 x36=true:=by decide+kernel
def QdG (a0 a1:AV) (σ:AH) (R:AEnd→AH→Prop):Prop:=den TP TT R x36 [a1,a0] [] σ
theorem QhP (h:QdG a0 a1 σ R):acall TP Qc6 [a0,a1] σ R:=Qb (ρ:=[a1,a0]) Qg Tryz.func36 rfl x36 Qzh rfl h
def x37:Sx:= .lp [0,1,5] (O 0 (D .lss (Z 3) (Z 0) (P 0 (J 2 2 4 (Q (F 0 0) (M 0 (D .neq (Z 0) (Z 6) (P 0 (.ret (Y (-1))) (D .add (Z 7) (Y 1) (J 2 7 9 (Q (F 1 0) (M 0 (.call 66 [(Z 0),(Z 3)] (D .lss (Z 0) (Y 0) (P 0 (.ret (Y (-1))) (D .add (Z 14) (Y 1) (.jump 0 [(Z 13),(Z 2),(Z 0)])))))))))))))) (.ret (Z 3))))) [(Z 1),(Z 0),(Y 0)]
theorem Qzi:okF TT Tryz.f37 2 x37=true:=by decide+kernel
def QdH (a0 a1:AV) (σ:AH) (R:AEnd→AH→Prop):Prop:=den TP TT R x37 [a1,a0] [] σ
theorem QhQ (h:QdH a0 a1 σ R):acall TP Qc7 [a0,a1] σ R:=Qb (ρ:=[a1,a0]) Qg Tryz.func37 rfl x37 Qzi rfl h
def x54:Sx:=O 1 (O 1 (D .neq (Z 1) (Z 0) (P 0 (.ret (.lit (.val (.bool false)))) (.lp [0,1,5] (O 0 (D .lss (Z 3) (Z 0) (P 0 (.ord [0,1,2,3,4,5,6,7,8,9] [0,0,3,7,0,0,48,112,255,511] (J 7 2 4 (Q (.lodA 7 (Z 0)) (J 7 5 6 (Q (.lodA 7 (Z 0)) (.call 79 [(Z 2),(Z 0)] (.wat [] (Q (.aun .not (Z 0)) (P 0 (.ret (.lit (.val (.bool false)))) (D .add (Z 10) (Y 1) (.jump 0 [(Z 9),(Z 10),(Z 0)]))))))))))) (.ret (.lit (.val (.bool true))))))) [(Z 4),(Z 3),(Y 0)]))))
theorem Qzj:okF TT Tryz.f54 2 x54=true:=by decide+kernel
def Qjv (a0 a1:AV) (σ:AH) (R:AEnd→AH→Prop):Prop:=den TP TT R x54 [a1,a0] [] σ
theorem QmX (h:Qjv a0 a1 σ R):acall TP Qim [a0,a1] σ R:=Qb (ρ:=[a1,a0]) Qg Tryz.func54 rfl x54 Qzj rfl h
def x55:Sx:= .call 68 [(Z 0),(Y 1),(Y 64)] (.ret (Z 0))
theorem Qzk:okF TT Tryz.f55 1 x55=true:=by decide+kernel
def Qg5 (a0:AV) (σ:AH) (R:AEnd→AH→Prop):Prop:=den TP TT R x55 [a0] [] σ
theorem QkK (h:Qg5 a0 σ R):acall TP QmV [a0] σ R:=Qb (ρ:=[a0]) Qg Tryz.func55 rfl x55 Qzk rfl h
def x56:Sx:= .call 68 [(Z 0),(Y 0),(Y 15)] (.ret (Z 0))
theorem Qzl:okF TT Tryz.f56 1 x56=true:=by decide+kernel
def QfJ (a0:AV) (σ:AH) (R:AEnd→AH→Prop):Prop:=den TP TT R x56 [a0] [] σ
theorem Qjw (h:QfJ a0 σ R):acall TP QlP [a0] σ R:=Qb (ρ:=[a0]) Qg Tryz.func56 rfl x56 Qzl rfl h
def x57:Sx:= .call 80 [(Z 0)] (Q (.aext (Z 0) 0) (Q (.aext (Z 1) 1) (D .neq (Z 0) (Y 0) (P 0 (.rets [(.lit nilS),(Z 1)]) (.call 81 [(Z 2)] (Q (.aext (Z 0) 0) (Q (.aext (Z 1) 1) (Q (.aun .not (Z 0)) (P 0 (.rets [(.lit nilS),(Y 2)]) (.rets [(Z 2),(Y 0)]))))))))))
theorem Qzm:okF TT Tryz.f57 1 x57=true:=by decide+kernel
def QfK (a0:AV) (σ:AH) (R:AEnd→AH→Prop):Prop:=den TP TT R x57 [a0] [] σ
theorem Qjx (h:QfK a0 σ R):acall TP Qev [a0] σ R:=Qb (ρ:=[a0]) Qg Tryz.func57 rfl x57 Qzm rfl h
def x58:Sx:= .call 82 [(Z 0)] (.lp [3,4] (O 0 (D .lss (Z 2) (Z 0) (P 0 (J 2 2 3 (.call 83 [(Z 0)] (D .add (Z 5) (Y 1) (.jump 0 [(Z 5),(Z 0)])))) (.ret (Z 2))))) [(Z 0),(Y 0)])
theorem Qzn:okF TT Tryz.f58 1 x58=true:=by decide+kernel
def QdI (a0:AV) (σ:AH) (R:AEnd→AH→Prop):Prop:=den TP TT R x58 [a0] [] σ
theorem QhR (h:QdI a0 σ R):acall TP QaA [a0] σ R:=Qb (ρ:=[a0]) Qg Tryz.func58 rfl x58 Qzn rfl h
def x59:Sx:= .call 82 [(Z 1)] (.lp [1,5,6] (O 1 (D .lss (Z 3) (Z 0) (P 0 (J 2 3 4 (.call 84 [(Z 0),(Z 3)] (J 2 5 6 (Q (F 1 0) (.sto 1 (Z 0) (Z 2) (D .add (Z 8) (Y 1) (.jump 0 [(Z 7),(Z 8),(Z 0)]))))))) (.ret (Z 3))))) [(Z 1),(Z 0),(Y 0)])
theorem Qzo:okF TT Tryz.f59 2 x59=true:=by decide+kernel
def QdJ (a0 a1:AV) (σ:AH) (R:AEnd→AH→Prop):Prop:=den TP TT R x59 [a1,a0] [] σ
theorem QhS (h:QdJ a0 a1 σ R):acall TP QaB [a0,a1] σ R:=Qb (ρ:=[a1,a0]) Qg Tryz.func59 rfl x59 Qzo rfl h
def x60:Sx:= .call 72 [(Z 0),(Y 1),(Y 64)] (.ret (Z 0))
theorem Qzp:okF TT Tryz.f60 1 x60=true:=by decide+kernel
def Qiw (a0:AV) (σ:AH) (R:AEnd→AH→Prop):Prop:=den TP TT R x60 [a0] [] σ
theorem QlR (h:Qiw a0 σ R):acall TP Qn8 [a0] σ R:=Qb (ρ:=[a0]) Qg Tryz.func60 rfl x60 Qzp rfl h
def x61:Sx:= .call 72 [(Z 0),(Y 0),(Y 15)] (Q (.aun .not (Z 0)) (P 0 (.ret (Y 3)) (.ret (Y 0))))
theorem Qzq:okF TT Tryz.f61 1 x61=true:=by decide+kernel
def QdK (a0:AV) (σ:AH) (R:AEnd→AH→Prop):Prop:=den TP TT R x61 [a0] [] σ
theorem QhT (h:QdK a0 σ R):acall TP Qc8 [a0] σ R:=Qb (ρ:=[a0]) Qg Tryz.func61 rfl x61 Qzq rfl h
def x62:Sx:= .call 85 [(Z 0)] (Q (.aext (Z 0) 0) (Q (.aext (Z 1) 1) (D .neq (Z 0) (Y 0) (P 0 (.rets [(.lit nilS),(Z 1)]) (.call 86 [(Z 2)] (Q (.aext (Z 0) 0) (Q (.aext (Z 1) 1) (.rets [(Z 1),(Z 0)]))))))))
theorem Qzr:okF TT Tryz.f62 1 x62=true:=by decide+kernel
def QeP (a0:AV) (σ:AH) (R:AEnd→AH→Prop):Prop:=den TP TT R x62 [a0] [] σ
theorem Qi0 (h:QeP a0 σ R):acall TP Qdz [a0] σ R:=Qb (ρ:=[a0]) Qg Tryz.func62 rfl x62 Qzr rfl h
def x63:Sx:= .call 87 [(Z 0)] (O 1 (.lp [3,14,15,16] (D .lss (Z 3) (Z 2) (P 0 (J 2 2 4 (Q (.lodA 2 (Z 0)) (.new [(iv 0),nilS] (.sto 2 (Z 0) (Z 1) (.frz 7 (Z 0) (J 2 5 8 (Q (F 1 0) (M 0 (Q (F 1 3) (M 0 (O 0 (.lp [3,5,6,14,15,16,27,28,29] (D .lss (Z 8) (Z 7) (P 0 (.jn 956839 [3,5,6,14,15,16,27,28,29] (D .add (Z 8) (Y 1) (.jump 0 [(Z 1),(Z 2),(Z 3),(Z 4),(Z 5),(Z 6),(Z 7),(Z 8),(Z 0)])) (J 7 7 9 (Q (.lodA 7 (Z 0)) (.new [(iv 0),(iv 0),(iv 0),(iv 0),(iv 0),(str ⟨#[]⟩),nilS] (.sto 7 (Z 0) (Z 1) (.frz 12 (Z 0) (Q (F 0 0) (M 0 (D .neq (Z 0) (Y 5) (H 0 (F 0 3) (H 1 (L 0) (H 2 (B .neq (Z 0) (Y 6)) (Q (.pickV (Z 3) (Z 0) (.lit (.val (.bool false)))) (P 0 (.jump 0 [(Z 12),(Z 13),(Z 14),(Z 15),(Z 16),(Z 17),(Z 18),(Z 19),(Z 20)]) (Q (F 1 7) (M 0 (.jn 30618831 [3,5,6,7,9,14,15,16,27,28,29] (J 7 2 3 (Q (F 1 0) (.sto 1 (Z 0) (Z 6) (.jump 0 [(Z 2),(Z 3),(Z 4),(Z 7),(Z 8),(Z 9),(Z 10),(Z 11),(Z 12)])))) (Q (F 1 15) (M 0 (O 0 (.lp [3,5,6,7,9,14,15,16,27,28,29,46,47] (D .lss (Z 12) (Z 11) (P 0 (Q (F 1 2) (M 0 (J 7 0 7 (Q (F 0 0) (M 0 (D .neq (Z 0) (Y 5) (P 0 (.jump 1 [(Z 7),(Z 8),(Z 9),(Z 10),(Z 11),(Z 12),(Z 13),(Z 14),(Z 15),(Z 16),(Z 17)]) (Q (F 1 8) (M 0 (J 7 0 13 (Q (F 1 0) (M 0 (D .add (Z 24) (Y 1) (.jump 0 [(Z 13),(Z 14),(Z 15),(Z 16),(Z 1),(Z 18),(Z 19),(Z 20),(Z 21),(Z 22),(Z 23),(Z 24),(Z 0)])))))))))))))) (.jump 1 [(Z 1),(Z 2),(Z 3),(Z 4),(Z 5),(Z 6),(Z 7),(Z 8),(Z 9),(Z 10),(Z 11)]))) [(Z 17),(Z 18),(Z 19),(Z 25),(Z 3),(Z 20),(Z 21),(Z 22),(Z 23),(Z 24),(Z 25),(Z 0),(Y 0)]))))))))))))))))))))) (O 3 (.lp [3,5,6,14,15,16,69,70,71] (D .lss (Z 8) (Z 7) (P 0 (.jn 956903 [3,5,6,14,15,16,69,70,71] (D .add (Z 8) (Y 1) (.jump 0 [(Z 1),(Z 2),(Z 3),(Z 4),(Z 5),(Z 6),(Z 7),(Z 8),(Z 0)])) (J 7 7 9 (Q (.lodA 7 (Z 0)) (.new [(iv 0),(iv 0),(iv 0),(iv 0),(iv 0),(str ⟨#[]⟩),nilS] (.sto 7 (Z 0) (Z 1) (.frz 12 (Z 0) (Q (F 0 0) (M 0 (D .eql (Z 0) (Y 5) (H 0 (F 1 9) (H 1 (L 0) (H 2 (F 1 5) (H 3 (L 0) (H 4 (I 7 2 0) (H 5 (F 0 0) (H 6 (L 0) (H 7 (B .eql (Z 0) (Y 12)) (Q (.pickV (Z 8) (Z 0) (.lit (.val (.bool false)))) (P 0 (Q (.bld [(iv 0),(iv 0),(iv 0),(iv 0),(iv 0),(str ⟨#[]⟩),nilS] [(0,1),(1,1),(2,1),(3,1),(4,1),(5,1),(6,1)] [(0,(Y 12))]) (J 7 20 26 (.sto 7 (Z 0) (Z 1) (.jump 0 [(Z 19),(Z 20),(Z 21),(Z 22),(Z 23),(Z 24),(Z 25),(Z 26),(Z 27)])))) (.jump 0 [(Z 17),(Z 18),(Z 19),(Z 20),(Z 21),(Z 22),(Z 23),(Z 24),(Z 25)])))))))))))))))))))) (D .add (Z 6) (Y 1) (.jump 2 [(Z 2),(Z 5),(Z 6),(Z 0)])))) [(Z 2),(Z 3),(Z 4),(Z 5),(Z 6),(Z 7),(Z 4),(Z 0),(Y 0)])))) [(Z 11),(Z 6),(Z 3),(Z 12),(Z 13),(Z 14),(Z 1),(Z 0),(Y 0)])))))))))))) (.ret (Z 1)))) [(Z 1),(Z 2),(Z 0),(Y 0)]))
theorem Qzs:okF TT Tryz.f63 1 x63=true:=by decide+kernel
def Qix (a0:AV) (σ:AH) (R:AEnd→AH→Prop):Prop:=den TP TT R x63 [a0] [] σ
theorem QlS (h:Qix a0 σ R):acall TP QgK [a0] σ R:=Qb (ρ:=[a0]) Qg Tryz.func63 rfl x63 Qzs rfl h
def x64:Sx:= .call 87 [(Z 1)] (O 0 (.lp [1,5,17,18,19] (D .lss (Z 4) (Z 3) (P 0 (J 2 3 5 (Q (.lodA 2 (Z 0)) (.new [(iv 0),nilS] (.sto 2 (Z 0) (Z 1) (.jn 7475 [1,5,6,7,8,9,10,17,18,19] (.lp [1,5,6,7,8,9,10,11,17,18,19] (Q (F 1 3) (M 0 (O 0 (D .lss (Z 10) (Z 0) (P 0 (Q (F 1 7) (M 0 (J 7 0 13 (Q (.lodA 7 (Z 0)) (.new [(iv 0),(iv 0),(iv 0),(iv 0),(iv 0),(str ⟨#[]⟩),nilS] (.sto 7 (Z 0) (Z 1) (O 14 (J 1 16 17 (.sto 1 (Z 0) (Z 1) (.jn 7654695 [1,5,6,7,8,9,10,11,12,17,18,19] (.frz 3 (Z 8) (Q (.lodA 7 (Z 0)) (.bsl 7 [(iv 0),(iv 0),(iv 0),(iv 0),(iv 0),(str ⟨#[]⟩),nilS] 1 [(0,(Z 0))] (.app 7 (Z 8) (Z 0) (D .add (Z 11) (Y 1) (.jump 0 [(Z 5),(Z 6),(Z 7),(Z 8),(Z 9),(Z 1),(Z 11),(Z 0),(Z 14),(Z 15),(Z 16)])))))) (.jn 15309389 [1,5,6,7,8,9,10,11,12,17,18,19,60] (P 12 (.ord [0,1,2,3,4,5,6,7,8,9,10,11,12,13,14] [0,0,2,0,8,30,62,0,255,511,1023,1023,0,6143,16383] (Q (.lodA 7 (Z 8)) (Q (F 1 4) (M 0 (D .add (Z 10) (Y 1) (J 7 1 0 (Q (.lodA 7 (Z 0)) (.call 90 [(Z 5),(Z 0),(Z 6)] (.wat [] (Q (.aext (Z 0) 0) (Q (.aext (Z 1) 1) (.new [(iv 0),(iv 0),(iv 0),(iv 0),(iv 0),(str ⟨#[]⟩),nilS] (.wat [] (.sto 7 (Z 0) (Z 2) (.wat [] (.frz 22 (Z 0) (P 2 (Q (.lodA 7 (Z 0)) (.sto 7 (Z 20) (Z 0) (.frz 4 (Z 20) (D .add (Z 20) (Y 1) (.jump 0 [(Z 14),(Z 15),(Z 16),(Z 17),(Z 18),(Z 19),(Z 20),(Z 0),(Z 1),(Z 23),(Z 24),(Z 25)]))))) (.jump 0 [(Z 11),(Z 12),(Z 13),(Z 14),(Z 15),(Z 16),(Z 17),(Z 18),(Z 19),(Z 20),(Z 21),(Z 22)])))))))))))))))))) (.jump 0 [(Z 0),(Z 1),(Z 2),(Z 3),(Z 4),(Z 5),(Z 6),(Z 7),(Z 8),(Z 9),(Z 10),(Z 11)])) (D .add (Z 18) (Y 1) (Q (F 1 15) (M 0 (O 0 (D .lss (Z 3) (Z 0) (H 0 (.ret (Z 20)) (H 1 (.ret (Z 24)) (H 2 (B .add (Z 0) (Y 1)) (.gpick (Z 3) (.call 89 [(Z 2),(Z 0)] (Q (.aun .not (Z 0)) (.jump 0 [(Z 21),(Z 22),(Z 23),(Z 24),(Z 25),(Z 26),(Z 27),(Z 28),(Z 12),(Z 29),(Z 30),(Z 31),(Z 0)]))) (.jump 0 [(Z 19),(Z 20),(Z 21),(Z 22),(Z 23),(Z 24),(Z 25),(Z 26),(Z 10),(Z 27),(Z 28),(Z 29),(.lit (.val (.bool false)))]) (.no))))))))))))))))))))) (.call 91 [(Z 9),(Z 10)] (J 2 6 7 (Q (F 1 0) (.sto 1 (Z 0) (Z 12) (D .add (Z 17) (Y 1) (.jump 1 [(Z 8),(Z 9),(Z 16),(Z 17),(Z 0)]))))))))))) [(Z 0),(Z 1),(Z 2),(Z 3),(Z 4),(Z 5),(Z 6),(Y 0),(Z 7),(Z 8),(Z 9)]) (.frz 8 (Z 0) (.both [0,2,3,4,5] 1 [7,8,6,9] 6 [1,7,8,9] [0,1,0,0,8,24,56,3,135,511] (Q (.lodA 2 (Z 0)) (Q (.bslR 7 [(iv 0),(iv 0),(iv 0),(iv 0),(iv 0),(str ⟨#[]⟩),nilS] 0 []) (Q (F 1 2) (M 0 (O 0 (.call 88 [(Z 4)] (.wat [⟨none,(.lod (Z 3)),(Z 2)⟩] (.mks 82 (Z 1) (Z 1) (.wat [⟨none,(.lodA 2 (Z 7)),(Z 6)⟩] (.jump 0 [(Z 12),(Z 13),(Z 16),(Z 7),(Z 1),(Z 5),(Z 0),(Z 14),(Z 15),(Z 16)])))))))))) (Q (.lodA 2 (Z 0)) (Q (.bslR 7 [(iv 0),(iv 0),(iv 0),(iv 0),(iv 0),(str ⟨#[]⟩),nilS] 0 []) (Q (F 1 2) (M 0 (O 0 (.mks 82 (Z 0) (Z 0) (.wat [⟨none,(.lodA 2 (Z 6)),(Z 5)⟩] (.call 88 [(Z 5)] (.wat [⟨none,(.lod (Z 4)),(Z 3)⟩] (.jump 0 [(Z 12),(Z 13),(Z 16),(Z 7),(Z 0),(Z 5),(Z 1),(Z 14),(Z 15),(Z 16)]))))))))))))))))) (.ret (Z 2)))) [(Z 2),(Z 1),(Z 1),(Z 0),(Y 0)]))
theorem Qzt:okF TT Tryz.f64 2 x64=true:=by decide+kernel
def Qjy (a0 a1:AV) (σ:AH) (R:AEnd→AH→Prop):Prop:=den TP TT R x64 [a1,a0] [] σ
theorem QmY (h:Qjy a0 a1 σ R):acall TP Qin [a0,a1] σ R:=Qb (ρ:=[a1,a0]) Qg Tryz.func64 rfl x64 Qzt rfl h
def x65:Sx:= .lp [0,1,5] (O 0 (D .lss (Z 3) (Z 0) (P 0 (J 7 2 4 (Q (F 0 0) (.sto 1 (Z 0) (Z 5) (D .add (Z 5) (Y 1) (J 7 5 7 (Q (F 1 0) (.sto 1 (Z 0) (Z 2) (D .add (Z 2) (Y 1) (J 7 8 10 (Q (F 2 0) (.sto 1 (Z 0) (Z 2) (D .add (Z 2) (Y 1) (J 7 11 13 (Q (F 3 0) (.sto 1 (Z 0) (Z 2) (D .add (Z 2) (Y 1) (J 7 14 16 (Q (F 4 0) (.sto 1 (Z 0) (Z 2) (D .add (Z 2) (Y 1) (.call 92 [(Z 0)] (J 7 18 20 (Q (F 5 0) (.sto 1 (Z 0) (Z 2) (D .add (Z 3) (Y 1) (J 7 21 23 (Q (F 6 0) (M 0 (.call 93 [(Z 0),(Z 3)] (D .add (Z 27) (Y 1) (.jump 0 [(Z 26),(Z 1),(Z 0)]))))))))))))))))))))))))))))))) (.ret (Z 3))))) [(Z 1),(Z 0),(Y 0)]
theorem Qzu:okF TT Tryz.f65 2 x65=true:=by decide+kernel
def Qg6 (a0 a1:AV) (σ:AH) (R:AEnd→AH→Prop):Prop:=den TP TT R x65 [a1,a0] [] σ
theorem QkL (h:Qg6 a0 a1 σ R):acall TP Qfq [a0,a1] σ R:=Qb (ρ:=[a1,a0]) Qg Tryz.func65 rfl x65 Qzu rfl h
def x66:Sx:= .lp [0,1,5] (O 0 (D .lss (Z 3) (Z 0) (P 0 (J 7 2 4 (Q (F 0 0) (M 0 (D .neq (Z 0) (Z 6) (P 0 (.ret (Y (-1))) (D .add (Z 7) (Y 1) (J 7 7 9 (Q (F 1 0) (M 0 (D .neq (Z 0) (Z 3) (P 0 (.ret (Y (-1))) (D .add (Z 4) (Y 1) (J 7 12 14 (Q (F 2 0) (M 0 (D .neq (Z 0) (Z 3) (P 0 (.ret (Y (-1))) (D .add (Z 4) (Y 1) (J 7 17 19 (Q (F 3 0) (M 0 (D .neq (Z 0) (Z 3) (P 0 (.ret (Y (-1))) (D .add (Z 4) (Y 1) (J 7 22 24 (Q (F 4 0) (M 0 (D .neq (Z 0) (Z 3) (P 0 (.ret (Y (-1))) (D .add (Z 4) (Y 1) (.ord [0,1,2,3,4,5,6,7] [0,0,3,7,15,0,32,127] (J 7 27 29 (Q (F 5 0) (M 0 (.call 92 [(Z 3)] (.wat [⟨none,(.lod (Z 2)),(Z 1)⟩,⟨none,(.idx 7 (Z 31) (Z 33)),(Z 3)⟩] (Q (.sbin .neq (Z 1) (Z 0)) (P 0 (.ret (Y (-1))) (D .add (Z 5) (Y 1) (J 7 33 35 (Q (F 6 0) (M 0 (.call 94 [(Z 0),(Z 3)] (D .lss (Z 0) (Y 0) (P 0 (.ret (Y (-1))) (D .add (Z 40) (Y 1) (.jump 0 [(Z 39),(Z 2),(Z 0)]))))))))))))))))))))))))))))))))))))))))))))))) (.ret (Z 3))))) [(Z 1),(Z 0),(Y 0)]
theorem Qzv:okF TT Tryz.f66 2 x66=true:=by decide+kernel
def Qg7 (a0 a1:AV) (σ:AH) (R:AEnd→AH→Prop):Prop:=den TP TT R x66 [a1,a0] [] σ
theorem QkM (h:Qg7 a0 a1 σ R):acall TP Qfr [a0,a1] σ R:=Qb (ρ:=[a1,a0]) Qg Tryz.func66 rfl x66 Qzv rfl h
def x68:Sx:=D .geq (Z 2) (Z 1) (H 0 (.ret (Z 3)) (H 1 (.ret (Z 2)) (H 2 (B .leq (Z 1) (Z 0)) (Q (.pickV (Z 3) (Z 0) (.lit (.val (.bool false)))) (.ret (Z 0))))))
theorem Qzw:okF TT Tryz.f68 3 x68=true:=by decide+kernel
def Qlo (a0 a1 a2:AV) (σ:AH) (R:AEnd→AH→Prop):Prop:=den TP TT R x68 [a2,a1,a0] [] σ
theorem Qoa (h:Qlo a0 a1 a2 σ R):acall TP Qew [a0,a1,a2] σ R:=Qb (ρ:=[a2,a1,a0]) Qg Tryz.func68 rfl x68 Qzw rfl h
def x70:Sx:= .bsl 1 [(iv 0)] 0 [] (.lp [0,1,5,6] (O 0 (D .lss (Z 4) (Z 0) (P 0 (.jn 467 [0,1,5,6] (D .add (Z 3) (Y 1) (.jump 0 [(Z 1),(Z 2),(Z 3),(Z 0)])) (J 4 2 5 (Q (F 1 0) (M 0 (D .eql (Z 0) (Z 6) (P 0 (.bsl 1 [(iv 0)] 1 [(0,(Z 9))] (.app 1 (Z 9) (Z 0) (.jump 0 [(Z 8),(Z 9),(Z 0),(Z 11)]))) (.jump 0 [(Z 6),(Z 7),(Z 8),(Z 9)]))))))) (.ret (Z 4))))) [(Z 2),(Z 1),(Z 0),(Y 0)])
theorem Qzx:okF TT Tryz.f70 2 x70=true:=by decide+kernel
def Qg8 (a0 a1:AV) (σ:AH) (R:AEnd→AH→Prop):Prop:=den TP TT R x70 [a1,a0] [] σ
theorem QkN (h:Qg8 a0 a1 σ R):acall TP Qfs [a0,a1] σ R:=Qb (ρ:=[a1,a0]) Qg Tryz.func70 rfl x70 Qzx rfl h
def x72:Sx:=D .leq (Z 1) (Z 2) (H 0 (.ret (Z 3)) (H 1 (.ret (Z 2)) (H 2 (B .leq (Z 1) (Z 0)) (Q (.pickV (Z 3) (Z 0) (.lit (.val (.bool false)))) (.ret (Z 0))))))
theorem Qzy:okF TT Tryz.f72 3 x72=true:=by decide+kernel
def QoY (a0 a1 a2:AV) (σ:AH) (R:AEnd→AH→Prop):Prop:=den TP TT R x72 [a2,a1,a0] [] σ
theorem Qqf (h:QoY a0 a1 a2 σ R):acall TP QhN [a0,a1,a2] σ R:=Qb (ρ:=[a2,a1,a0]) Qg Tryz.func72 rfl x72 Qzy rfl h
def x77:Sx:= .bsl 1 [(iv 0)] 0 [] (O 2 (.lp [1,5,9,10,11] (D .lss (Z 4) (Z 3) (P 0 (.jn 935 [1,5,9,10,11] (D .add (Z 4) (Y 1) (.jump 0 [(Z 1),(Z 2),(Z 3),(Z 4),(Z 0)])) (J 4 3 5 (Q (.lodA 4 (Z 0)) (.new [(iv 0),(iv 0),(iv 0),(str ⟨#[]⟩)] (.sto 4 (Z 0) (Z 1) (.frz 8 (Z 0) (Q (F 1 0) (M 0 (D .eql (Z 0) (Z 7) (P 0 (.bsl 1 [(iv 0)] 1 [(0,(Z 12))] (.app 1 (Z 10) (Z 0) (.jump 0 [(Z 10),(Z 0),(Z 12),(Z 13),(Z 14)]))) (.jump 0 [(Z 8),(Z 9),(Z 10),(Z 11),(Z 12)]))))))))))) (.ret (Z 2)))) [(Z 2),(Z 1),(Z 3),(Z 0),(Y 0)]))
theorem Qzz:okF TT Tryz.f77 2 x77=true:=by decide+kernel
def Qjz (a0 a1:AV) (σ:AH) (R:AEnd→AH→Prop):Prop:=den TP TT R x77 [a1,a0] [] σ
theorem QmZ (h:Qjz a0 a1 σ R):acall TP Qio [a0,a1] σ R:=Qb (ρ:=[a1,a0]) Qg Tryz.func77 rfl x77 Qzz rfl h
def x79:Sx:= .box (Z 1) (.box (Z 1) (.frz 2 (Z 1) (.frz 3 (Z 1) (Q (F 0 1) (M 0 (Q (F 0 2) (M 0 (D .neq (Z 2) (Z 0) (P 0 (.ret (.lit (.val (.bool false)))) (Q (F 1 6) (M 0 (Q (F 1 7) (M 0 (D .neq (Z 2) (Z 0) (P 0 (.ret (.lit (.val (.bool false)))) (Q (F 2 11) (M 0 (Q (F 2 12) (M 0 (D .neq (Z 2) (Z 0) (P 0 (.ret (.lit (.val (.bool false)))) (Q (F 3 16) (M 0 (Q (F 3 17) (M 0 (D .neq (Z 2) (Z 0) (P 0 (.ret (.lit (.val (.bool false)))) (Q (F 4 21) (M 0 (Q (F 4 22) (M 0 (D .neq (Z 2) (Z 0) (P 0 (.ret (.lit (.val (.bool false)))) (Q (F 5 26) (M 0 (Q (F 5 27) (M 0 (Q (.sbin .neq (Z 2) (Z 0)) (P 0 (.ret (.lit (.val (.bool false)))) (Q (F 6 31) (M 0 (Q (F 6 32) (M 0 (.call 109 [(Z 2),(Z 0)] (Q (.aun .not (Z 0)) (P 0 (.ret (.lit (.val (.bool false)))) (.ret (.lit (.val (.bool true))))))))))))))))))))))))))))))))))))))))))))))))))
theorem QzA:okF TT Tryz.f79 2 x79=true:=by decide+kernel
def Qlp (a0 a1:AV) (σ:AH) (R:AEnd→AH→Prop):Prop:=den TP TT R x79 [a1,a0] [] σ
theorem Qob (h:Qlp a0 a1 σ R):acall TP Qex [a0,a1] σ R:=Qb (ρ:=[a1,a0]) Qg Tryz.func79 rfl x79 QzA rfl h
end Go.Proofs.YtggnjjalfnhiiaaGreatDoor.E
