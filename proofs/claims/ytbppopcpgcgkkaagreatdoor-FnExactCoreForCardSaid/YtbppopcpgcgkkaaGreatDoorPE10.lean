import Derived.Test.YtbppopcpgcgkkaaGreatDoorPE9
/- What functions come to. Printed by mkg.py. -/
set_option maxRecDepth 1000000
namespace Go.Proofs.YtbppopcpgcgkkaaGreatDoor.E
open Go Go.RowKit X
set_option linter.unusedVariables false
set_option linter.unusedSectionVars false
variable [Lam] {a0 a1 a2 a3 a4 a5 a6:AV} {σ:AH} {R:AEnd→AH→Prop}
def s_laws_FnExactCoreFor (a0:AV) (σ:AH) (R:AEnd→AH→Prop):Prop:=
 og (lenStr a0) fun v6=>
 og (ibin .gtr v6 (iv 1048576)) fun v7=>
 apick v7 (
 aret (.val (.bool true)) σ R) (
 acall TP fn_spec_CoreFor [a0] σ (onr (fun v9 σ=>
 new [(iv 0),(str ⟨#[]⟩)] σ fun v3 σ=>
 sto 2 v3 v9 σ fun σ=>
 frz v3 σ fun f3 σ=>
 acall TP fn_impl_CoreFor [a0] σ (onr (fun v11 σ=>
 new [(iv 0),(str ⟨#[]⟩)] σ fun v4 σ=>
 sto 2 v4 v11 σ fun σ=>
 frz v4 σ fun f4 σ=>
 og (lodA 2 f4 σ) fun v12=>
 og (lodA 2 f3 σ) fun v13=>
 acall TP fn_laws_eqTextResult [v12,v13] σ (onr (fun v14 σ=>
 og (aun .not v14) fun v15=>
 apick v15 (
 aret (.val (.bool false)) σ R) (
 aret (.val (.bool true)) σ R)) (pn R))) (pn R))) (pn R)))
def x3:Sx:=Q (.lenStr (Z 0)) (D .gtr (Z 0) (Y 1048576) (P 0 (.ret (.lit (.val (.bool true)))) (.call 5 [(Z 2)] (.new [(iv 0),(str ⟨#[]⟩)] (.sto 2 (Z 0) (Z 1) (.frz 4 (Z 0) (.call 6 [(Z 5)] (.new [(iv 0),(str ⟨#[]⟩)] (.sto 2 (Z 0) (Z 1) (.frz 7 (Z 0) (Q (.lodA 2 (Z 0)) (Q (.lodA 2 (Z 4)) (.call 7 [(Z 1),(Z 0)] (Q (.aun .not (Z 0)) (P 0 (.ret (.lit (.val (.bool false)))) (.ret (.lit (.val (.bool true)))))))))))))))))))
theorem x3_ok:okF TT Tryz.f3 1 x3=true:=by decide+kernel
theorem s_laws_FnExactCoreFor_ok (h:s_laws_FnExactCoreFor a0 σ R):acall TP fn_laws_FnExactCoreFor [a0] σ R:=
 acall_okF (ρ:=[a0]) TT_ok Tryz.func3 rfl x3 x3_ok rfl h
def s_spec_CoreFor (a0:AV) (σ:AH) (R:AEnd→AH→Prop):Prop:=
 new [(iv 0),(str ⟨#[]⟩)] σ fun v2 σ=>
 acall TP fn_spec_l8Cores [a0] σ (onr (fun v7 σ=>
 og (aext v7 0) fun v8=>
 og (aext v7 1) fun v9=>
 og (ibin .neq v9 (iv 0)) fun v11=>
 apick v11 (
 og (bld [(iv 0),(str ⟨#[]⟩)] [(0,1),(1,1)] [(0,v9)]) fun v13=>
 sto 2 v2 v13 σ fun σ=>
 og (lodA 2 v2 σ) fun r2=>
 aret r2 σ R) (
 acall TP fn_spec_CoreText [v8] σ (onr (fun v15 σ=>
 sto 2 v2 v15 σ fun σ=>
 og (lodA 2 v2 σ) fun r2=>
 aret r2 σ R) (pn R)))) (pn R))
def x5:Sx:= .new [(iv 0),(str ⟨#[]⟩)] (.call 13 [(Z 1)] (Q (.aext (Z 0) 0) (Q (.aext (Z 1) 1) (D .neq (Z 0) (Y 0) (P 0 (Q (.bld [(iv 0),(str ⟨#[]⟩)] [(0,1),(1,1)] [(0,(Z 1))]) (.sto 2 (Z 5) (Z 0) (Q (.lodA 2 (Z 5)) (.ret (Z 0))))) (.call 14 [(Z 2)] (.sto 2 (Z 5) (Z 0) (Q (.lodA 2 (Z 5)) (.ret (Z 0))))))))))
theorem x5_ok:okF TT Tryz.f5 1 x5=true:=by decide+kernel
theorem s_spec_CoreFor_ok (h:s_spec_CoreFor a0 σ R):acall TP fn_spec_CoreFor [a0] σ R:=
 acall_okF (ρ:=[a0]) TT_ok Tryz.func5 rfl x5 x5_ok rfl h
def s_impl_CoreFor (a0:AV) (σ:AH) (R:AEnd→AH→Prop):Prop:=
 new [(iv 0),(str ⟨#[]⟩)] σ fun v2 σ=>
 acall TP fn_impl_readCore [a0] σ (onr (fun v7 σ=>
 og (aext v7 0) fun v8=>
 og (aext v7 1) fun v9=>
 og (ibin .neq v9 (iv 0)) fun v11=>
 apick v11 (
 og (bld [(iv 0),(str ⟨#[]⟩)] [(0,1),(1,1)] [(0,v9)]) fun v13=>
 sto 2 v2 v13 σ fun σ=>
 og (lodA 2 v2 σ) fun r2=>
 aret r2 σ R) (
 acall TP fn_impl_CoreText [v8] σ (onr (fun v15 σ=>
 sto 2 v2 v15 σ fun σ=>
 og (lodA 2 v2 σ) fun r2=>
 aret r2 σ R) (pn R)))) (pn R))
def x6:Sx:= .new [(iv 0),(str ⟨#[]⟩)] (.call 15 [(Z 1)] (Q (.aext (Z 0) 0) (Q (.aext (Z 1) 1) (D .neq (Z 0) (Y 0) (P 0 (Q (.bld [(iv 0),(str ⟨#[]⟩)] [(0,1),(1,1)] [(0,(Z 1))]) (.sto 2 (Z 5) (Z 0) (Q (.lodA 2 (Z 5)) (.ret (Z 0))))) (.call 16 [(Z 2)] (.sto 2 (Z 5) (Z 0) (Q (.lodA 2 (Z 5)) (.ret (Z 0))))))))))
theorem x6_ok:okF TT Tryz.f6 1 x6=true:=by decide+kernel
theorem s_impl_CoreFor_ok (h:s_impl_CoreFor a0 σ R):acall TP fn_impl_CoreFor [a0] σ R:=
 acall_okF (ρ:=[a0]) TT_ok Tryz.func6 rfl x6 x6_ok rfl h
def s_laws_eqTextResult (a0 a1:AV) (σ:AH) (R:AEnd→AH→Prop):Prop:=
 abox a0 σ fun v2 σ=>
 abox a1 σ fun v3 σ=>
 frz v2 σ fun f2 σ=>
 frz v3 σ fun f3 σ=>
 og (fldA 0 f2) fun v5=>
 og (lod v5 σ) fun v6=>
 og (fldA 0 f3) fun v7=>
 og (lod v7 σ) fun v8=>
 og (ibin .neq v6 v8) fun v9=>
 apick v9 (
 aret (.val (.bool false)) σ R) (
 og (fldA 1 f2) fun v10=>
 og (lod v10 σ) fun v11=>
 og (fldA 1 f3) fun v12=>
 og (lod v12 σ) fun v13=>
 og (sbin .neq v11 v13) fun v14=>
 apick v14 (
 aret (.val (.bool false)) σ R) (
 aret (.val (.bool true)) σ R))
def x7:Sx:= .box (Z 1) (.box (Z 1) (.frz 2 (Z 1) (.frz 3 (Z 1) (Q (F 0 1) (M 0 (Q (F 0 2) (M 0 (D .neq (Z 2) (Z 0) (P 0 (.ret (.lit (.val (.bool false)))) (Q (F 1 6) (M 0 (Q (F 1 7) (M 0 (Q (.sbin .neq (Z 2) (Z 0)) (P 0 (.ret (.lit (.val (.bool false)))) (.ret (.lit (.val (.bool true)))))))))))))))))))
theorem x7_ok:okF TT Tryz.f7 2 x7=true:=by decide+kernel
theorem s_laws_eqTextResult_ok (h:s_laws_eqTextResult a0 a1 σ R):acall TP fn_laws_eqTextResult [a0,a1] σ R:=
 acall_okF (ρ:=[a1,a0]) TT_ok Tryz.func7 rfl x7 x7_ok rfl h
def s_spec_l8Cores (a0:AV) (σ:AH) (R:AEnd→AH→Prop):Prop:=
 acall TP fn_spec_ReadData [a0] σ (onr (fun v7 σ=>
 new [(iv 0),(iv 0),nilS] σ fun v4 σ=>
 sto 3 v4 v7 σ fun σ=>
 frz v4 σ fun f4 σ=>
 og (fldA 0 f4) fun v8=>
 og (lod v8 σ) fun v9=>
 og (ibin .neq v9 (iv 0)) fun v10=>
 apick v10 (
 og (fldA 0 f4) fun v11=>
 og (lod v11 σ) fun v12=>
 aret (.tup [nilS,v12]) σ R) (
 og (fldA 2 f4) fun v13=>
 og (lod v13 σ) fun v14=>
 acall TP fn_spec_ExpandData [v14] σ (onr (fun v15 σ=>
 new [(iv 0),nilS] σ fun v5 σ=>
 sto 2 v5 v15 σ fun σ=>
 frz v5 σ fun f5 σ=>
 og (fldA 1 f5) fun v16=>
 og (lod v16 σ) fun v17=>
 og (fldA 0 f5) fun v18=>
 og (lod v18 σ) fun v19=>
 aret (.tup [v17,v19]) σ R) (pn R)))) (pn R))
def x13:Sx:= .call 22 [(Z 0)] (.new [(iv 0),(iv 0),nilS] (.sto 3 (Z 0) (Z 1) (.frz 2 (Z 0) (Q (F 0 0) (M 0 (D .neq (Z 0) (Y 0) (P 0 (.ord [0,1,2,3] [0,1,0,7] (Q (F 0 3) (M 0 (.rets [(.lit nilS),(Z 0)])))) (Q (F 2 3) (M 0 (.call 23 [(Z 0)] (.new [(iv 0),nilS] (.sto 2 (Z 0) (Z 1) (.frz 10 (Z 0) (.ord [0,1,2,3,4,5] [0,1,0,4,3,31] (Q (F 1 0) (M 0 (Q (F 0 2) (M 0 (.rets [(Z 2),(Z 0)])))))))))))))))))))
theorem x13_ok:okF TT Tryz.f13 1 x13=true:=by decide+kernel
theorem s_spec_l8Cores_ok (h:s_spec_l8Cores a0 σ R):acall TP fn_spec_l8Cores [a0] σ R:=
 acall_okF (ρ:=[a0]) TT_ok Tryz.func13 rfl x13 x13_ok rfl h
def s_spec_CoreText (a0:AV) (σ:AH) (R:AEnd→AH→Prop):Prop:=
 new [(iv 0),(str ⟨#[]⟩)] σ fun v2 σ=>
 acall TP fn_spec_l4Fault [a0] σ (onr (fun v6 σ=>
 og (ibin .neq v6 (iv 0)) fun v8=>
 apick v8 (
 og (bld [(iv 0),(str ⟨#[]⟩)] [(0,1),(1,1)] [(0,v6)]) fun v10=>
 sto 2 v2 v10 σ fun σ=>
 og (lodA 2 v2 σ) fun r2=>
 aret r2 σ R) (
 acall TP fn_spec_l4Text [a0,(iv 0)] σ (onr (fun v12 σ=>
 og (lenStr v12) fun v14=>
 og (ibin .gtr v14 (iv 1500)) fun v15=>
 apick v15 (
 og (bld [(iv 0),(str ⟨#[]⟩)] [(0,1),(1,1)] [(0,(iv 2))]) fun v16=>
 sto 2 v2 v16 σ fun σ=>
 og (lodA 2 v2 σ) fun r2=>
 aret r2 σ R) (
 og (bld [(iv 0),(str ⟨#[]⟩)] [(0,1),(1,1)] [(1,v12)]) fun v18=>
 sto 2 v2 v18 σ fun σ=>
 og (lodA 2 v2 σ) fun r2=>
 aret r2 σ R)) (pn R)))) (pn R))
def x14:Sx:= .new [(iv 0),(str ⟨#[]⟩)] (.call 24 [(Z 1)] (D .neq (Z 0) (Y 0) (P 0 (Q (.bld [(iv 0),(str ⟨#[]⟩)] [(0,1),(1,1)] [(0,(Z 1))]) (.sto 2 (Z 3) (Z 0) (Q (.lodA 2 (Z 3)) (.ret (Z 0))))) (.call 25 [(Z 3),(Y 0)] (Q (.lenStr (Z 0)) (D .gtr (Z 0) (Y 1500) (P 0 (Q (.bld [(iv 0),(str ⟨#[]⟩)] [(0,1),(1,1)] [(0,(Y 2))]) (.sto 2 (Z 6) (Z 0) (Q (.lodA 2 (Z 6)) (.ret (Z 0))))) (Q (.bld [(iv 0),(str ⟨#[]⟩)] [(0,1),(1,1)] [(1,(Z 2))]) (.sto 2 (Z 6) (Z 0) (Q (.lodA 2 (Z 6)) (.ret (Z 0))))))))))))
theorem x14_ok:okF TT Tryz.f14 1 x14=true:=by decide+kernel
theorem s_spec_CoreText_ok (h:s_spec_CoreText a0 σ R):acall TP fn_spec_CoreText [a0] σ R:=
 acall_okF (ρ:=[a0]) TT_ok Tryz.func14 rfl x14 x14_ok rfl h
def s_impl_readCore (a0:AV) (σ:AH) (R:AEnd→AH→Prop):Prop:=
 acall TP fn_impl_ReadData [a0] σ (onr (fun v7 σ=>
 new [(iv 0),(iv 0),nilS] σ fun v4 σ=>
 sto 3 v4 v7 σ fun σ=>
 frz v4 σ fun f4 σ=>
 og (fldA 0 f4) fun v8=>
 og (lod v8 σ) fun v9=>
 og (ibin .neq v9 (iv 0)) fun v10=>
 apick v10 (
 og (fldA 0 f4) fun v11=>
 og (lod v11 σ) fun v12=>
 aret (.tup [nilS,v12]) σ R) (
 og (fldA 2 f4) fun v13=>
 og (lod v13 σ) fun v14=>
 acall TP fn_impl_ExpandData [v14] σ (onr (fun v15 σ=>
 new [(iv 0),nilS] σ fun v5 σ=>
 sto 2 v5 v15 σ fun σ=>
 frz v5 σ fun f5 σ=>
 og (fldA 1 f5) fun v16=>
 og (lod v16 σ) fun v17=>
 og (fldA 0 f5) fun v18=>
 og (lod v18 σ) fun v19=>
 aret (.tup [v17,v19]) σ R) (pn R)))) (pn R))
def x15:Sx:= .call 26 [(Z 0)] (.new [(iv 0),(iv 0),nilS] (.sto 3 (Z 0) (Z 1) (.frz 2 (Z 0) (Q (F 0 0) (M 0 (D .neq (Z 0) (Y 0) (P 0 (.ord [0,1,2,3] [0,1,0,7] (Q (F 0 3) (M 0 (.rets [(.lit nilS),(Z 0)])))) (Q (F 2 3) (M 0 (.call 27 [(Z 0)] (.new [(iv 0),nilS] (.sto 2 (Z 0) (Z 1) (.frz 10 (Z 0) (.ord [0,1,2,3,4,5] [0,1,0,4,3,31] (Q (F 1 0) (M 0 (Q (F 0 2) (M 0 (.rets [(Z 2),(Z 0)])))))))))))))))))))
theorem x15_ok:okF TT Tryz.f15 1 x15=true:=by decide+kernel
theorem s_impl_readCore_ok (h:s_impl_readCore a0 σ R):acall TP fn_impl_readCore [a0] σ R:=
 acall_okF (ρ:=[a0]) TT_ok Tryz.func15 rfl x15 x15_ok rfl h
def s_impl_CoreText (a0:AV) (σ:AH) (R:AEnd→AH→Prop):Prop:=
 new [(iv 0),(str ⟨#[]⟩)] σ fun v2 σ=>
 acall TP fn_impl_CoreFault [a0] σ (onr (fun v6 σ=>
 og (ibin .neq v6 (iv 0)) fun v8=>
 apick v8 (
 og (bld [(iv 0),(str ⟨#[]⟩)] [(0,1),(1,1)] [(0,v6)]) fun v10=>
 sto 2 v2 v10 σ fun σ=>
 og (lodA 2 v2 σ) fun r2=>
 aret r2 σ R) (
 acall TP fn_impl_kids [a0] σ (onr (fun v13 σ=>
 acall TP fn_impl_coreText [a0,v13,(iv 0)] σ (onr (fun v14 σ=>
 og (lenStr v14) fun v16=>
 og (ibin .gtr v16 (iv 1500)) fun v17=>
 apick v17 (
 og (bld [(iv 0),(str ⟨#[]⟩)] [(0,1),(1,1)] [(0,(iv 2))]) fun v18=>
 sto 2 v2 v18 σ fun σ=>
 og (lodA 2 v2 σ) fun r2=>
 aret r2 σ R) (
 og (bld [(iv 0),(str ⟨#[]⟩)] [(0,1),(1,1)] [(1,v14)]) fun v20=>
 sto 2 v2 v20 σ fun σ=>
 og (lodA 2 v2 σ) fun r2=>
 aret r2 σ R)) (pn R))) (pn R)))) (pn R))
def x16:Sx:= .new [(iv 0),(str ⟨#[]⟩)] (.call 28 [(Z 1)] (D .neq (Z 0) (Y 0) (P 0 (Q (.bld [(iv 0),(str ⟨#[]⟩)] [(0,1),(1,1)] [(0,(Z 1))]) (.sto 2 (Z 3) (Z 0) (Q (.lodA 2 (Z 3)) (.ret (Z 0))))) (.call 30 [(Z 3)] (.call 29 [(Z 4),(Z 0),(Y 0)] (Q (.lenStr (Z 0)) (D .gtr (Z 0) (Y 1500) (P 0 (Q (.bld [(iv 0),(str ⟨#[]⟩)] [(0,1),(1,1)] [(0,(Y 2))]) (.sto 2 (Z 7) (Z 0) (Q (.lodA 2 (Z 7)) (.ret (Z 0))))) (Q (.bld [(iv 0),(str ⟨#[]⟩)] [(0,1),(1,1)] [(1,(Z 2))]) (.sto 2 (Z 7) (Z 0) (Q (.lodA 2 (Z 7)) (.ret (Z 0)))))))))))))
theorem x16_ok:okF TT Tryz.f16 1 x16=true:=by decide+kernel
theorem s_impl_CoreText_ok (h:s_impl_CoreText a0 σ R):acall TP fn_impl_CoreText [a0] σ R:=
 acall_okF (ρ:=[a0]) TT_ok Tryz.func16 rfl x16 x16_ok rfl h
def s_spec_ReadData (a0:AV) (σ:AH) (R:AEnd→AH→Prop):Prop:=
 new [(iv 0),(iv 0),nilS] σ fun v2 σ=>
 acall TP fn_spec_TokensOf [a0] σ (onr (fun v8 σ=>
 new [(iv 0),(iv 0),nilS] σ fun v3 σ=>
 sto 3 v3 v8 σ fun σ=>
 frz v3 σ fun f3 σ=>
 og (fldA 0 f3) fun v9=>
 og (lod v9 σ) fun v10=>
 og (ibin .neq v10 (iv 0)) fun v11=>
 apick v11 (
 og (fldA 0 f3) fun v12=>
 og (lod v12 σ) fun v13=>
 og (fldA 1 f3) fun v14=>
 og (lod v14 σ) fun v15=>
 og (bld [(iv 0),(iv 0),nilS] [(0,1),(1,1),(2,1)] [(0,v13),(1,v15)]) fun v16=>
 sto 3 v2 v16 σ fun σ=>
 og (lodA 3 v2 σ) fun r2=>
 aret r2 σ R) (
 og (fldA 2 f3) fun v18=>
 og (lod v18 σ) fun v19=>
 acall TP fn_spec_l3Read [v19] σ (onr (fun v20 σ=>
 og (aext v20 0) fun v21=>
 og (aext v20 1) fun v22=>
 og (aext v20 2) fun v23=>
 og (bld [(iv 0),(iv 0),nilS] [(0,1),(1,1),(2,1)] [(0,v22),(1,v23),(2,v21)]) fun v27=>
 sto 3 v2 v27 σ fun σ=>
 og (lodA 3 v2 σ) fun r2=>
 aret r2 σ R) (pn R)))) (pn R))
def x22:Sx:= .new [(iv 0),(iv 0),nilS] (.call 36 [(Z 1)] (.new [(iv 0),(iv 0),nilS] (.sto 3 (Z 0) (Z 1) (.frz 3 (Z 0) (Q (F 0 0) (M 0 (D .neq (Z 0) (Y 0) (P 0 (Q (F 0 3) (M 0 (Q (F 1 5) (M 0 (Q (.bld [(iv 0),(iv 0),nilS] [(0,1),(1,1),(2,1)] [(0,(Z 2)),(1,(Z 0))]) (.sto 3 (Z 11) (Z 0) (Q (.lodA 3 (Z 11)) (.ret (Z 0))))))))) (Q (F 2 3) (M 0 (.call 37 [(Z 0)] (Q (.aext (Z 0) 0) (Q (.aext (Z 1) 1) (Q (.aext (Z 2) 2) (Q (.bld [(iv 0),(iv 0),nilS] [(0,1),(1,1),(2,1)] [(0,(Z 1)),(1,(Z 0)),(2,(Z 2))]) (.sto 3 (Z 13) (Z 0) (Q (.lodA 3 (Z 13)) (.ret (Z 0)))))))))))))))))))
theorem x22_ok:okF TT Tryz.f22 1 x22=true:=by decide+kernel
theorem s_spec_ReadData_ok (h:s_spec_ReadData a0 σ R):acall TP fn_spec_ReadData [a0] σ R:=
 acall_okF (ρ:=[a0]) TT_ok Tryz.func22 rfl x22 x22_ok rfl h
def s_spec_ExpandData (a0:AV) (σ:AH) (R:AEnd→AH→Prop):Prop:=
 new [(iv 0),nilS] σ fun v2 σ=>
 acall TP fn_spec_l3Fault [a0] σ (onr (fun v7 σ=>
 og (ibin .neq v7 (iv 0)) fun v9=>
 apick v9 (
 og (bld [(iv 0),nilS] [(0,1),(1,1)] [(0,v7)]) fun v11=>
 sto 2 v2 v11 σ fun σ=>
 og (lodA 2 v2 σ) fun r2=>
 aret r2 σ R) (
 og (bld [nilS,nilS,nilS] [(0,1),(1,1),(2,1)] [(0,a0)]) fun v13=>
 new [nilS,nilS,nilS] σ fun v4 σ=>
 sto 3 v4 v13 σ fun σ=>
 acall TP fn_spec_l4Expand [v4,(iv 0),(iv (-1)),(iv (-1))] σ (onr (fun v14 σ=>
 frz v4 σ fun f4 σ=>
 og (ibin .neq v14 (iv 0)) fun v16=>
 apick v16 (
 og (bld [(iv 0),nilS] [(0,1),(1,1)] [(0,v14)]) fun v18=>
 sto 2 v2 v18 σ fun σ=>
 og (lodA 2 v2 σ) fun r2=>
 aret r2 σ R) (
 og (fldA 1 f4) fun v19=>
 og (lod v19 σ) fun v20=>
 og (lenS v20) fun v21=>
 og (ibin .gtr v21 (iv 160)) fun v22=>
 apick v22 (
 og (bld [(iv 0),nilS] [(0,1),(1,1)] [(0,(iv 2))]) fun v23=>
 sto 2 v2 v23 σ fun σ=>
 og (lodA 2 v2 σ) fun r2=>
 aret r2 σ R) (
 og (fldA 1 f4) fun v24=>
 og (lod v24 σ) fun v25=>
 og (bld [(iv 0),nilS] [(0,1),(1,1)] [(1,v25)]) fun v26=>
 sto 2 v2 v26 σ fun σ=>
 og (lodA 2 v2 σ) fun r2=>
 aret r2 σ R))) (pn R)))) (pn R))
def x23:Sx:= .new [(iv 0),nilS] (.call 38 [(Z 1)] (D .neq (Z 0) (Y 0) (P 0 (Q (.bld [(iv 0),nilS] [(0,1),(1,1)] [(0,(Z 1))]) (.sto 2 (Z 3) (Z 0) (Q (.lodA 2 (Z 3)) (.ret (Z 0))))) (Q (.bld [nilS,nilS,nilS] [(0,1),(1,1),(2,1)] [(0,(Z 3))]) (.new [nilS,nilS,nilS] (.sto 3 (Z 0) (Z 1) (.call 39 [(Z 0),(Y 0),(Y (-1)),(Y (-1))] (.frz 5 (Z 1) (D .neq (Z 1) (Y 0) (P 0 (Q (.bld [(iv 0),nilS] [(0,1),(1,1)] [(0,(Z 2))]) (.sto 2 (Z 8) (Z 0) (Q (.lodA 2 (Z 8)) (.ret (Z 0))))) (Q (F 1 1) (M 0 (O 0 (D .gtr (Z 0) (Y 160) (P 0 (Q (.bld [(iv 0),nilS] [(0,1),(1,1)] [(0,(Y 2))]) (.sto 2 (Z 12) (Z 0) (Q (.lodA 2 (Z 12)) (.ret (Z 0))))) (Q (F 1 5) (M 0 (Q (.bld [(iv 0),nilS] [(0,1),(1,1)] [(1,(Z 0))]) (.sto 2 (Z 14) (Z 0) (Q (.lodA 2 (Z 14)) (.ret (Z 0))))))))))))))))))))))
theorem x23_ok:okF TT Tryz.f23 1 x23=true:=by decide+kernel
theorem s_spec_ExpandData_ok (h:s_spec_ExpandData a0 σ R):acall TP fn_spec_ExpandData [a0] σ R:=
 acall_okF (ρ:=[a0]) TT_ok Tryz.func23 rfl x23 x23_ok rfl h
def s_spec_l4Fault (a0:AV) (σ:AH) (R:AEnd→AH→Prop):Prop:=
 og (lenS a0) fun v7=>
 og (ibin .lss v7 (iv 1)) fun v8=>
 og (gval v8 false false (some a0)) fun v10=>
 og (gval v8 false false (lenS v10)) fun v11=>
 og (gval v8 false false (ibin .gtr v11 (iv 160))) fun v12=>
 og (pickV v8 (.val (.bool true)) v12) fun v13=>
 apick v13 (
 aret (iv 2) σ R) (
 lp (X:=Tup [0,3]) (fun R1 y1 σ=>
 og (lenS y1.1) fun v16=>
 og (ibin .lss y1.2.1 v16) fun v17=>
 apick v17 (
 acall TP fn_spec_l4One [y1.1,y1.2.1] σ (onr (fun v22 σ=>
 og (ibin .neq v22 (iv 0)) fun v24=>
 apick v24 (
 aret v22 σ R) (
 og (ibin .add y1.2.1 (iv 1)) fun v19=>
 R1 (y1.1,v19,()) σ)) (pn R))) (
 lp (X:=Tup [0,5]) (fun R2 y2 σ=>
 og (lenS y2.1) fun v28=>
 og (ibin .lss y2.2.1 v28) fun v29=>
 apick v29 (
 og (idx 6 y2.1 y2.2.1 σ) fun v34=>
 og (fldA 0 v34) fun v35=>
 og (lod v35 σ) fun v36=>
 acall TP fn_spec_l4Kids [y2.1,y2.2.1] σ (onr (fun v39 σ=>
 (lod v35 σ=some v36∧idx 6 y2.1 y2.2.1 σ=some v34∧True)∧
 og (lenS v39) fun v40=>
 acall TP fn_spec_l4Many [v36,v40] σ (onr (fun v41 σ=>
 (True)∧
 og (aun .not v41) fun v42=>
 apick v42 (
 aret (iv 1) σ R) (
 og (ibin .add y2.2.1 (iv 1)) fun v31=>
 R2 (y2.1,v31,()) σ)) (pn R))) (pn R))) (
 aret (iv 0) σ R)) (y1.1,(iv 0),()) σ)) (a0,(iv 0),()) σ)
def x24:Sx:=O 0 (D .lss (Z 0) (Y 1) (G 0 (.ret (Z 2)) (G 1 (N 0) (G 2 (B .gtr (Z 0) (Y 160)) (Q (.pickV (Z 3) (.lit (.val (.bool true))) (Z 0)) (P 0 (.ret (Y 2)) (.lp [0,3] (O 0 (D .lss (Z 2) (Z 0) (P 0 (.call 40 [(Z 2),(Z 3)] (D .neq (Z 0) (Y 0) (P 0 (.ret (Z 1)) (D .add (Z 5) (Y 1) (.jump 0 [(Z 5),(Z 0)]))))) (.lp [0,5] (O 0 (D .lss (Z 2) (Z 0) (P 0 (.ord [0,1,2,3,4,5,6,7,8,9,10] [0,0,3,7,15,0,0,96,224,511,1023] (J 6 2 3 (Q (F 0 0) (M 0 (.call 42 [(Z 5),(Z 6)] (.wat [⟨none,(.lod (Z 2)),(Z 1)⟩,⟨none,(.idx 6 (Z 6) (Z 7)),(Z 3)⟩] (O 0 (.call 41 [(Z 2),(Z 0)] (.wat [] (Q (.aun .not (Z 0)) (P 0 (.ret (Y 1)) (D .add (Z 10) (Y 1) (.jump 0 [(Z 10),(Z 0)]))))))))))))) (.ret (Y 0))))) [(Z 2),(Y 0)])))) [(Z 6),(Y 0)])))))))
theorem x24_ok:okF TT Tryz.f24 1 x24=true:=by decide+kernel
theorem s_spec_l4Fault_ok (h:s_spec_l4Fault a0 σ R):acall TP fn_spec_l4Fault [a0] σ R:=
 acall_okF (ρ:=[a0]) TT_ok Tryz.func24 rfl x24 x24_ok rfl h
def s_spec_l4Text (a0 a1:AV) (σ:AH) (R:AEnd→AH→Prop):Prop:=
 og (idx 6 a0 a1 σ) fun v11=>
 jn (X:=Tup [0,1,6]) (fun x1 σ=>
 acall TP fn_spec_l4Kids [x1.1,x1.2.1] σ (onr (fun v73 σ=>
 lp (X:=Tup [0,6,7,8]) (fun R2 y2 σ=>
 og (lenS y2.2.2.1) fun v76=>
 og (ibin .lss y2.2.2.2.1 v76) fun v77=>
 apick v77 (
 og (sbin .add y2.2.1 (.val (.string ⟨#[32]⟩))) fun v81=>
 og (idx 1 y2.2.2.1 y2.2.2.2.1 σ) fun v85=>
 og (lod v85 σ) fun v86=>
 acall TP fn_spec_l4Text [y2.1,v86] σ (onr (fun v87 σ=>
 og (sbin .add v81 v87) fun v88=>
 og (ibin .add y2.2.2.2.1 (iv 1)) fun v79=>
 R2 (y2.1,v88,y2.2.2.1,v79,()) σ) (pn R))) (
 og (sbin .add y2.2.1 (.val (.string ⟨#[41]⟩))) fun v90=>
 aret v90 σ R)) (x1.1,x1.2.2.1,v73,(iv 0),()) σ) (pn R))) fun k1=>
 og (anil v11) fun v13=>
 og (fldA 0 v13) fun v14=>
 og (lod v14 σ) fun v15=>
 og (ibin .eql v15 (iv 1)) fun v17=>
 apick v17 (
 og (anil v11) fun v19=>
 og (fldA 5 v19) fun v20=>
 og (lod v20 σ) fun v21=>
 acall TP fn_spec_l3Write [v21,(iv 0)] σ (onr (fun v22 σ=>
 og (sbin .add (.val (.string ⟨#[39]⟩)) v22) fun v23=>
 aret v23 σ R) (pn R))) (
 og (ibin .eql v15 (iv 2)) fun v25=>
 apick v25 (
 og (anil v11) fun v27=>
 og (fldA 2 v27) fun v28=>
 og (lod v28 σ) fun v29=>
 og (anil v11) fun v34=>
 og (fldA 3 v34) fun v35=>
 og (lod v35 σ) fun v36=>
 acall TP fn_spec_l1Digits [v29] σ (onr (fun v30 σ=>
 (lod v35 σ=some v36∧True)∧
 og (sbin .add (.val (.string ⟨#[37]⟩)) v30) fun v31=>
 og (sbin .add v31 (.val (.string ⟨#[46]⟩))) fun v32=>
 acall TP fn_spec_l1Digits [v36] σ (onr (fun v37 σ=>
 (True)∧
 og (sbin .add v32 v37) fun v38=>
 aret v38 σ R) (pn R))) (pn R))) (
 og (ibin .eql v15 (iv 3)) fun v40=>
 apick v40 (
 og (anil v11) fun v42=>
 og (fldA 4 v42) fun v43=>
 og (lod v43 σ) fun v44=>
 aret v44 σ R) (
 og (ibin .eql v15 (iv 4)) fun v46=>
 apick v46 (
 k1 (a0,a1,(.val (.string ⟨#[40,105,102]⟩)),()) σ) (
 og (ibin .eql v15 (iv 5)) fun v48=>
 apick v48 (
 og (anil v11) fun v50=>
 og (fldA 2 v50) fun v51=>
 og (lod v51 σ) fun v52=>
 acall TP fn_spec_l1Digits [v52] σ (onr (fun v53 σ=>
 og (sbin .add (.val (.string ⟨#[40,102,110,32]⟩)) v53) fun v54=>
 k1 (a0,a1,v54,()) σ) (pn R))) (
 og (ibin .eql v15 (iv 6)) fun v56=>
 apick v56 (
 k1 (a0,a1,(.val (.string ⟨#[40,115,101,113]⟩)),()) σ) (
 og (ibin .eql v15 (iv 7)) fun v58=>
 apick v58 (
 og (anil v11) fun v60=>
 og (fldA 4 v60) fun v61=>
 og (lod v61 σ) fun v62=>
 og (sbin .add (.val (.string ⟨#[40,115,101,116,32]⟩)) v62) fun v63=>
 k1 (a0,a1,v63,()) σ) (
 og (ibin .eql v15 (iv 8)) fun v65=>
 apick v65 (
 og (anil v11) fun v67=>
 og (fldA 4 v67) fun v68=>
 og (lod v68 σ) fun v69=>
 og (sbin .add (.val (.string ⟨#[40,100,101,102,32]⟩)) v69) fun v70=>
 k1 (a0,a1,v70,()) σ) (
 k1 (a0,a1,(.val (.string ⟨#[40,97,112,112]⟩)),()) σ))))))))
def x25:Sx:=J 6 1 0 (.jn 31 [0,1,6] (.call 42 [(Z 0),(Z 1)] (.lp [0,6,7,8] (O 2 (D .lss (Z 4) (Z 0) (P 0 (Q (.sbin .add (Z 3) (.lit (.val (.string ⟨#[32]⟩)))) (J 1 5 6 (M 0 (.call 25 [(Z 5),(Z 0)] (Q (.sbin .add (Z 3) (Z 0)) (D .add (Z 10) (Y 1) (.jump 0 [(Z 8),(Z 1),(Z 10),(Z 0)]))))))) (Q (.sbin .add (Z 3) (.lit (.val (.string ⟨#[41]⟩)))) (.ret (Z 0)))))) [(Z 1),(Z 3),(Z 0),(Y 0)])) (Q (A 0) (Q (F 0 0) (M 0 (D .eql (Z 0) (Y 1) (P 0 (Q (A 4) (Q (F 5 0) (M 0 (.call 43 [(Z 0),(Y 0)] (Q (.sbin .add (.lit (.val (.string ⟨#[39]⟩))) (Z 0)) (.ret (Z 0))))))) (D .eql (Z 1) (Y 2) (P 0 (.ord [0,1,2,3,7,8,9,10,4,5,6,11,12,13] [0,1,3,7,15,31,63,0,128,384,896,1951,4095,8191] (Q (A 5) (Q (F 2 0) (M 0 (Q (A 8) (Q (F 3 0) (M 0 (.call 44 [(Z 3)] (.wat [⟨none,(.lod (Z 2)),(Z 1)⟩] (Q (.sbin .add (.lit (.val (.string ⟨#[37]⟩))) (Z 0)) (Q (.sbin .add (Z 0) (.lit (.val (.string ⟨#[46]⟩)))) (.call 44 [(Z 3)] (.wat [] (Q (.sbin .add (Z 1) (Z 0)) (.ret (Z 0)))))))))))))))) (D .eql (Z 2) (Y 3) (P 0 (Q (A 6) (Q (F 4 0) (M 0 (.ret (Z 0))))) (D .eql (Z 3) (Y 4) (P 0 (.jump 0 [(Z 9),(Z 8),(.lit (.val (.string ⟨#[40,105,102]⟩)))]) (D .eql (Z 4) (Y 5) (P 0 (Q (A 8) (Q (F 2 0) (M 0 (.call 44 [(Z 0)] (Q (.sbin .add (.lit (.val (.string ⟨#[40,102,110,32]⟩))) (Z 0)) (.jump 0 [(Z 15),(Z 14),(Z 0)])))))) (D .eql (Z 5) (Y 6) (P 0 (.jump 0 [(Z 11),(Z 10),(.lit (.val (.string ⟨#[40,115,101,113]⟩)))]) (D .eql (Z 6) (Y 7) (P 0 (Q (A 10) (Q (F 4 0) (M 0 (Q (.sbin .add (.lit (.val (.string ⟨#[40,115,101,116,32]⟩))) (Z 0)) (.jump 0 [(Z 16),(Z 15),(Z 0)]))))) (D .eql (Z 7) (Y 8) (P 0 (Q (A 11) (Q (F 4 0) (M 0 (Q (.sbin .add (.lit (.val (.string ⟨#[40,100,101,102,32]⟩))) (Z 0)) (.jump 0 [(Z 17),(Z 16),(Z 0)]))))) (.jump 0 [(Z 13),(Z 12),(.lit (.val (.string ⟨#[40,97,112,112]⟩)))])))))))))))))))))))))
theorem x25_ok:okF TT Tryz.f25 2 x25=true:=by decide+kernel
theorem s_spec_l4Text_ok (h:s_spec_l4Text a0 a1 σ R):acall TP fn_spec_l4Text [a0,a1] σ R:=
 acall_okF (ρ:=[a1,a0]) TT_ok Tryz.func25 rfl x25 x25_ok rfl h
def s_impl_ReadData (a0:AV) (σ:AH) (R:AEnd→AH→Prop):Prop:=
 new [(iv 0),(iv 0),nilS] σ fun v2 σ=>
 acall TP fn_impl_TokensOf [a0] σ (onr (fun v8 σ=>
 new [(iv 0),(iv 0),nilS] σ fun v3 σ=>
 sto 3 v3 v8 σ fun σ=>
 frz v3 σ fun f3 σ=>
 og (fldA 0 f3) fun v9=>
 og (lod v9 σ) fun v10=>
 og (ibin .neq v10 (iv 0)) fun v11=>
 apick v11 (
 og (fldA 0 f3) fun v12=>
 og (lod v12 σ) fun v13=>
 og (fldA 1 f3) fun v14=>
 og (lod v14 σ) fun v15=>
 og (bld [(iv 0),(iv 0),nilS] [(0,1),(1,1),(2,1)] [(0,v13),(1,v15)]) fun v16=>
 sto 3 v2 v16 σ fun σ=>
 og (lodA 3 v2 σ) fun r2=>
 aret r2 σ R) (
 og (bld [nilS,nilS] [(0,1),(1,1)] []) fun v17=>
 abox v17 σ fun v18 σ=>
 lp (X:=Tup [2,3,4,5]) (fun R1 y1 σ=>
 og (fldA 2 y1.2.1) fun v20=>
 og (lod v20 σ) fun v21=>
 og (lenS v21) fun v22=>
 og (ibin .lss y1.2.2.2.1 v22) fun v23=>
 og (gval v23 true false (some y1.2.2.2.1)) fun v25=>
 og (gval v23 true false (ibin .eql v25 (iv 0))) fun v26=>
 og (gval v23 true false (some v26)) fun v27=>
 og (gval v27 false true (some y1.2.2.1)) fun v28=>
 og (gval v27 false true (anil v28)) fun v29=>
 og (gval v27 false true (fldA 1 v29)) fun v30=>
 og (gval v27 false true (lod v30 σ)) fun v31=>
 og (gval v27 false true (lenS v31)) fun v32=>
 og (gval v27 false true (ibin .gtr v32 (iv 0))) fun v33=>
 og (gval v23 true false (pickV v27 (.val (.bool true)) v33)) fun v34=>
 og (pickV v23 v34 (.val (.bool false))) fun v35=>
 apick v35 (
 og (fldA 2 y1.2.1) fun v37=>
 og (lod v37 σ) fun v38=>
 og (idx 3 v38 y1.2.2.2.1 σ) fun v40=>
 og (lodA 3 v40 σ) fun v41=>
 acall TP fn_impl_dataReader_token [y1.2.2.1,v41] σ (onr (fun v42 σ=>
 og (ibin .neq v42 (iv 0)) fun v44=>
 apick v44 (
 og (bld [(iv 0),(iv 0),nilS] [(0,1),(1,1),(2,1)] [(0,v42),(1,y1.2.2.2.1)]) fun v47=>
 sto 3 y1.1 v47 σ fun σ=>
 og (lodA 3 y1.1 σ) fun r2=>
 aret r2 σ R) (
 og (ibin .add y1.2.2.2.1 (iv 1)) fun v49=>
 R1 (y1.1,y1.2.1,y1.2.2.1,v49,()) σ)) (pn R))) (
 og (ibin .eql y1.2.2.2.1 (iv 0)) fun v51=>
 og (gval v51 false false (some y1.2.2.1)) fun v53=>
 og (gval v51 false false (anil v53)) fun v54=>
 og (gval v51 false false (fldA 1 v54)) fun v55=>
 og (gval v51 false false (lod v55 σ)) fun v56=>
 og (gval v51 false false (lenS v56)) fun v57=>
 og (gval v51 false false (ibin .gtr v57 (iv 0))) fun v58=>
 og (pickV v51 (.val (.bool true)) v58) fun v59=>
 og (gval v59 false false (some y1.2.2.2.1)) fun v61=>
 og (gval v59 false false (fldA 2 y1.2.1)) fun v62=>
 og (gval v59 false false (lod v62 σ)) fun v63=>
 og (gval v59 false false (lenS v63)) fun v64=>
 og (gval v59 false false (ibin .lss v61 v64)) fun v65=>
 og (pickV v59 (.val (.bool true)) v65) fun v66=>
 apick v66 (
 og (bld [(iv 0),(iv 0),nilS] [(0,1),(1,1),(2,1)] [(0,(iv 1)),(1,y1.2.2.2.1)]) fun v68=>
 sto 3 y1.1 v68 σ fun σ=>
 og (lodA 3 y1.1 σ) fun r2=>
 aret r2 σ R) (
 og (anil y1.2.2.1) fun v70=>
 og (fldA 0 v70) fun v71=>
 og (lod v71 σ) fun v72=>
 og (bld [(iv 0),(iv 0),nilS] [(0,1),(1,1),(2,1)] [(2,v72)]) fun v73=>
 sto 3 y1.1 v73 σ fun σ=>
 og (lodA 3 y1.1 σ) fun r2=>
 aret r2 σ R))) (v2,f3,v18,(iv 0),()) σ)) (pn R))
def x26:Sx:= .new [(iv 0),(iv 0),nilS] (.call 45 [(Z 1)] (.new [(iv 0),(iv 0),nilS] (.sto 3 (Z 0) (Z 1) (.frz 3 (Z 0) (Q (F 0 0) (M 0 (D .neq (Z 0) (Y 0) (P 0 (Q (F 0 3) (M 0 (Q (F 1 5) (M 0 (Q (.bld [(iv 0),(iv 0),nilS] [(0,1),(1,1),(2,1)] [(0,(Z 2)),(1,(Z 0))]) (.sto 3 (Z 11) (Z 0) (Q (.lodA 3 (Z 11)) (.ret (Z 0))))))))) (Q (.bld [nilS,nilS] [(0,1),(1,1)] []) (.box (Z 0) (.lp [2,3,4,5] (Q (F 2 1) (M 0 (O 0 (D .lss (Z 6) (Z 0) (H 0 (.ret (Z 7)) (H 1 (B .eql (Z 0) (Y 0)) (H 2 (.ret (Z 0)) (.gog (Z 0) false true (.ret (Z 9)) (.gog (Z 1) false true (A 0) (.gog (Z 2) false true (F 1 0) (.gog (Z 3) false true (L 0) (.gog (Z 4) false true (N 0) (.gog (Z 5) false true (B .gtr (Z 0) (Y 0)) (H 9 (.pickV (Z 6) (.lit (.val (.bool true))) (Z 0)) (Q (.pickV (Z 10) (Z 0) (.lit (.val (.bool false)))) (P 0 (Q (F 2 16) (M 0 (J 3 0 20 (Q (.lodA 3 (Z 0)) (.call 46 [(Z 21),(Z 0)] (D .neq (Z 0) (Y 0) (P 0 (Q (.bld [(iv 0),(iv 0),nilS] [(0,1),(1,1),(2,1)] [(0,(Z 1)),(1,(Z 24))]) (.sto 3 (Z 22) (Z 0) (Q (.lodA 3 (Z 22)) (.ret (Z 0))))) (D .add (Z 24) (Y 1) (.jump 0 [(Z 22),(Z 23),(Z 24),(Z 0)]))))))))) (D .eql (Z 18) (Y 0) (G 0 (.ret (Z 18)) (G 1 (A 0) (G 2 (F 1 0) (G 3 (L 0) (G 4 (N 0) (G 5 (B .gtr (Z 0) (Y 0)) (Q (.pickV (Z 6) (.lit (.val (.bool true))) (Z 0)) (G 0 (.ret (Z 26)) (G 1 (F 2 25) (G 2 (L 0) (G 3 (N 0) (G 4 (B .lss (Z 3) (Z 0)) (Q (.pickV (Z 5) (.lit (.val (.bool true))) (Z 0)) (P 0 (Q (.bld [(iv 0),(iv 0),nilS] [(0,1),(1,1),(2,1)] [(0,(Y 1)),(1,(Z 32))]) (.sto 3 (Z 30) (Z 0) (Q (.lodA 3 (Z 30)) (.ret (Z 0))))) (Q (A 31) (Q (F 0 0) (M 0 (Q (.bld [(iv 0),(iv 0),nilS] [(0,1),(1,1),(2,1)] [(2,(Z 0))]) (.sto 3 (Z 33) (Z 0) (Q (.lodA 3 (Z 33)) (.ret (Z 0))))))))))))))))))))))))))))))))))))))) [(Z 8),(Z 5),(Z 0),(Y 0)])))))))))))
theorem x26_ok:okF TT Tryz.f26 1 x26=true:=by decide+kernel
theorem s_impl_ReadData_ok (h:s_impl_ReadData a0 σ R):acall TP fn_impl_ReadData [a0] σ R:=
 acall_okF (ρ:=[a0]) TT_ok Tryz.func26 rfl x26 x26_ok rfl h
def s_impl_ExpandData (a0:AV) (σ:AH) (R:AEnd→AH→Prop):Prop:=
 new [(iv 0),nilS] σ fun v2 σ=>
 acall TP fn_impl_DataFault [a0] σ (onr (fun v7 σ=>
 og (ibin .neq v7 (iv 0)) fun v9=>
 apick v9 (
 og (bld [(iv 0),nilS] [(0,1),(1,1)] [(0,v7)]) fun v11=>
 sto 2 v2 v11 σ fun σ=>
 og (lodA 2 v2 σ) fun r2=>
 aret r2 σ R) (
 acall TP fn_impl_expanded [a0] σ (onr (fun v14 σ=>
 og (aext v14 0) fun v15=>
 og (aext v14 1) fun v16=>
 og (bld [(iv 0),nilS] [(0,1),(1,1)] [(0,v16),(1,v15)]) fun v19=>
 sto 2 v2 v19 σ fun σ=>
 og (lodA 2 v2 σ) fun r2=>
 aret r2 σ R) (pn R)))) (pn R))
def x27:Sx:= .new [(iv 0),nilS] (.call 47 [(Z 1)] (D .neq (Z 0) (Y 0) (P 0 (Q (.bld [(iv 0),nilS] [(0,1),(1,1)] [(0,(Z 1))]) (.sto 2 (Z 3) (Z 0) (Q (.lodA 2 (Z 3)) (.ret (Z 0))))) (.call 48 [(Z 3)] (Q (.aext (Z 0) 0) (Q (.aext (Z 1) 1) (Q (.bld [(iv 0),nilS] [(0,1),(1,1)] [(0,(Z 0)),(1,(Z 1))]) (.sto 2 (Z 6) (Z 0) (Q (.lodA 2 (Z 6)) (.ret (Z 0)))))))))))
theorem x27_ok:okF TT Tryz.f27 1 x27=true:=by decide+kernel
theorem s_impl_ExpandData_ok (h:s_impl_ExpandData a0 σ R):acall TP fn_impl_ExpandData [a0] σ R:=
 acall_okF (ρ:=[a0]) TT_ok Tryz.func27 rfl x27 x27_ok rfl h
def s_impl_CoreFault (a0:AV) (σ:AH) (R:AEnd→AH→Prop):Prop:=
 og (lenS a0) fun v8=>
 acall TP fn_impl_in [v8,(iv 1),(iv 160)] σ (onr (fun v9 σ=>
 og (aun .not v9) fun v10=>
 apick v10 (
 aret (iv 2) σ R) (
 og (lenS a0) fun v12=>
 lp (X:=Tup [0,12,13]) (fun R1 y1 σ=>
 og (ibin .lss y1.2.2.1 y1.2.1) fun v14=>
 apick v14 (
 acall TP fn_impl_oneCoreFault [y1.1,y1.2.2.1] σ (onr (fun v18 σ=>
 og (ibin .neq v18 (iv 0)) fun v20=>
 apick v20 (
 aret v18 σ R) (
 og (ibin .add y1.2.2.1 (iv 1)) fun v22=>
 R1 (y1.1,y1.2.1,v22,()) σ)) (pn R))) (
 acall TP fn_impl_kids [y1.1] σ (onr (fun v24 σ=>
 og (lenS v24) fun v25=>
 lp (X:=Tup [0,24,25,26]) (fun R2 y2 σ=>
 og (ibin .lss y2.2.2.2.1 y2.2.2.1) fun v27=>
 apick v27 (
 og (idx 1 y2.2.1 y2.2.2.2.1 σ) fun v29=>
 og (lod v29 σ) fun v30=>
 og (idx 6 y2.1 y2.2.2.2.1 σ) fun v33=>
 og (fldA 0 v33) fun v34=>
 og (lod v34 σ) fun v35=>
 og (lenS v30) fun v37=>
 acall TP fn_impl_hasKids [v35,v37] σ (onr (fun v38 σ=>
 og (aun .not v38) fun v39=>
 apick v39 (
 aret (iv 1) σ R) (
 og (ibin .add y2.2.2.2.1 (iv 1)) fun v40=>
 R2 (y2.1,y2.2.1,y2.2.2.1,v40,()) σ)) (pn R))) (
 aret (iv 0) σ R)) (y1.1,v24,v25,(iv 0),()) σ) (pn R)))) (a0,v12,(iv 0),()) σ)) (pn R))
def x28:Sx:=O 0 (.call 49 [(Z 0),(Y 1),(Y 160)] (Q (.aun .not (Z 0)) (P 0 (.ret (Y 2)) (O 3 (.lp [0,12,13] (D .lss (Z 2) (Z 1) (P 0 (.call 50 [(Z 1),(Z 3)] (D .neq (Z 0) (Y 0) (P 0 (.ret (Z 1)) (D .add (Z 5) (Y 1) (.jump 0 [(Z 4),(Z 5),(Z 0)]))))) (.call 30 [(Z 1)] (O 0 (.lp [0,24,25,26] (D .lss (Z 3) (Z 2) (P 0 (J 1 2 4 (M 0 (J 6 3 6 (Q (F 0 0) (M 0 (O 3 (.call 51 [(Z 1),(Z 0)] (Q (.aun .not (Z 0)) (P 0 (.ret (Y 1)) (D .add (Z 12) (Y 1) (.jump 0 [(Z 10),(Z 11),(Z 12),(Z 0)]))))))))))) (.ret (Y 0)))) [(Z 3),(Z 1),(Z 0),(Y 0)]))))) [(Z 4),(Z 0),(Y 0)])))))
theorem x28_ok:okF TT Tryz.f28 1 x28=true:=by decide+kernel
theorem s_impl_CoreFault_ok (h:s_impl_CoreFault a0 σ R):acall TP fn_impl_CoreFault [a0] σ R:=
 acall_okF (ρ:=[a0]) TT_ok Tryz.func28 rfl x28 x28_ok rfl h
def s_impl_coreText (a0 a1 a2:AV) (σ:AH) (R:AEnd→AH→Prop):Prop:=
 og (idx 6 a0 a2 σ) fun v13=>
 og (lodA 6 v13 σ) fun v14=>
 bsl 1 [(str ⟨#[]⟩)] 0 [] σ fun v15 σ=>
 new [(iv 0),(iv 0),(iv 0),(iv 0),(str ⟨#[]⟩),nilS] σ fun v7 σ=>
 sto 6 v7 v14 σ fun σ=>
 jn (X:=Tup [0,1,2,8]) (fun x1 σ=>
 og (idx 1 x1.2.1 x1.2.2.1 σ) fun v76=>
 og (lod v76 σ) fun v77=>
 og (lenS v77) fun v78=>
 lp (X:=Tup [0,1,8,77,78,79]) (fun R2 y2 σ=>
 og (ibin .lss y2.2.2.2.2.2.1 y2.2.2.2.2.1) fun v80=>
 apick v80 (
 og (idx 1 y2.2.2.2.1 y2.2.2.2.2.2.1 σ) fun v81=>
 og (lod v81 σ) fun v82=>
 acall TP fn_impl_coreText [y2.1,y2.2.1,v82] σ (onr (fun v87 σ=>
 bsl 1 [(str ⟨#[]⟩)] 1 [(0,v87)] σ fun v88 σ=>
 app 1 y2.2.2.1 v88 σ fun v89 σ=>
 og (ibin .add y2.2.2.2.2.2.1 (iv 1)) fun v90=>
 R2 (y2.1,y2.2.1,v89,y2.2.2.2.1,y2.2.2.2.2.1,v90,()) σ) (pn R))) (
 acall TP fn_strings_Join [y2.2.2.1,(.val (.string ⟨#[32]⟩))] σ (onr (fun v92 σ=>
 og (sbin .add (.val (.string ⟨#[40]⟩)) v92) fun v93=>
 og (sbin .add v93 (.val (.string ⟨#[41]⟩))) fun v94=>
 aret v94 σ R) (pn R)))) (x1.1,x1.2.1,x1.2.2.2.1,v77,v78,(iv 0),()) σ) fun k1=>
 frz v7 σ fun f7 σ=>
 og (fldA 0 f7) fun v16=>
 og (lod v16 σ) fun v17=>
 og (ibin .eql v17 (iv 1)) fun v22=>
 apick v22 (
 og (fldA 5 f7) fun v23=>
 og (lod v23 σ) fun v24=>
 acall TP fn_impl_written [v24,(iv 0)] σ (onr (fun v25 σ=>
 og (sbin .add (.val (.string ⟨#[39]⟩)) v25) fun v26=>
 aret v26 σ R) (pn R))) (
 og (ibin .eql v17 (iv 2)) fun v28=>
 apick v28 (
 og (fldA 2 f7) fun v29=>
 og (lod v29 σ) fun v30=>
 og (fldA 3 f7) fun v34=>
 og (lod v34 σ) fun v35=>
 acall TP fn_impl_dec [v30] σ (onr (fun v31 σ=>
 (lod v34 σ=some v35∧True)∧
 og (sbin .add (.val (.string ⟨#[37]⟩)) v31) fun v32=>
 og (sbin .add v32 (.val (.string ⟨#[46]⟩))) fun v33=>
 acall TP fn_impl_dec [v35] σ (onr (fun v36 σ=>
 (True)∧
 og (sbin .add v33 v36) fun v37=>
 aret v37 σ R) (pn R))) (pn R))) (
 og (ibin .eql v17 (iv 3)) fun v39=>
 apick v39 (
 og (fldA 4 f7) fun v40=>
 og (lod v40 σ) fun v41=>
 aret v41 σ R) (
 og (ibin .eql v17 (iv 4)) fun v43=>
 apick v43 (
 bsl 1 [(str ⟨#[]⟩)] 1 [(0,(.val (.string ⟨#[105,102]⟩)))] σ fun v45 σ=>
 app 1 v15 v45 σ fun v46 σ=>
 k1 (a0,a1,a2,v46,()) σ) (
 og (ibin .eql v17 (iv 5)) fun v48=>
 apick v48 (
 og (fldA 2 f7) fun v50=>
 og (lod v50 σ) fun v51=>
 acall TP fn_impl_dec [v51] σ (onr (fun v52 σ=>
 bsl 1 [(str ⟨#[]⟩)] 2 [(0,(.val (.string ⟨#[102,110]⟩))),(1,v52)] σ fun v53 σ=>
 app 1 v15 v53 σ fun v54 σ=>
 k1 (a0,a1,a2,v54,()) σ) (pn R))) (
 og (ibin .eql v17 (iv 6)) fun v56=>
 apick v56 (
 bsl 1 [(str ⟨#[]⟩)] 1 [(0,(.val (.string ⟨#[115,101,113]⟩)))] σ fun v58 σ=>
 app 1 v15 v58 σ fun v59 σ=>
 k1 (a0,a1,a2,v59,()) σ) (
 og (ibin .eql v17 (iv 7)) fun v61=>
 apick v61 (
 og (fldA 4 f7) fun v63=>
 og (lod v63 σ) fun v64=>
 bsl 1 [(str ⟨#[]⟩)] 2 [(0,(.val (.string ⟨#[115,101,116]⟩))),(1,v64)] σ fun v65 σ=>
 app 1 v15 v65 σ fun v66 σ=>
 k1 (a0,a1,a2,v66,()) σ) (
 og (ibin .eql v17 (iv 8)) fun v68=>
 apick v68 (
 og (fldA 4 f7) fun v70=>
 og (lod v70 σ) fun v71=>
 bsl 1 [(str ⟨#[]⟩)] 2 [(0,(.val (.string ⟨#[100,101,102]⟩))),(1,v71)] σ fun v72 σ=>
 app 1 v15 v72 σ fun v73 σ=>
 k1 (a0,a1,a2,v73,()) σ) (
 bsl 1 [(str ⟨#[]⟩)] 1 [(0,(.val (.string ⟨#[97,112,112]⟩)))] σ fun v19 σ=>
 app 1 v15 v19 σ fun v20 σ=>
 k1 (a0,a1,a2,v20,()) σ))))))))
def x29:Sx:=J 6 2 0 (Q (.lodA 6 (Z 0)) (.bsl 1 [(str ⟨#[]⟩)] 0 [] (.new [(iv 0),(iv 0),(iv 0),(iv 0),(str ⟨#[]⟩),nilS] (.sto 6 (Z 0) (Z 2) (.jn 15 [0,1,2,8] (J 1 1 2 (M 0 (O 0 (.lp [0,1,8,77,78,79] (D .lss (Z 5) (Z 4) (P 0 (J 1 4 6 (M 0 (.call 29 [(Z 3),(Z 4),(Z 0)] (.bsl 1 [(str ⟨#[]⟩)] 1 [(0,(Z 0))] (.app 1 (Z 7) (Z 0) (D .add (Z 11) (Y 1) (.jump 0 [(Z 7),(Z 8),(Z 1),(Z 10),(Z 11),(Z 0)]))))))) (.call 54 [(Z 3),(.lit (.val (.string ⟨#[32]⟩)))] (Q (.sbin .add (.lit (.val (.string ⟨#[40]⟩))) (Z 0)) (Q (.sbin .add (Z 0) (.lit (.val (.string ⟨#[41]⟩)))) (.ret (Z 0))))))) [(Z 3),(Z 4),(Z 6),(Z 1),(Z 0),(Y 0)])))) (.frz 6 (Z 0) (Q (F 0 0) (M 0 (D .eql (Z 0) (Y 1) (P 0 (Q (F 5 3) (M 0 (.call 52 [(Z 0),(Y 0)] (Q (.sbin .add (.lit (.val (.string ⟨#[39]⟩))) (Z 0)) (.ret (Z 0)))))) (D .eql (Z 1) (Y 2) (P 0 (.ord [0,1,5,6,2,3,4,7,8,9] [0,1,3,7,15,0,32,103,255,511] (Q (F 2 4) (M 0 (Q (F 3 6) (M 0 (.call 53 [(Z 2)] (.wat [⟨none,(.lod (Z 2)),(Z 1)⟩] (Q (.sbin .add (.lit (.val (.string ⟨#[37]⟩))) (Z 0)) (Q (.sbin .add (Z 0) (.lit (.val (.string ⟨#[46]⟩)))) (.call 53 [(Z 3)] (.wat [] (Q (.sbin .add (Z 1) (Z 0)) (.ret (Z 0)))))))))))))) (D .eql (Z 2) (Y 3) (P 0 (Q (F 4 5) (M 0 (.ret (Z 0)))) (D .eql (Z 3) (Y 4) (P 0 (.bsl 1 [(str ⟨#[]⟩)] 1 [(0,(.lit (.val (.string ⟨#[105,102]⟩))))] (.app 1 (Z 9) (Z 0) (.jump 0 [(Z 15),(Z 14),(Z 13),(Z 0)]))) (D .eql (Z 4) (Y 5) (P 0 (Q (F 2 7) (M 0 (.call 53 [(Z 0)] (.bsl 1 [(str ⟨#[]⟩)] 2 [(0,(.lit (.val (.string ⟨#[102,110]⟩)))),(1,(Z 0))] (.app 1 (Z 13) (Z 0) (.jump 0 [(Z 19),(Z 18),(Z 17),(Z 0)])))))) (D .eql (Z 5) (Y 6) (P 0 (.bsl 1 [(str ⟨#[]⟩)] 1 [(0,(.lit (.val (.string ⟨#[115,101,113]⟩))))] (.app 1 (Z 11) (Z 0) (.jump 0 [(Z 17),(Z 16),(Z 15),(Z 0)]))) (D .eql (Z 6) (Y 7) (P 0 (Q (F 4 9) (M 0 (.bsl 1 [(str ⟨#[]⟩)] 2 [(0,(.lit (.val (.string ⟨#[115,101,116]⟩)))),(1,(Z 0))] (.app 1 (Z 14) (Z 0) (.jump 0 [(Z 20),(Z 19),(Z 18),(Z 0)]))))) (D .eql (Z 7) (Y 8) (P 0 (Q (F 4 10) (M 0 (.bsl 1 [(str ⟨#[]⟩)] 2 [(0,(.lit (.val (.string ⟨#[100,101,102]⟩)))),(1,(Z 0))] (.app 1 (Z 15) (Z 0) (.jump 0 [(Z 21),(Z 20),(Z 19),(Z 0)]))))) (.bsl 1 [(str ⟨#[]⟩)] 1 [(0,(.lit (.val (.string ⟨#[97,112,112]⟩))))] (.app 1 (Z 13) (Z 0) (.jump 0 [(Z 19),(Z 18),(Z 17),(Z 0)])))))))))))))))))))))))))))
theorem x29_ok:okF TT Tryz.f29 3 x29=true:=by decide+kernel
theorem s_impl_coreText_ok (h:s_impl_coreText a0 a1 a2 σ R):acall TP fn_impl_coreText [a0,a1,a2] σ R:=
 acall_okF (ρ:=[a2,a1,a0]) TT_ok Tryz.func29 rfl x29 x29_ok rfl h
def s_impl_kids (a0:AV) (σ:AH) (R:AEnd→AH→Prop):Prop:=
 og (lenS a0) fun v7=>
 amake TT ty_LLi v7 v7 σ fun v8 σ=>
 og (lenS a0) fun v10=>
 lp (X:=Tup [3,9,10,11]) (fun R1 y1 σ=>
 og (ibin .lss y1.2.2.2.1 y1.2.2.1) fun v12=>
 apick v12 (
 jn (X:=Tup [3,9,10,11]) (fun x2 σ=>
 og (ibin .add x2.2.2.2.1 (iv 1)) fun v31=>
 R1 (x2.1,x2.2.1,x2.2.2.1,v31,()) σ) fun k2=>
 og (idx 6 y1.2.1 y1.2.2.2.1 σ) fun v14=>
 og (lodA 6 v14 σ) fun v15=>
 new [(iv 0),(iv 0),(iv 0),(iv 0),(str ⟨#[]⟩),nilS] σ fun v5 σ=>
 sto 6 v5 v15 σ fun σ=>
 frz v5 σ fun f5 σ=>
 og (fldA 1 f5) fun v16=>
 og (lod v16 σ) fun v17=>
 og (ibin .geq v17 (iv 0)) fun v18=>
 apick v18 (
 og (fldA 1 f5) fun v20=>
 og (lod v20 σ) fun v21=>
 og (fldA 1 f5) fun v23=>
 og (lod v23 σ) fun v24=>
 og (idx 1 y1.1 v24 σ) fun v25=>
 og (lod v25 σ) fun v26=>
 og (bslR 1 [(iv 0)] 1 [(0,y1.2.2.2.1)]) fun v28=>
 app 1 v26 v28 σ fun v29 σ=>
 (lod v20 σ=some v21∧True)∧
 og (idx 1 y1.1 v21 σ) fun v30=>
 sto 1 v30 v29 σ fun σ=>
 (True)∧
 k2 (y1.1,y1.2.1,y1.2.2.1,y1.2.2.2.1,()) σ) (
 k2 (y1.1,y1.2.1,y1.2.2.1,y1.2.2.2.1,()) σ)) (
 aret y1.1 σ R)) (v8,a0,v10,(iv 0),()) σ
def x30:Sx:=O 0 (.mks 51 (Z 0) (Z 0) (O 2 (.lp [3,9,10,11] (D .lss (Z 3) (Z 2) (P 0 (.jn 935 [3,9,10,11] (D .add (Z 3) (Y 1) (.jump 0 [(Z 1),(Z 2),(Z 3),(Z 0)])) (J 6 2 4 (Q (.lodA 6 (Z 0)) (.new [(iv 0),(iv 0),(iv 0),(iv 0),(str ⟨#[]⟩),nilS] (.sto 6 (Z 0) (Z 1) (.frz 7 (Z 0) (Q (F 1 0) (M 0 (D .geq (Z 0) (Y 0) (P 0 (.ord [0,1,2,3,4,5,6,7,8,9,10,11,12] [0,0,2,0,0,16,56,120,0,256,1016,2047,4095] (Q (F 1 3) (M 0 (Q (F 1 5) (M 0 (J 1 12 0 (M 0 (Q (.bslR 1 [(iv 0)] 1 [(0,(Z 17))]) (.app 1 (Z 1) (Z 0) (.wat [⟨none,(.lod (Z 7)),(Z 6)⟩] (J 1 16 6 (.sto 1 (Z 0) (Z 1) (.wat [] (.jump 0 [(Z 17),(Z 18),(Z 19),(Z 20)])))))))))))))) (.jump 0 [(Z 8),(Z 9),(Z 10),(Z 11)]))))))))))) (.ret (Z 1)))) [(Z 1),(Z 3),(Z 0),(Y 0)])))
theorem x30_ok:okF TT Tryz.f30 1 x30=true:=by decide+kernel
theorem s_impl_kids_ok (h:s_impl_kids a0 σ R):acall TP fn_impl_kids [a0] σ R:=
 acall_okF (ρ:=[a0]) TT_ok Tryz.func30 rfl x30 x30_ok rfl h
def s_spec_TokensOf (a0:AV) (σ:AH) (R:AEnd→AH→Prop):Prop:=
 new [(iv 0),(iv 0),nilS] σ fun v2 σ=>
 og (lenStr a0) fun v7=>
 og (ibin .gtr v7 (iv 400)) fun v8=>
 apick v8 (
 og (bld [(iv 0),(iv 0),nilS] [(0,1),(1,1),(2,1)] [(0,(iv 2))]) fun v9=>
 sto 3 v2 v9 σ fun σ=>
 og (lodA 3 v2 σ) fun r2=>
 aret r2 σ R) (
 acall TP fn_spec_l2Tokens [a0] σ (onr (fun v12 σ=>
 og (aext v12 0) fun v13=>
 og (aext v12 1) fun v14=>
 og (aext v12 2) fun v15=>
 og (bld [(iv 0),(iv 0),nilS] [(0,1),(1,1),(2,1)] [(0,v14),(1,v15),(2,v13)]) fun v19=>
 sto 3 v2 v19 σ fun σ=>
 og (lodA 3 v2 σ) fun r2=>
 aret r2 σ R) (pn R)))
def x36:Sx:= .new [(iv 0),(iv 0),nilS] (Q (.lenStr (Z 1)) (D .gtr (Z 0) (Y 400) (P 0 (Q (.bld [(iv 0),(iv 0),nilS] [(0,1),(1,1),(2,1)] [(0,(Y 2))]) (.sto 3 (Z 3) (Z 0) (Q (.lodA 3 (Z 3)) (.ret (Z 0))))) (.call 64 [(Z 3)] (Q (.aext (Z 0) 0) (Q (.aext (Z 1) 1) (Q (.aext (Z 2) 2) (Q (.bld [(iv 0),(iv 0),nilS] [(0,1),(1,1),(2,1)] [(0,(Z 1)),(1,(Z 0)),(2,(Z 2))]) (.sto 3 (Z 7) (Z 0) (Q (.lodA 3 (Z 7)) (.ret (Z 0))))))))))))
theorem x36_ok:okF TT Tryz.f36 1 x36=true:=by decide+kernel
theorem s_spec_TokensOf_ok (h:s_spec_TokensOf a0 σ R):acall TP fn_spec_TokensOf [a0] σ R:=
 acall_okF (ρ:=[a0]) TT_ok Tryz.func36 rfl x36 x36_ok rfl h
def s_spec_l3Read (a0:AV) (σ:AH) (R:AEnd→AH→Prop):Prop:=
 og (bld [nilS,nilS,nilS] [(0,1),(1,1),(2,1)] []) fun v8=>
 new [nilS,nilS,nilS] σ fun v5 σ=>
 sto 3 v5 v8 σ fun σ=>
 lp (X:=Tup [0,5,6]) (fun R1 y1 σ=>
 og (lenS y1.1) fun v11=>
 og (ibin .lss y1.2.2.1 v11) fun v12=>
 apick v12 (
 og (ibin .gtr y1.2.2.1 (iv 0)) fun v16=>
 og (gval v16 true false (fldA 1 y1.2.1)) fun v18=>
 og (gval v16 true false (lod v18 σ)) fun v19=>
 og (gval v16 true false (lenS v19)) fun v20=>
 og (gval v16 true false (ibin .eql v20 (iv 0))) fun v21=>
 og (pickV v16 v21 (.val (.bool false))) fun v22=>
 apick v22 (
 aret (.tup [nilS,(iv 1),y1.2.2.1]) σ R) (
 og (idx 3 y1.1 y1.2.2.1 σ) fun v26=>
 acall TP fn_spec_l3Token [y1.2.1,v26] σ (onr (fun v27 σ=>
 og (ibin .neq v27 (iv 0)) fun v29=>
 apick v29 (
 aret (.tup [nilS,v27,y1.2.2.1]) σ R) (
 og (ibin .add y1.2.2.1 (iv 1)) fun v14=>
 R1 (y1.1,y1.2.1,v14,()) σ)) (pn R)))) (
 og (fldA 0 y1.2.1) fun v32=>
 og (lod v32 σ) fun v33=>
 og (lenS v33) fun v34=>
 og (ibin .eql v34 (iv 0)) fun v35=>
 og (gval v35 false false (fldA 1 y1.2.1)) fun v37=>
 og (gval v35 false false (lod v37 σ)) fun v38=>
 og (gval v35 false false (lenS v38)) fun v39=>
 og (gval v35 false false (ibin .gtr v39 (iv 0))) fun v40=>
 og (pickV v35 (.val (.bool true)) v40) fun v41=>
 apick v41 (
 og (lenS y1.1) fun v43=>
 aret (.tup [nilS,(iv 1),v43]) σ R) (
 og (fldA 0 y1.2.1) fun v44=>
 og (lod v44 σ) fun v45=>
 aret (.tup [v45,(iv 0),(iv 0)]) σ R))) (a0,v5,(iv 0),()) σ
def x37:Sx:=Q (.bld [nilS,nilS,nilS] [(0,1),(1,1),(2,1)] []) (.new [nilS,nilS,nilS] (.sto 3 (Z 0) (Z 1) (.lp [0,5,6] (O 0 (D .lss (Z 3) (Z 0) (P 0 (D .gtr (Z 4) (Y 0) (H 0 (F 1 4) (H 1 (L 0) (H 2 (N 0) (H 3 (B .eql (Z 0) (Y 0)) (Q (.pickV (Z 4) (Z 0) (.lit (.val (.bool false)))) (P 0 (.rets [(.lit nilS),(Y 1),(Z 10)]) (J 3 8 10 (.call 65 [(Z 10),(Z 0)] (D .neq (Z 0) (Y 0) (P 0 (.rets [(.lit nilS),(Z 1),(Z 13)]) (D .add (Z 13) (Y 1) (.jump 0 [(Z 12),(Z 13),(Z 0)]))))))))))))) (Q (F 0 3) (M 0 (O 0 (D .eql (Z 0) (Y 0) (G 0 (F 1 7) (G 1 (L 0) (G 2 (N 0) (G 3 (B .gtr (Z 0) (Y 0)) (Q (.pickV (Z 4) (.lit (.val (.bool true))) (Z 0)) (P 0 (O 11 (.rets [(.lit nilS),(Y 1),(Z 0)])) (Q (F 0 12) (M 0 (.rets [(Z 0),(Y 0),(Y 0)])))))))))))))))) [(Z 2),(Z 0),(Y 0)])))
theorem x37_ok:okF TT Tryz.f37 1 x37=true:=by decide+kernel
theorem s_spec_l3Read_ok (h:s_spec_l3Read a0 σ R):acall TP fn_spec_l3Read [a0] σ R:=
 acall_okF (ρ:=[a0]) TT_ok Tryz.func37 rfl x37 x37_ok rfl h
def s_spec_l3Fault (a0:AV) (σ:AH) (R:AEnd→AH→Prop):Prop:=
 og (lenS a0) fun v6=>
 og (ibin .lss v6 (iv 1)) fun v7=>
 og (gval v7 false false (some a0)) fun v9=>
 og (gval v7 false false (lenS v9)) fun v10=>
 og (gval v7 false false (ibin .gtr v10 (iv 80))) fun v11=>
 og (pickV v7 (.val (.bool true)) v11) fun v12=>
 apick v12 (
 aret (iv 2) σ R) (
 lp (X:=Tup [0,3]) (fun R1 y1 σ=>
 og (lenS y1.1) fun v15=>
 og (ibin .lss y1.2.1 v15) fun v16=>
 apick v16 (
 og (idx 4 y1.1 y1.2.1 σ) fun v21=>
 acall TP fn_spec_l3Bare [v21] σ (onr (fun v23 σ=>
 og (aun .not v23) fun v24=>
 apick v24 (
 aret (iv 1) σ R) (
 jn (X:=Tup [0,3,4,52]) (fun x2 σ=>
 apick x2.2.2.2.1 (
 aret (iv 3) σ R) (
 jn (X:=Tup [0,3,4,65]) (fun x3 σ=>
 apick x3.2.2.2.1 (
 aret (iv 5) σ R) (
 jn (X:=Tup [0,3,88]) (fun x4 σ=>
 apick x4.2.2.1 (
 aret (iv 3) σ R) (
 jn (X:=Tup [0,3,96]) (fun x5 σ=>
 apick x5.2.2.1 (
 aret (iv 1) σ R) (
 acall TP fn_spec_l3Deep [x5.1,x5.2.1] σ (onr (fun v99 σ=>
 og (ibin .gtr v99 (iv 12)) fun v100=>
 apick v100 (
 aret (iv 2) σ R) (
 og (ibin .add x5.2.1 (iv 1)) fun v18=>
 R1 (x5.1,v18,()) σ)) (pn R)))) fun k5=>
 og (ibin .gtr x4.2.1 (iv 0)) fun v90=>
 og (gval v90 true false (some x4.1)) fun v92=>
 og (gval v90 true false (some x4.2.1)) fun v93=>
 gpick v90 (
 acall TP fn_spec_l3Line [v92,v93] σ (onr (fun v94 σ=>
 og (aun .not v94) fun v95=>
 k5 (x4.1,x4.2.1,v95,()) σ) (pn R))) (
 k5 (x4.1,x4.2.1,(.val (.bool false)),()) σ) (False))) fun k4=>
 og (ibin .eql x3.2.1 (iv 0)) fun v67=>
 og (gval v67 true false (some x3.2.2.1)) fun v69=>
 og (gval v67 true false (anil v69)) fun v70=>
 og (gval v67 true false (fldA 1 v70)) fun v71=>
 og (gval v67 true false (lod v71 σ)) fun v72=>
 og (gval v67 true false (ibin .neq v72 (iv (-1)))) fun v73=>
 og (pickV v67 v73 (.val (.bool false))) fun v74=>
 og (gval v74 false false (some x3.2.1)) fun v76=>
 og (gval v74 false false (ibin .gtr v76 (iv 0))) fun v77=>
 og (gval v74 false false (some v77)) fun v78=>
 og (gval v78 true true (some x3.2.2.1)) fun v79=>
 og (gval v78 true true (anil v79)) fun v80=>
 og (gval v78 true true (fldA 1 v80)) fun v81=>
 og (gval v78 true true (lod v81 σ)) fun v82=>
 og (gval v78 true true (some x3.2.1)) fun v83=>
 og (gval v78 true true (ibin .sub v83 (iv 1))) fun v84=>
 gpick v78 (
 acall TP fn_spec_l1In [v82,(iv 0),v84] σ (onr (fun v85 σ=>
 og (aun .not v85) fun v86=>
 og (gval v74 false false (some v86)) fun v87=>
 og (pickV v74 (.val (.bool true)) v87) fun v88=>
 k4 (x3.1,x3.2.1,v88,()) σ) (pn R))) (
 og (gval v74 false false (some (.val (.bool false)))) fun v87=>
 og (pickV v74 (.val (.bool true)) v87) fun v88=>
 k4 (x3.1,x3.2.1,v88,()) σ) (
 og (gval v74 false false (pickV (.tup []) (.tup []) (.val (.bool false)))) fun v87=>
 og (pickV v74 (.val (.bool true)) v87) fun v88=>
 k4 (x3.1,x3.2.1,v88,()) σ))) fun k3=>
 og (anil x2.2.2.1) fun v54=>
 og (fldA 0 v54) fun v55=>
 og (lod v55 σ) fun v56=>
 og (ibin .eql v56 (iv 3)) fun v57=>
 og (gval v57 true false (some x2.2.2.1)) fun v59=>
 og (gval v57 true false (anil v59)) fun v60=>
 og (gval v57 true false (fldA 3 v60)) fun v61=>
 og (gval v57 true false (lod v61 σ)) fun v62=>
 gpick v57 (
 acall TP fn_spec_l2Sym [v62] σ (onr (fun v63 σ=>
 og (aun .not v63) fun v64=>
 k3 (x2.1,x2.2.1,x2.2.2.1,v64,()) σ) (pn R))) (
 k3 (x2.1,x2.2.1,x2.2.2.1,(.val (.bool false)),()) σ) (False))) fun k2=>
 og (anil v21) fun v26=>
 og (fldA 0 v26) fun v27=>
 og (lod v27 σ) fun v28=>
 og (ibin .eql v28 (iv 1)) fun v29=>
 og (gval v29 true false (some v21)) fun v31=>
 og (gval v29 true false (anil v31)) fun v32=>
 og (gval v29 true false (fldA 2 v32)) fun v33=>
 og (gval v29 true false (lod v33 σ)) fun v34=>
 gpick v29 (
 acall TP fn_spec_l1Num [v34] σ (onr (fun v35 σ=>
 og (aun .not v35) fun v36=>
 og (gval v36 false false (some v21)) fun v39=>
 og (gval v36 false false (anil v39)) fun v40=>
 og (gval v36 false false (fldA 0 v40)) fun v41=>
 og (gval v36 false false (lod v41 σ)) fun v42=>
 og (gval v36 false false (ibin .eql v42 (iv 2))) fun v43=>
 og (gval v36 false false (some v43)) fun v44=>
 og (gval v44 true true (some v21)) fun v45=>
 og (gval v44 true true (anil v45)) fun v46=>
 og (gval v44 true true (fldA 2 v46)) fun v47=>
 og (gval v44 true true (lod v47 σ)) fun v48=>
 gpick v44 (
 acall TP fn_spec_l1In [v48,(iv 0),(iv 1)] σ (onr (fun v49 σ=>
 og (aun .not v49) fun v50=>
 og (gval v36 false false (some v50)) fun v51=>
 og (pickV v36 (.val (.bool true)) v51) fun v52=>
 k2 (y1.1,y1.2.1,v21,v52,()) σ) (pn R))) (
 og (gval v36 false false (some (.val (.bool false)))) fun v51=>
 og (pickV v36 (.val (.bool true)) v51) fun v52=>
 k2 (y1.1,y1.2.1,v21,v52,()) σ) (
 og (gval v36 false false (pickV (.tup []) (.tup []) (.val (.bool false)))) fun v51=>
 og (pickV v36 (.val (.bool true)) v51) fun v52=>
 k2 (y1.1,y1.2.1,v21,v52,()) σ)) (pn R))) (
 og (anil v21) fun v40=>
 og (fldA 0 v40) fun v41=>
 og (lod v41 σ) fun v42=>
 og (ibin .eql v42 (iv 2)) fun v43=>
 og (gval v43 true true (some v21)) fun v45=>
 og (gval v43 true true (anil v45)) fun v46=>
 og (gval v43 true true (fldA 2 v46)) fun v47=>
 og (gval v43 true true (lod v47 σ)) fun v48=>
 gpick v43 (
 acall TP fn_spec_l1In [v48,(iv 0),(iv 1)] σ (onr (fun v49 σ=>
 og (aun .not v49) fun v50=>
 k2 (y1.1,y1.2.1,v21,v50,()) σ) (pn R))) (
 k2 (y1.1,y1.2.1,v21,(.val (.bool false)),()) σ) (
 og (pickV (.tup []) (.tup []) (.val (.bool false))) fun v51=>
 k2 (y1.1,y1.2.1,v21,v51,()) σ)) (False))) (pn R))) (
 aret (iv 0) σ R)) (a0,(iv 0),()) σ)
def x38:Sx:=O 0 (D .lss (Z 0) (Y 1) (G 0 (.ret (Z 2)) (G 1 (N 0) (G 2 (B .gtr (Z 0) (Y 80)) (Q (.pickV (Z 3) (.lit (.val (.bool true))) (Z 0)) (P 0 (.ret (Y 2)) (.lp [0,3] (O 0 (D .lss (Z 2) (Z 0) (P 0 (J 4 2 3 (.call 66 [(Z 0)] (Q (.aun .not (Z 0)) (P 0 (.ret (Y 1)) (.jn 14925 [0,3,4,52] (P 3 (.ret (Y 3)) (.jn 29853 [0,3,4,65] (P 3 (.ret (Y 5)) (.jn 59709 [0,3,88] (P 2 (.ret (Y 3)) (.jn 119421 [0,3,96] (P 2 (.ret (Y 1)) (.call 71 [(Z 0),(Z 1)] (D .gtr (Z 0) (Y 12) (P 0 (.ret (Y 2)) (D .add (Z 3) (Y 1) (.jump 0 [(Z 3),(Z 0)])))))) (D .gtr (Z 1) (Y 0) (H 0 (.ret (Z 1)) (H 1 (.ret (Z 3)) (.gpick (Z 2) (.call 70 [(Z 1),(Z 0)] (Q (.aun .not (Z 0)) (.jump 0 [(Z 5),(Z 6),(Z 0)]))) (.jump 0 [(Z 3),(Z 4),(.lit (.val (.bool false)))]) (.no))))))) (D .eql (Z 1) (Y 0) (H 0 (.ret (Z 3)) (H 1 (A 0) (H 2 (F 1 0) (H 3 (L 0) (H 4 (B .neq (Z 0) (Y (-1))) (Q (.pickV (Z 5) (Z 0) (.lit (.val (.bool false)))) (G 0 (.ret (Z 8)) (G 1 (B .gtr (Z 0) (Y 0)) (G 2 (.ret (Z 0)) (.gog (Z 0) true true (.ret (Z 12)) (.gog (Z 1) true true (A 0) (.gog (Z 2) true true (F 1 0) (.gog (Z 3) true true (L 0) (.gog (Z 4) true true (.ret (Z 15)) (.gog (Z 5) true true (B .sub (Z 0) (Y 1)) (.gpick (Z 6) (.call 68 [(Z 2),(Y 0),(Z 0)] (Q (.aun .not (Z 0)) (G 11 (.ret (Z 0)) (Q (.pickV (Z 12) (.lit (.val (.bool true))) (Z 0)) (.jump 0 [(Z 20),(Z 21),(Z 0)]))))) (G 9 (.ret (.lit (.val (.bool false)))) (Q (.pickV (Z 10) (.lit (.val (.bool true))) (Z 0)) (.jump 0 [(Z 18),(Z 19),(Z 0)]))) (G 9 (.pickV (.lit (.tup [])) (.lit (.tup [])) (.lit (.val (.bool false)))) (Q (.pickV (Z 10) (.lit (.val (.bool true))) (Z 0)) (.jump 0 [(Z 18),(Z 19),(Z 0)])))))))))))))))))))))) (Q (A 2) (Q (F 0 0) (M 0 (D .eql (Z 0) (Y 3) (H 0 (.ret (Z 6)) (H 1 (A 0) (H 2 (F 3 0) (H 3 (L 0) (.gpick (Z 4) (.call 69 [(Z 0)] (Q (.aun .not (Z 0)) (.jump 0 [(Z 10),(Z 11),(Z 12),(Z 0)]))) (.jump 0 [(Z 8),(Z 9),(Z 10),(.lit (.val (.bool false)))]) (.no)))))))))))) (Q (A 2) (Q (F 0 0) (M 0 (D .eql (Z 0) (Y 1) (H 0 (.ret (Z 6)) (H 1 (A 0) (H 2 (F 2 0) (H 3 (L 0) (.gpick (Z 4) (.call 67 [(Z 0)] (Q (.aun .not (Z 0)) (G 0 (.ret (Z 12)) (G 1 (A 0) (G 2 (F 0 0) (G 3 (L 0) (G 4 (B .eql (Z 0) (Y 2)) (G 5 (.ret (Z 0)) (.gog (Z 0) true true (.ret (Z 18)) (.gog (Z 1) true true (A 0) (.gog (Z 2) true true (F 2 0) (.gog (Z 3) true true (L 0) (.gpick (Z 4) (.call 68 [(Z 0),(Y 0),(Y 1)] (Q (.aun .not (Z 0)) (G 12 (.ret (Z 0)) (Q (.pickV (Z 13) (.lit (.val (.bool true))) (Z 0)) (.jump 0 [(Z 29),(Z 30),(Z 26),(Z 0)]))))) (G 10 (.ret (.lit (.val (.bool false)))) (Q (.pickV (Z 11) (.lit (.val (.bool true))) (Z 0)) (.jump 0 [(Z 27),(Z 28),(Z 24),(Z 0)]))) (G 10 (.pickV (.lit (.tup [])) (.lit (.tup [])) (.lit (.val (.bool false)))) (Q (.pickV (Z 11) (.lit (.val (.bool true))) (Z 0)) (.jump 0 [(Z 27),(Z 28),(Z 24),(Z 0)])))))))))))))))) (Q (A 10) (Q (F 0 0) (M 0 (D .eql (Z 0) (Y 2) (.gog (Z 0) true true (.ret (Z 14)) (.gog (Z 1) true true (A 0) (.gog (Z 2) true true (F 2 0) (.gog (Z 3) true true (L 0) (.gpick (Z 4) (.call 68 [(Z 0),(Y 0),(Y 1)] (Q (.aun .not (Z 0)) (.jump 0 [(Z 23),(Z 24),(Z 20),(Z 0)]))) (.jump 0 [(Z 21),(Z 22),(Z 18),(.lit (.val (.bool false)))]) (Q (.pickV (.lit (.tup [])) (.lit (.tup [])) (.lit (.val (.bool false)))) (.jump 0 [(Z 22),(Z 23),(Z 19),(Z 0)]))))))))))) (.no))))))))))))))) (.ret (Y 0))))) [(Z 6),(Y 0)])))))))
theorem x38_ok:okF TT Tryz.f38 1 x38=true:=by decide+kernel
theorem s_spec_l3Fault_ok (h:s_spec_l3Fault a0 σ R):acall TP fn_spec_l3Fault [a0] σ R:=
 acall_okF (ρ:=[a0]) TT_ok Tryz.func38 rfl x38 x38_ok rfl h
def s_spec_l4Expand (a0 a1 a2 a3:AV) (σ:AH) (R:AEnd→AH→Prop):Prop:=
 og (anil a0) fun v16=>
 og (fldA 0 v16) fun v17=>
 og (lod v17 σ) fun v18=>
 og (idx 4 v18 a1 σ) fun v20=>
 og (anil v20) fun v22=>
 og (fldA 0 v22) fun v23=>
 og (lod v23 σ) fun v24=>
 jn (X:=Tup [0,1,2,3,9,24,25]) (fun x1 σ=>
 apick x1.2.2.2.2.2.2.1 (
 og (anil x1.1) fun v31=>
 og (fldA 0 v31) fun v32=>
 og (lod v32 σ) fun v33=>
 acall TP fn_spec_l3Sub [v33,x1.2.1] σ (onr (fun v35 σ=>
 og (bld [(iv 0),(iv 0),(iv 0),(iv 0),(str ⟨#[]⟩),nilS] [(0,1),(1,1),(2,1),(3,1),(4,1),(5,1)] [(0,(iv 1)),(1,x1.2.2.1),(5,v35)]) fun v36=>
 acall TP fn_spec_l4Put [x1.1,v36] σ (onr (fun v37 σ=>
 aret (iv 0) σ R) (pn R))) (pn R))) (
 og (ibin .eql x1.2.2.2.2.2.1 (iv 3)) fun v39=>
 apick v39 (
 og (anil x1.2.2.2.2.1) fun v41=>
 og (fldA 3 v41) fun v42=>
 og (lod v42 σ) fun v43=>
 acall TP fn_spec_IsKeyword [v43] σ (onr (fun v44 σ=>
 apick v44 (
 aret (iv 1) σ R) (
 og (anil x1.2.2.2.2.1) fun v49=>
 og (fldA 3 v49) fun v50=>
 og (lod v50 σ) fun v51=>
 acall TP fn_spec_l4Find [x1.1,x1.2.2.2.1,v51] σ (onr (fun v52 σ=>
 og (aext v52 0) fun v53=>
 og (aext v52 1) fun v54=>
 og (aext v52 2) fun v55=>
 apick v55 (
 og (bld [(iv 0),(iv 0),(iv 0),(iv 0),(str ⟨#[]⟩),nilS] [(0,1),(1,1),(2,1),(3,1),(4,1),(5,1)] [(0,(iv 2)),(1,x1.2.2.1),(2,v53),(3,v54)]) fun v61=>
 acall TP fn_spec_l4Put [x1.1,v61] σ (onr (fun v62 σ=>
 aret (iv 0) σ R) (pn R))) (
 og (anil x1.2.2.2.2.1) fun v66=>
 og (fldA 3 v66) fun v67=>
 og (lod v67 σ) fun v68=>
 og (bld [(iv 0),(iv 0),(iv 0),(iv 0),(str ⟨#[]⟩),nilS] [(0,1),(1,1),(2,1),(3,1),(4,1),(5,1)] [(0,(iv 3)),(1,x1.2.2.1),(4,v68)]) fun v69=>
 acall TP fn_spec_l4Put [x1.1,v69] σ (onr (fun v70 σ=>
 aret (iv 0) σ R) (pn R)))) (pn R)))) (pn R))) (
 og (anil x1.1) fun v72=>
 og (fldA 0 v72) fun v73=>
 og (lod v73 σ) fun v74=>
 acall TP fn_spec_l3Parts [v74,x1.2.1] σ (onr (fun v76 σ=>
 og (lenS v76) fun v78=>
 og (ibin .eql v78 (iv 0)) fun v79=>
 apick v79 (
 aret (iv 1) σ R) (
 og (anil x1.1) fun v81=>
 og (fldA 0 v81) fun v82=>
 og (lod v82 σ) fun v83=>
 og (idx 1 v76 (iv 0) σ) fun v85=>
 og (lod v85 σ) fun v86=>
 og (idx 4 v83 v86 σ) fun v87=>
 jn (X:=Tup [0,2,3,13,14,99]) (fun x2 σ=>
 apick x2.2.2.2.2.2.1 (
 og (anil x2.2.2.2.2.1) fun v102=>
 og (fldA 3 v102) fun v103=>
 og (lod v103 σ) fun v104=>
 acall TP fn_spec_l4Form [x2.1,v104,x2.2.2.2.1,x2.2.1,x2.2.2.1] σ (onr (fun v108 σ=>
 aret v108 σ R) (pn R))) (
 og (lenS x2.2.2.2.1) fun v110=>
 og (ibin .gtr v110 (iv 4)) fun v111=>
 apick v111 (
 aret (iv 2) σ R) (
 og (bld [(iv 0),(iv 0),(iv 0),(iv 0),(str ⟨#[]⟩),nilS] [(0,1),(1,1),(2,1),(3,1),(4,1),(5,1)] [(0,(iv 9)),(1,x2.2.1)]) fun v116=>
 acall TP fn_spec_l4Put [x2.1,v116] σ (onr (fun v117 σ=>
 acall TP fn_spec_l4All [x2.1,x2.2.2.2.1,v117,x2.2.2.1] σ (onr (fun v119 σ=>
 aret v119 σ R) (pn R))) (pn R))))) fun k2=>
 og (anil v87) fun v89=>
 og (fldA 0 v89) fun v90=>
 og (lod v90 σ) fun v91=>
 og (ibin .eql v91 (iv 3)) fun v92=>
 og (gval v92 true false (some v87)) fun v94=>
 og (gval v92 true false (anil v94)) fun v95=>
 og (gval v92 true false (fldA 3 v95)) fun v96=>
 og (gval v92 true false (lod v96 σ)) fun v97=>
 gpick v92 (
 acall TP fn_spec_IsKeyword [v97] σ (onr (fun v98 σ=>
 k2 (x1.1,x1.2.2.1,x1.2.2.2.1,v76,v87,v98,()) σ) (pn R))) (
 k2 (x1.1,x1.2.2.1,x1.2.2.2.1,v76,v87,(.val (.bool false)),()) σ) (False))) (pn R))))) fun k1=>
 og (ibin .eql v24 (iv 1)) fun v26=>
 apick v26 (
 k1 (a0,a1,a2,a3,v20,v24,v26,()) σ) (
 og (ibin .eql v24 (iv 2)) fun v27=>
 k1 (a0,a1,a2,a3,v20,v24,v27,()) σ)
def x39:Sx:=Q (A 3) (Q (F 0 0) (M 0 (J 4 0 5 (Q (A 0) (Q (F 0 0) (M 0 (.jn 117 [0,1,2,3,9,24,25] (P 6 (Q (A 0) (Q (F 0 0) (M 0 (.call 73 [(Z 0),(Z 4)] (Q (.bld [(iv 0),(iv 0),(iv 0),(iv 0),(str ⟨#[]⟩),nilS] [(0,1),(1,1),(2,1),(3,1),(4,1),(5,1)] [(0,(Y 1)),(1,(Z 6)),(5,(Z 0))]) (.call 72 [(Z 5),(Z 0)] (.ret (Y 0)))))))) (D .eql (Z 5) (Y 3) (P 0 (Q (A 5) (Q (F 3 0) (M 0 (.call 74 [(Z 0)] (P 0 (.ret (Y 1)) (Q (A 9) (Q (F 3 0) (M 0 (.call 75 [(Z 8),(Z 11),(Z 0)] (Q (.aext (Z 0) 0) (Q (.aext (Z 1) 1) (Q (.aext (Z 2) 2) (P 0 (Q (.bld [(iv 0),(iv 0),(iv 0),(iv 0),(str ⟨#[]⟩),nilS] [(0,1),(1,1),(2,1),(3,1),(4,1),(5,1)] [(0,(Y 2)),(1,(Z 14)),(2,(Z 2)),(3,(Z 1))]) (.call 72 [(Z 13),(Z 0)] (.ret (Y 0)))) (Q (A 16) (Q (F 3 0) (M 0 (Q (.bld [(iv 0),(iv 0),(iv 0),(iv 0),(str ⟨#[]⟩),nilS] [(0,1),(1,1),(2,1),(3,1),(4,1),(5,1)] [(0,(Y 3)),(1,(Z 17)),(4,(Z 0))]) (.call 72 [(Z 16),(Z 0)] (.ret (Y 0)))))))))))))))))))) (Q (A 1) (Q (F 0 0) (M 0 (.call 76 [(Z 0),(Z 5)] (O 0 (D .eql (Z 0) (Y 0) (P 0 (.ret (Y 1)) (.ord [0,1,2,3,4,5,6,7,8] [0,1,3,7,0,16,48,127,255] (Q (A 7) (Q (F 0 0) (M 0 (Q (.idx 1 (Z 5) (Y 0)) (M 0 (J 4 2 0 (.jn 507 [0,2,3,13,14,99] (P 5 (Q (A 4) (Q (F 3 0) (M 0 (.call 77 [(Z 3),(Z 0),(Z 6),(Z 4),(Z 5)] (.ret (Z 0)))))) (O 3 (D .gtr (Z 0) (Y 4) (P 0 (.ret (Y 2)) (Q (.bld [(iv 0),(iv 0),(iv 0),(iv 0),(str ⟨#[]⟩),nilS] [(0,1),(1,1),(2,1),(3,1),(4,1),(5,1)] [(0,(Y 9)),(1,(Z 3))]) (.call 72 [(Z 3),(Z 0)] (.call 78 [(Z 4),(Z 7),(Z 0),(Z 6)] (.ret (Z 0))))))))) (Q (A 0) (Q (F 0 0) (M 0 (D .eql (Z 0) (Y 3) (H 0 (.ret (Z 4)) (H 1 (A 0) (H 2 (F 3 0) (H 3 (L 0) (.gpick (Z 4) (.call 74 [(Z 0)] (.jump 0 [(Z 22),(Z 24),(Z 25),(Z 17),(Z 9),(Z 0)])) (.jump 0 [(Z 21),(Z 23),(Z 24),(Z 16),(Z 8),(.lit (.val (.bool false)))]) (.no)))))))))))))))))))))))))))) (D .eql (Z 0) (Y 1) (P 0 (.jump 0 [(Z 11),(Z 10),(Z 9),(Z 8),(Z 4),(Z 1),(Z 0)]) (D .eql (Z 1) (Y 2) (.jump 0 [(Z 12),(Z 11),(Z 10),(Z 9),(Z 5),(Z 2),(Z 0)])))))))))))
theorem x39_ok:okF TT Tryz.f39 4 x39=true:=by decide+kernel
theorem s_spec_l4Expand_ok (h:s_spec_l4Expand a0 a1 a2 a3 σ R):acall TP fn_spec_l4Expand [a0,a1,a2,a3] σ R:=
 acall_okF (ρ:=[a3,a2,a1,a0]) TT_ok Tryz.func39 rfl x39 x39_ok rfl h
def s_spec_l4One (a0 a1:AV) (σ:AH) (R:AEnd→AH→Prop):Prop:=
 og (idx 6 a0 a1 σ) fun v9=>
 acall TP fn_spec_l4Bare [v9] σ (onr (fun v11 σ=>
 og (aun .not v11) fun v12=>
 apick v12 (
 aret (iv 1) σ R) (
 jn (X:=Tup [0,1,5,35]) (fun x1 σ=>
 apick x1.2.2.2.1 (
 aret (iv 3) σ R) (
 jn (X:=Tup [0,1,5,43]) (fun x2 σ=>
 apick x2.2.2.2.1 (
 aret (iv 1) σ R) (
 jn (X:=Tup [0,1,5,56]) (fun x3 σ=>
 apick x3.2.2.2.1 (
 aret (iv 5) σ R) (
 jn (X:=Tup [0,1,5]) (fun x4 σ=>
 og (anil x4.2.2.1) fun v71=>
 og (fldA 0 v71) fun v72=>
 og (lod v72 σ) fun v73=>
 og (ibin .eql v73 (iv 8)) fun v74=>
 og (gval v74 true false (some x4.2.1)) fun v76=>
 og (gval v74 true false (ibin .gtr v76 (iv 0))) fun v77=>
 og (pickV v74 v77 (.val (.bool false))) fun v78=>
 apick v78 (
 aret (iv 1) σ R) (
 acall TP fn_spec_l4Place [x4.1,x4.2.1] σ (onr (fun v81 σ=>
 og (aun .not v81) fun v82=>
 apick v82 (
 aret (iv 3) σ R) (
 aret (iv 0) σ R)) (pn R)))) fun k4=>
 og (anil x3.2.2.1) fun v58=>
 og (fldA 0 v58) fun v59=>
 og (lod v59 σ) fun v60=>
 og (ibin .eql v60 (iv 1)) fun v61=>
 apick v61 (
 og (anil x3.2.2.1) fun v63=>
 og (fldA 5 v63) fun v64=>
 og (lod v64 σ) fun v65=>
 acall TP fn_spec_l3Fault [v65] σ (onr (fun v66 σ=>
 og (ibin .neq v66 (iv 0)) fun v68=>
 apick v68 (
 aret v66 σ R) (
 k4 (x3.1,x3.2.1,x3.2.2.1,()) σ)) (pn R))) (
 k4 (x3.1,x3.2.1,x3.2.2.1,()) σ))) fun k3=>
 og (anil x2.2.2.1) fun v45=>
 og (fldA 0 v45) fun v46=>
 og (lod v46 σ) fun v47=>
 acall TP fn_spec_l4Named [v47] σ (onr (fun v48 σ=>
 og (gval v48 true false (some x2.2.2.1)) fun v50=>
 og (gval v48 true false (anil v50)) fun v51=>
 og (gval v48 true false (fldA 4 v51)) fun v52=>
 og (gval v48 true false (lod v52 σ)) fun v53=>
 gpick v48 (
 acall TP fn_spec_l4Name [v53] σ (onr (fun v54 σ=>
 og (aun .not v54) fun v55=>
 k3 (x2.1,x2.2.1,x2.2.2.1,v55,()) σ) (pn R))) (
 k3 (x2.1,x2.2.1,x2.2.2.1,(.val (.bool false)),()) σ) (False)) (pn R)))) fun k2=>
 og (ibin .gtr x1.2.1 (iv 0)) fun v37=>
 og (gval v37 true false (some x1.1)) fun v39=>
 og (gval v37 true false (some x1.2.1)) fun v40=>
 gpick v37 (
 acall TP fn_spec_l4Line [v39,v40] σ (onr (fun v41 σ=>
 og (aun .not v41) fun v42=>
 k2 (x1.1,x1.2.1,x1.2.2.1,v42,()) σ) (pn R))) (
 k2 (x1.1,x1.2.1,x1.2.2.1,(.val (.bool false)),()) σ) (False))) fun k1=>
 og (ibin .eql a1 (iv 0)) fun v14=>
 og (gval v14 true false (some v9)) fun v16=>
 og (gval v14 true false (anil v16)) fun v17=>
 og (gval v14 true false (fldA 1 v17)) fun v18=>
 og (gval v14 true false (lod v18 σ)) fun v19=>
 og (gval v14 true false (ibin .neq v19 (iv (-1)))) fun v20=>
 og (pickV v14 v20 (.val (.bool false))) fun v21=>
 og (gval v21 false false (some a1)) fun v23=>
 og (gval v21 false false (ibin .gtr v23 (iv 0))) fun v24=>
 og (gval v21 false false (some v24)) fun v25=>
 og (gval v25 true true (some v9)) fun v26=>
 og (gval v25 true true (anil v26)) fun v27=>
 og (gval v25 true true (fldA 1 v27)) fun v28=>
 og (gval v25 true true (lod v28 σ)) fun v29=>
 og (gval v25 true true (some a1)) fun v30=>
 og (gval v25 true true (ibin .sub v30 (iv 1))) fun v31=>
 gpick v25 (
 acall TP fn_spec_l1In [v29,(iv 0),v31] σ (onr (fun v32 σ=>
 og (aun .not v32) fun v33=>
 og (gval v21 false false (some v33)) fun v34=>
 og (pickV v21 (.val (.bool true)) v34) fun v35=>
 k1 (a0,a1,v9,v35,()) σ) (pn R))) (
 og (gval v21 false false (some (.val (.bool false)))) fun v34=>
 og (pickV v21 (.val (.bool true)) v34) fun v35=>
 k1 (a0,a1,v9,v35,()) σ) (
 og (gval v21 false false (pickV (.tup []) (.tup []) (.val (.bool false)))) fun v34=>
 og (pickV v21 (.val (.bool true)) v34) fun v35=>
 k1 (a0,a1,v9,v35,()) σ))) (pn R))
def x40:Sx:=J 6 1 0 (.call 79 [(Z 0)] (Q (.aun .not (Z 0)) (P 0 (.ret (Y 1)) (.jn 61 [0,1,5,35] (P 3 (.ret (Y 3)) (.jn 125 [0,1,5,43] (P 3 (.ret (Y 1)) (.jn 253 [0,1,5,56] (P 3 (.ret (Y 5)) (.jn 255 [0,1,5] (Q (A 2) (Q (F 0 0) (M 0 (D .eql (Z 0) (Y 8) (H 0 (.ret (Z 5)) (H 1 (B .gtr (Z 0) (Y 0)) (Q (.pickV (Z 2) (Z 0) (.lit (.val (.bool false)))) (P 0 (.ret (Y 1)) (.call 83 [(Z 7),(Z 8)] (Q (.aun .not (Z 0)) (P 0 (.ret (Y 3)) (.ret (Y 0))))))))))))) (Q (A 2) (Q (F 0 0) (M 0 (D .eql (Z 0) (Y 1) (P 0 (Q (A 6) (Q (F 5 0) (M 0 (.call 38 [(Z 0)] (D .neq (Z 0) (Y 0) (P 0 (.ret (Z 1)) (.jump 0 [(Z 9),(Z 10),(Z 11)]))))))) (.jump 0 [(Z 4),(Z 5),(Z 6)])))))))) (Q (A 2) (Q (F 0 0) (M 0 (.call 81 [(Z 0)] (H 0 (.ret (Z 6)) (H 1 (A 0) (H 2 (F 4 0) (H 3 (L 0) (.gpick (Z 4) (.call 82 [(Z 0)] (Q (.aun .not (Z 0)) (.jump 0 [(Z 10),(Z 11),(Z 12),(Z 0)]))) (.jump 0 [(Z 8),(Z 9),(Z 10),(.lit (.val (.bool false)))]) (.no)))))))))))) (D .gtr (Z 1) (Y 0) (H 0 (.ret (Z 1)) (H 1 (.ret (Z 3)) (.gpick (Z 2) (.call 80 [(Z 1),(Z 0)] (Q (.aun .not (Z 0)) (.jump 0 [(Z 5),(Z 6),(Z 7),(Z 0)]))) (.jump 0 [(Z 3),(Z 4),(Z 5),(.lit (.val (.bool false)))]) (.no))))))) (D .eql (Z 3) (Y 0) (H 0 (.ret (Z 3)) (H 1 (A 0) (H 2 (F 1 0) (H 3 (L 0) (H 4 (B .neq (Z 0) (Y (-1))) (Q (.pickV (Z 5) (Z 0) (.lit (.val (.bool false)))) (G 0 (.ret (Z 10)) (G 1 (B .gtr (Z 0) (Y 0)) (G 2 (.ret (Z 0)) (.gog (Z 0) true true (.ret (Z 12)) (.gog (Z 1) true true (A 0) (.gog (Z 2) true true (F 1 0) (.gog (Z 3) true true (L 0) (.gog (Z 4) true true (.ret (Z 17)) (.gog (Z 5) true true (B .sub (Z 0) (Y 1)) (.gpick (Z 6) (.call 68 [(Z 2),(Y 0),(Z 0)] (Q (.aun .not (Z 0)) (G 11 (.ret (Z 0)) (Q (.pickV (Z 12) (.lit (.val (.bool true))) (Z 0)) (.jump 0 [(Z 24),(Z 23),(Z 22),(Z 0)]))))) (G 9 (.ret (.lit (.val (.bool false)))) (Q (.pickV (Z 10) (.lit (.val (.bool true))) (Z 0)) (.jump 0 [(Z 22),(Z 21),(Z 20),(Z 0)]))) (G 9 (.pickV (.lit (.tup [])) (.lit (.tup [])) (.lit (.val (.bool false)))) (Q (.pickV (Z 10) (.lit (.val (.bool true))) (Z 0)) (.jump 0 [(Z 22),(Z 21),(Z 20),(Z 0)]))))))))))))))))))))))))
theorem x40_ok:okF TT Tryz.f40 2 x40=true:=by decide+kernel
theorem s_spec_l4One_ok (h:s_spec_l4One a0 a1 σ R):acall TP fn_spec_l4One [a0,a1] σ R:=
 acall_okF (ρ:=[a1,a0]) TT_ok Tryz.func40 rfl x40 x40_ok rfl h
def s_spec_l4Many (a0 a1:AV) (σ:AH) (R:AEnd→AH→Prop):Prop:=
 og (ibin .eql a0 (iv 4)) fun v7=>
 apick v7 (
 og (ibin .eql a1 (iv 3)) fun v9=>
 aret v9 σ R) (
 jn (X:=Tup [1,5,10]) (fun x1 σ=>
 apick x1.2.2.1 (
 og (ibin .eql x1.1 (iv 1)) fun v15=>
 aret v15 σ R) (
 og (ibin .eql x1.2.1 (iv 6)) fun v17=>
 apick v17 (
 og (ibin .geq x1.1 (iv 1)) fun v19=>
 aret v19 σ R) (
 og (ibin .eql x1.2.1 (iv 9)) fun v21=>
 apick v21 (
 og (ibin .geq x1.1 (iv 1)) fun v23=>
 og (gval v23 true false (some x1.1)) fun v25=>
 og (gval v23 true false (ibin .leq v25 (iv 4))) fun v26=>
 og (pickV v23 v26 (.val (.bool false))) fun v27=>
 aret v27 σ R) (
 og (ibin .eql x1.1 (iv 0)) fun v29=>
 aret v29 σ R)))) fun k1=>
 og (ibin .eql a0 (iv 5)) fun v11=>
 apick v11 (
 k1 (a1,a0,v11,()) σ) (
 og (ibin .eql a0 (iv 7)) fun v12=>
 apick v12 (
 k1 (a1,a0,v12,()) σ) (
 og (ibin .eql a0 (iv 8)) fun v13=>
 k1 (a1,a0,v13,()) σ)))
def x41:Sx:=D .eql (Z 1) (Y 4) (P 0 (D .eql (Z 1) (Y 3) (.ret (Z 0))) (.jn 215 [1,5,10] (P 2 (D .eql (Z 0) (Y 1) (.ret (Z 0))) (D .eql (Z 1) (Y 6) (P 0 (D .geq (Z 1) (Y 1) (.ret (Z 0))) (D .eql (Z 2) (Y 9) (P 0 (D .geq (Z 2) (Y 1) (H 0 (.ret (Z 3)) (H 1 (B .leq (Z 0) (Y 4)) (Q (.pickV (Z 2) (Z 0) (.lit (.val (.bool false)))) (.ret (Z 0)))))) (D .eql (Z 2) (Y 0) (.ret (Z 0)))))))) (D .eql (Z 2) (Y 5) (P 0 (.jump 0 [(Z 2),(Z 3),(Z 0)]) (D .eql (Z 3) (Y 7) (P 0 (.jump 0 [(Z 3),(Z 4),(Z 0)]) (D .eql (Z 4) (Y 8) (.jump 0 [(Z 4),(Z 5),(Z 0)]))))))))
theorem x41_ok:okF TT Tryz.f41 2 x41=true:=by decide+kernel
theorem s_spec_l4Many_ok (h:s_spec_l4Many a0 a1 σ R):acall TP fn_spec_l4Many [a0,a1] σ R:=
 acall_okF (ρ:=[a1,a0]) TT_ok Tryz.func41 rfl x41 x41_ok rfl h
def s_spec_l4Kids (a0 a1:AV) (σ:AH) (R:AEnd→AH→Prop):Prop:=
 bsl 1 [(iv 0)] 0 [] σ fun v7 σ=>
 lp (X:=Tup [0,1,5,6]) (fun R1 y1 σ=>
 og (lenS y1.1) fun v10=>
 og (ibin .lss y1.2.2.2.1 v10) fun v11=>
 apick v11 (
 jn (X:=Tup [0,1,5,6]) (fun x2 σ=>
 og (ibin .add x2.2.2.2.1 (iv 1)) fun v13=>
 R1 (x2.1,x2.2.1,x2.2.2.1,v13,()) σ) fun k2=>
 og (idx 6 y1.1 y1.2.2.2.1 σ) fun v16=>
 og (fldA 1 v16) fun v17=>
 og (lod v17 σ) fun v18=>
 og (ibin .eql v18 y1.2.1) fun v20=>
 apick v20 (
 bsl 1 [(iv 0)] 1 [(0,y1.2.2.2.1)] σ fun v23 σ=>
 app 1 y1.2.2.1 v23 σ fun v24 σ=>
 k2 (y1.1,y1.2.1,v24,y1.2.2.2.1,()) σ) (
 k2 (y1.1,y1.2.1,y1.2.2.1,y1.2.2.2.1,()) σ)) (
 aret y1.2.2.1 σ R)) (a0,a1,v7,(iv 0),()) σ
def x42:Sx:= .bsl 1 [(iv 0)] 0 [] (.lp [0,1,5,6] (O 0 (D .lss (Z 4) (Z 0) (P 0 (.jn 467 [0,1,5,6] (D .add (Z 3) (Y 1) (.jump 0 [(Z 1),(Z 2),(Z 3),(Z 0)])) (J 6 2 5 (Q (F 1 0) (M 0 (D .eql (Z 0) (Z 6) (P 0 (.bsl 1 [(iv 0)] 1 [(0,(Z 9))] (.app 1 (Z 9) (Z 0) (.jump 0 [(Z 8),(Z 9),(Z 0),(Z 11)]))) (.jump 0 [(Z 6),(Z 7),(Z 8),(Z 9)]))))))) (.ret (Z 4))))) [(Z 2),(Z 1),(Z 0),(Y 0)])
theorem x42_ok:okF TT Tryz.f42 2 x42=true:=by decide+kernel
theorem s_spec_l4Kids_ok (h:s_spec_l4Kids a0 a1 σ R):acall TP fn_spec_l4Kids [a0,a1] σ R:=
 acall_okF (ρ:=[a1,a0]) TT_ok Tryz.func42 rfl x42 x42_ok rfl h
def s_spec_l3Write (a0 a1:AV) (σ:AH) (R:AEnd→AH→Prop):Prop:=
 og (idx 4 a0 a1 σ) fun v11=>
 og (anil v11) fun v13=>
 og (fldA 0 v13) fun v14=>
 og (lod v14 σ) fun v15=>
 og (ibin .eql v15 (iv 1)) fun v17=>
 apick v17 (
 og (anil v11) fun v19=>
 og (fldA 2 v19) fun v20=>
 og (lod v20 σ) fun v21=>
 acall TP fn_spec_l1Digits [v21] σ (onr (fun v22 σ=>
 aret v22 σ R) (pn R))) (
 og (ibin .eql v15 (iv 2)) fun v24=>
 apick v24 (
 bsl 1 [(str ⟨#[]⟩)] 2 [(0,(.val (.string ⟨#[35,102]⟩))),(1,(.val (.string ⟨#[35,116]⟩)))] σ fun v25 σ=>
 og (anil v11) fun v27=>
 og (fldA 2 v27) fun v28=>
 og (lod v28 σ) fun v29=>
 og (idx 1 v25 v29 σ) fun v30=>
 og (lod v30 σ) fun v31=>
 aret v31 σ R) (
 og (ibin .eql v15 (iv 3)) fun v33=>
 apick v33 (
 og (anil v11) fun v35=>
 og (fldA 3 v35) fun v36=>
 og (lod v36 σ) fun v37=>
 aret v37 σ R) (
 acall TP fn_spec_l3Parts [a0,a1] σ (onr (fun v40 σ=>
 lp (X:=Tup [0,6,7,8]) (fun R1 y1 σ=>
 og (lenS y1.2.2.1) fun v43=>
 og (ibin .lss y1.2.2.2.1 v43) fun v44=>
 apick v44 (
 jn (X:=Tup [0,6,7,8]) (fun x2 σ=>
 og (idx 1 x2.2.2.1 x2.2.2.2.1 σ) fun v55=>
 og (lod v55 σ) fun v56=>
 acall TP fn_spec_l3Write [x2.1,v56] σ (onr (fun v57 σ=>
 og (sbin .add x2.2.1 v57) fun v58=>
 og (ibin .add x2.2.2.2.1 (iv 1)) fun v46=>
 R1 (x2.1,v58,x2.2.2.1,v46,()) σ) (pn R))) fun k2=>
 og (ibin .gtr y1.2.2.2.1 (iv 0)) fun v48=>
 apick v48 (
 og (sbin .add y1.2.1 (.val (.string ⟨#[32]⟩))) fun v50=>
 k2 (y1.1,v50,y1.2.2.1,y1.2.2.2.1,()) σ) (
 k2 (y1.1,y1.2.1,y1.2.2.1,y1.2.2.2.1,()) σ)) (
 og (sbin .add y1.2.1 (.val (.string ⟨#[41]⟩))) fun v60=>
 aret v60 σ R)) (a0,(.val (.string ⟨#[40]⟩)),v40,(iv 0),()) σ) (pn R)))))
def x43:Sx:=J 4 1 0 (Q (A 0) (Q (F 0 0) (M 0 (D .eql (Z 0) (Y 1) (P 0 (Q (A 4) (Q (F 2 0) (M 0 (.call 44 [(Z 0)] (.ret (Z 0)))))) (D .eql (Z 1) (Y 2) (P 0 (.bsl 1 [(str ⟨#[]⟩)] 2 [(0,(.lit (.val (.string ⟨#[35,102]⟩)))),(1,(.lit (.val (.string ⟨#[35,116]⟩))))] (Q (A 6) (Q (F 2 0) (M 0 (J 1 3 0 (M 0 (.ret (Z 0)))))))) (D .eql (Z 2) (Y 3) (P 0 (Q (A 6) (Q (F 3 0) (M 0 (.ret (Z 0))))) (.call 76 [(Z 8),(Z 7)] (.lp [0,6,7,8] (O 2 (D .lss (Z 4) (Z 0) (P 0 (.jn 16201 [0,6,7,8] (J 1 2 3 (M 0 (.call 43 [(Z 2),(Z 0)] (Q (.sbin .add (Z 4) (Z 0)) (D .add (Z 7) (Y 1) (.jump 0 [(Z 5),(Z 1),(Z 7),(Z 0)])))))) (D .gtr (Z 5) (Y 0) (P 0 (Q (.sbin .add (Z 4) (.lit (.val (.string ⟨#[32]⟩)))) (.jump 0 [(Z 4),(Z 0),(Z 6),(Z 7)])) (.jump 0 [(Z 3),(Z 4),(Z 5),(Z 6)])))) (Q (.sbin .add (Z 3) (.lit (.val (.string ⟨#[41]⟩)))) (.ret (Z 0)))))) [(Z 9),(.lit (.val (.string ⟨#[40]⟩))),(Z 0),(Y 0)])))))))))))
theorem x43_ok:okF TT Tryz.f43 2 x43=true:=by decide+kernel
theorem s_spec_l3Write_ok (h:s_spec_l3Write a0 a1 σ R):acall TP fn_spec_l3Write [a0,a1] σ R:=
 acall_okF (ρ:=[a1,a0]) TT_ok Tryz.func43 rfl x43 x43_ok rfl h
def s_spec_l1Digits (a0:AV) (σ:AH) (R:AEnd→AH→Prop):Prop:=
 og (ibin .lss a0 (iv 0)) fun v4=>
 apick v4 (
 og (aun .neg a0) fun v6=>
 acall TP fn_spec_l1Digits [v6] σ (onr (fun v7 σ=>
 og (sbin .add (.val (.string ⟨#[45]⟩)) v7) fun v8=>
 aret v8 σ R) (pn R))) (
 og (ibin .lss a0 (iv 10)) fun v10=>
 apick v10 (
 og (ibin .add (iv 48) a0) fun v12=>
 og (convI .u8 v12) fun v13=>
 bsl 1 [(.val (.int .u8 0))] 1 [(0,v13)] σ fun v14 σ=>
 aconv TT ty_Lb ty_s v14 σ fun v15 σ=>
 aret v15 σ R) (
 og (ibin .quo a0 (iv 10)) fun v17=>
 og (ibin .rem a0 (iv 10)) fun v20=>
 og (ibin .add (iv 48) v20) fun v21=>
 og (convI .u8 v21) fun v22=>
 og (bslR 1 [(.val (.int .u8 0))] 1 [(0,v22)]) fun v23=>
 og (b2s v23) fun v24=>
 acall TP fn_spec_l1Digits [v17] σ (onr (fun v18 σ=>
 (True)∧
 og (sbin .add v18 v24) fun v25=>
 aret v25 σ R) (pn R))))
def x44:Sx:=D .lss (Z 0) (Y 0) (P 0 (Q (.aun .neg (Z 1)) (.call 44 [(Z 0)] (Q (.sbin .add (.lit (.val (.string ⟨#[45]⟩))) (Z 0)) (.ret (Z 0))))) (D .lss (Z 1) (Y 10) (P 0 (D .add (Y 48) (Z 2) (Q (.conv .u8 (Z 0)) (.bsl 1 [(.val (.int .u8 0))] 1 [(0,(Z 0))] (.cnv 135 9 (Z 0) (.ret (Z 0)))))) (.ord [0,1,3,4,5,6,7,8,2,9,10] [0,1,3,0,8,24,56,120,248,511,1023] (D .quo (Z 2) (Y 10) (D .rem (Z 3) (Y 10) (D .add (Y 48) (Z 0) (Q (.conv .u8 (Z 0)) (Q (.bslR 1 [(.val (.int .u8 0))] 1 [(0,(Z 0))]) (Q (.b2s (Z 0)) (.call 44 [(Z 5)] (.wat [] (Q (.sbin .add (Z 0) (Z 1)) (.ret (Z 0)))))))))))))))
theorem x44_ok:okF TT Tryz.f44 1 x44=true:=by decide+kernel
theorem s_spec_l1Digits_ok (h:s_spec_l1Digits a0 σ R):acall TP fn_spec_l1Digits [a0] σ R:=
 acall_okF (ρ:=[a0]) TT_ok Tryz.func44 rfl x44 x44_ok rfl h
def s_impl_TokensOf (a0:AV) (σ:AH) (R:AEnd→AH→Prop):Prop:=
 new [(iv 0),(iv 0),nilS] σ fun v2 σ=>
 og (lenStr a0) fun v14=>
 og (ibin .gtr v14 (iv 400)) fun v15=>
 apick v15 (
 og (bld [(iv 0),(iv 0),nilS] [(0,1),(1,1),(2,1)] [(0,(iv 2))]) fun v16=>
 sto 3 v2 v16 σ fun σ=>
 og (lodA 3 v2 σ) fun r2=>
 aret r2 σ R) (
 bsl 3 [(iv 0),(iv 0),(str ⟨#[]⟩)] 0 [] σ fun v17 σ=>
 lp (X:=Tup [0,2,3,4]) (fun R1 y1 σ=>
 og (lenStr y1.1) fun v20=>
 og (ibin .lss y1.2.2.2.1 v20) fun v21=>
 apick v21 (
 og (idxStr y1.1 y1.2.2.2.1) fun v24=>
 og (ibin .eql v24 (.val (.int .u8 32))) fun v26=>
 og (gval v26 false false (some v24)) fun v28=>
 og (gval v26 false false (ibin .eql v28 (.val (.int .u8 10)))) fun v29=>
 og (pickV v26 (.val (.bool true)) v29) fun v30=>
 apick v30 (
 og (ibin .add y1.2.2.2.1 (iv 1)) fun v32=>
 R1 (y1.1,y1.2.1,y1.2.2.1,v32,()) σ) (
 og (ibin .eql v24 (.val (.int .u8 59))) fun v34=>
 apick v34 (
 og (slcStr y1.1 (some y1.2.2.2.1) none) fun v38=>
 acall TP fn_strings_Cut [v38,(.val (.string ⟨#[10]⟩))] σ (onr (fun v39 σ=>
 og (aext v39 0) fun v40=>
 og (aext v39 1) fun v41=>
 og (aext v39 2) fun v42=>
 og (lenStr v40) fun v45=>
 og (ibin .add y1.2.2.2.1 v45) fun v46=>
 R1 (y1.1,y1.2.1,y1.2.2.1,v46,()) σ) (pn R))) (
 og (bld [(iv 0),(iv 0),(str ⟨#[]⟩)] [(0,1),(1,1),(2,1)] []) fun v47=>
 new [(iv 0),(iv 0),(str ⟨#[]⟩)] σ fun v10 σ=>
 sto 3 v10 v47 σ fun σ=>
 jn (X:=Tup [0,2,3,4,9,10,11]) (fun x2 σ=>
 frz x2.2.2.2.2.2.1 σ fun f10 σ=>
 og (aun .not x2.2.2.2.2.2.2.1) fun v74=>
 apick v74 (
 og (bld [(iv 0),(iv 0),nilS] [(0,1),(1,1),(2,1)] [(0,(iv 5)),(1,x2.2.2.2.1)]) fun v76=>
 sto 3 x2.2.1 v76 σ fun σ=>
 og (lodA 3 x2.2.1 σ) fun r2=>
 aret r2 σ R) (
 og (lenS x2.2.2.1) fun v79=>
 og (ibin .eql v79 (iv 120)) fun v80=>
 apick v80 (
 og (bld [(iv 0),(iv 0),nilS] [(0,1),(1,1),(2,1)] [(0,(iv 2)),(1,x2.2.2.2.1)]) fun v82=>
 sto 3 x2.2.1 v82 σ fun σ=>
 og (lodA 3 x2.2.1 σ) fun r2=>
 aret r2 σ R) (
 og (lodA 3 f10 σ) fun v84=>
 bsl 3 [(iv 0),(iv 0),(str ⟨#[]⟩)] 1 [(0,v84)] σ fun v85 σ=>
 app 3 x2.2.2.1 v85 σ fun v86 σ=>
 og (ibin .add x2.2.2.2.1 x2.2.2.2.2.1) fun v89=>
 R1 (x2.1,x2.2.1,v86,v89,()) σ))) fun k2=>
 og (idxStr y1.1 y1.2.2.2.1) fun v50=>
 acall TP fn_strings_IndexByte [(.val (.string ⟨#[40,41,39]⟩)),v50] σ (onr (fun v51 σ=>
 og (ibin .geq v51 (iv 0)) fun v53=>
 apick v53 (
 og (ibin .add (iv 1) v51) fun v55=>
 og (fldA 0 v10) fun v56=>
 sto 1 v56 v55 σ fun σ=>
 k2 (y1.1,y1.2.1,y1.2.2.1,y1.2.2.2.1,(iv 1),v10,(.val (.bool true)),()) σ) (
 og (slcStr y1.1 (some y1.2.2.2.1) none) fun v59=>
 og (sbin .add v59 (.val (.string ⟨#[32]⟩))) fun v60=>
 acall TP fn_strings_IndexAny [v60,(.val (.string ⟨#[32,10,40,41,39,59]⟩))] σ (onr (fun v61 σ=>
 og (ibin .add y1.2.2.2.1 v61) fun v67=>
 og (slcStr y1.1 (some y1.2.2.2.1) (some v67)) fun v68=>
 acall TP fn_impl_wordToken [v68] σ (onr (fun v69 σ=>
 og (aext v69 0) fun v70=>
 og (aext v69 1) fun v71=>
 sto 3 v10 v70 σ fun σ=>
 k2 (y1.1,y1.2.1,y1.2.2.1,y1.2.2.2.1,v61,v10,v71,()) σ) (pn R))) (pn R)))) (pn R))))) (
 og (bld [(iv 0),(iv 0),nilS] [(0,1),(1,1),(2,1)] [(2,y1.2.2.1)]) fun v91=>
 sto 3 y1.2.1 v91 σ fun σ=>
 og (lodA 3 y1.2.1 σ) fun r2=>
 aret r2 σ R)) (a0,v2,v17,(iv 0),()) σ)
def x45:Sx:= .new [(iv 0),(iv 0),nilS] (Q (.lenStr (Z 1)) (D .gtr (Z 0) (Y 400) (P 0 (Q (.bld [(iv 0),(iv 0),nilS] [(0,1),(1,1),(2,1)] [(0,(Y 2))]) (.sto 3 (Z 3) (Z 0) (Q (.lodA 3 (Z 3)) (.ret (Z 0))))) (.bsl 3 [(iv 0),(iv 0),(str ⟨#[]⟩)] 0 [] (.lp [0,2,3,4] (Q (.lenStr (Z 0)) (D .lss (Z 4) (Z 0) (P 0 (Q (.idxStr (Z 2) (Z 5)) (D .eql (Z 0) (.lit (.val (.int .u8 32))) (G 0 (.ret (Z 1)) (G 1 (B .eql (Z 0) (.lit (.val (.int .u8 10)))) (Q (.pickV (Z 2) (.lit (.val (.bool true))) (Z 0)) (P 0 (D .add (Z 10) (Y 1) (.jump 0 [(Z 8),(Z 9),(Z 10),(Z 0)])) (D .eql (Z 4) (.lit (.val (.int .u8 59))) (P 0 (Q (.slcStr (Z 8) (some (Z 11)) none) (.call 84 [(Z 0),(.lit (.val (.string ⟨#[10]⟩)))] (Q (.aext (Z 0) 0) (Q (.aext (Z 1) 1) (Q (.aext (Z 2) 2) (Q (.lenStr (Z 2)) (D .add (Z 17) (Z 0) (.jump 0 [(Z 15),(Z 16),(Z 17),(Z 0)])))))))) (Q (.bld [(iv 0),(iv 0),(str ⟨#[]⟩)] [(0,1),(1,1),(2,1)] []) (.new [(iv 0),(iv 0),(str ⟨#[]⟩)] (.sto 3 (Z 0) (Z 1) (.jn 7831 [0,2,3,4,9,10,11] (.frz 1 (Z 5) (Q (.aun .not (Z 7)) (P 0 (Q (.bld [(iv 0),(iv 0),nilS] [(0,1),(1,1),(2,1)] [(0,(Y 5)),(1,(Z 5))]) (.sto 3 (Z 4) (Z 0) (Q (.lodA 3 (Z 4)) (.ret (Z 0))))) (O 4 (D .eql (Z 0) (Y 120) (P 0 (Q (.bld [(iv 0),(iv 0),nilS] [(0,1),(1,1),(2,1)] [(0,(Y 2)),(1,(Z 7))]) (.sto 3 (Z 6) (Z 0) (Q (.lodA 3 (Z 6)) (.ret (Z 0))))) (Q (.lodA 3 (Z 3)) (.bsl 3 [(iv 0),(iv 0),(str ⟨#[]⟩)] 1 [(0,(Z 0))] (.app 3 (Z 8) (Z 0) (D .add (Z 10) (Z 11) (.jump 0 [(Z 8),(Z 9),(Z 1),(Z 0)]))))))))))) (Q (.idxStr (Z 10) (Z 13)) (.call 85 [(.lit (.val (.string ⟨#[40,41,39]⟩))),(Z 0)] (D .geq (Z 0) (Y 0) (P 0 (D .add (Y 1) (Z 1) (Q (F 0 4) (.sto 1 (Z 0) (Z 1) (.jump 0 [(Z 15),(Z 16),(Z 17),(Z 18),(Y 1),(Z 5),(.lit (.val (.bool true)))])))) (Q (.slcStr (Z 13) (some (Z 16)) none) (Q (.sbin .add (Z 0) (.lit (.val (.string ⟨#[32]⟩)))) (.call 86 [(Z 0),(.lit (.val (.string ⟨#[32,10,40,41,39,59]⟩)))] (D .add (Z 19) (Z 0) (Q (.slcStr (Z 17) (some (Z 20)) (some (Z 0))) (.call 87 [(Z 0)] (Q (.aext (Z 0) 0) (Q (.aext (Z 1) 1) (.sto 3 (Z 11) (Z 1) (.jump 0 [(Z 21),(Z 22),(Z 23),(Z 24),(Z 5),(Z 11),(Z 0)])))))))))))))))))))))))))) (Q (.bld [(iv 0),(iv 0),nilS] [(0,1),(1,1),(2,1)] [(2,(Z 4))]) (.sto 3 (Z 4) (Z 0) (Q (.lodA 3 (Z 4)) (.ret (Z 0)))))))) [(Z 4),(Z 3),(Z 0),(Y 0)])))))
theorem x45_ok:okF TT Tryz.f45 1 x45=true:=by decide+kernel
theorem s_impl_TokensOf_ok (h:s_impl_TokensOf a0 σ R):acall TP fn_impl_TokensOf [a0] σ R:=
 acall_okF (ρ:=[a0]) TT_ok Tryz.func45 rfl x45 x45_ok rfl h
def s_impl_dataReader_token (a0 a1:AV) (σ:AH) (R:AEnd→AH→Prop):Prop:=
 abox a1 σ fun v3 σ=>
 frz v3 σ fun f3 σ=>
 og (anil a0) fun v9=>
 og (fldA 0 v9) fun v10=>
 og (lod v10 σ) fun v11=>
 og (lenS v11) fun v12=>
 jn (X:=Tup []) (fun x1 σ=>
 aret (iv 0) σ R) fun k1=>
 og (fldA 0 f3) fun v13=>
 og (lod v13 σ) fun v14=>
 og (ibin .eql v14 (iv 1)) fun v30=>
 apick v30 (
 og (bld [(iv 0),(iv 0),(iv 0),(str ⟨#[]⟩)] [(0,1),(1,1),(2,1),(3,1)] [(0,(iv 4))]) fun v32=>
 acall TP fn_impl_dataReader_add [a0,v32,(iv 0)] σ (onr (fun v33 σ=>
 og (aun .not v33) fun v34=>
 apick v34 (
 aret (iv 2) σ R) (
 og (anil a0) fun v37=>
 og (fldA 1 v37) fun v38=>
 og (lod v38 σ) fun v39=>
 bsl 1 [(iv 0)] 1 [(0,v12)] σ fun v41 σ=>
 app 1 v39 v41 σ fun v42 σ=>
 og (anil a0) fun v43=>
 og (fldA 1 v43) fun v44=>
 sto 1 v44 v42 σ fun σ=>
 k1 (()) σ)) (pn R))) (
 og (ibin .eql v14 (iv 2)) fun v46=>
 apick v46 (
 acall TP fn_impl_dataReader_top [a0] σ (onr (fun v49 σ=>
 og (aext v49 0) fun v50=>
 og (aext v49 1) fun v51=>
 og (ibin .lss v50 (iv 0)) fun v53=>
 og (gval v53 false false (some v51)) fun v55=>
 og (pickV v53 (.val (.bool true)) v55) fun v56=>
 apick v56 (
 aret (iv 1) σ R) (
 og (anil a0) fun v59=>
 og (fldA 1 v59) fun v60=>
 og (lod v60 σ) fun v61=>
 og (anil a0) fun v63=>
 og (fldA 1 v63) fun v64=>
 og (lod v64 σ) fun v65=>
 og (lenS v65) fun v66=>
 og (ibin .sub v66 (iv 1)) fun v67=>
 og (slc 1 v61 none (some v67) none σ) fun v68=>
 og (anil a0) fun v69=>
 og (fldA 1 v69) fun v70=>
 sto 1 v70 v68 σ fun σ=>
 (True)∧
 acall TP fn_impl_dataReader_whole [a0] σ (onr (fun v72 σ=>
 k1 (()) σ) (pn R)))) (pn R))) (
 og (ibin .eql v14 (iv 3)) fun v74=>
 apick v74 (
 og (bld [(iv 0),(iv 0),(iv 0),(str ⟨#[]⟩)] [(0,1),(1,1),(2,1),(3,1)] [(0,(iv 4))]) fun v76=>
 acall TP fn_impl_dataReader_add [a0,v76,(iv 1)] σ (onr (fun v77 σ=>
 og (aun .not v77) fun v78=>
 apick v78 (
 aret (iv 2) σ R) (
 og (anil a0) fun v81=>
 og (fldA 1 v81) fun v82=>
 og (lod v82 σ) fun v83=>
 og (ibin .sub (iv (-1)) v12) fun v85=>
 bsl 1 [(iv 0)] 1 [(0,v85)] σ fun v86 σ=>
 app 1 v83 v86 σ fun v87 σ=>
 og (anil a0) fun v88=>
 og (fldA 1 v88) fun v89=>
 sto 1 v89 v87 σ fun σ=>
 og (anil a0) fun v92=>
 og (fldA 0 v92) fun v93=>
 og (lod v93 σ) fun v94=>
 og (bld [(iv 0),(iv 0),(iv 0),(str ⟨#[]⟩)] [(0,1),(1,1),(2,1),(3,1)] [(0,(iv 3)),(1,v12),(3,(.val (.string ⟨#[113,117,111,116,101]⟩)))]) fun v96=>
 bsl 4 [(iv 0),(iv 0),(iv 0),(str ⟨#[]⟩)] 1 [(0,v96)] σ fun v97 σ=>
 app 4 v94 v97 σ fun v98 σ=>
 og (anil a0) fun v99=>
 og (fldA 0 v99) fun v100=>
 sto 1 v100 v98 σ fun σ=>
 k1 (()) σ)) (pn R))) (
 og (fldA 0 f3) fun v16=>
 og (lod v16 σ) fun v17=>
 og (ibin .sub v17 (iv 4)) fun v18=>
 og (ibin .add v18 (iv 1)) fun v19=>
 og (fldA 1 f3) fun v20=>
 og (lod v20 σ) fun v21=>
 og (fldA 2 f3) fun v22=>
 og (lod v22 σ) fun v23=>
 og (bld [(iv 0),(iv 0),(iv 0),(str ⟨#[]⟩)] [(0,1),(1,1),(2,1),(3,1)] [(0,v19),(2,v21),(3,v23)]) fun v24=>
 acall TP fn_impl_dataReader_add [a0,v24,(iv 0)] σ (onr (fun v25 σ=>
 og (aun .not v25) fun v26=>
 apick v26 (
 aret (iv 2) σ R) (
 acall TP fn_impl_dataReader_whole [a0] σ (onr (fun v28 σ=>
 k1 (()) σ) (pn R)))) (pn R)))))
def x46:Sx:= .box (Z 0) (.frz 2 (Z 0) (Q (A 3) (Q (F 0 0) (M 0 (O 0 (.jn 15 [] (.ret (Y 0)) (Q (F 0 4) (M 0 (D .eql (Z 0) (Y 1) (P 0 (Q (.bld [(iv 0),(iv 0),(iv 0),(str ⟨#[]⟩)] [(0,1),(1,1),(2,1),(3,1)] [(0,(Y 4))]) (.call 88 [(Z 11),(Z 0),(Y 0)] (Q (.aun .not (Z 0)) (P 0 (.ret (Y 2)) (Q (A 13) (Q (F 1 0) (M 0 (.bsl 1 [(iv 0)] 1 [(0,(Z 9))] (.app 1 (Z 1) (Z 0) (Q (A 18) (Q (F 1 0) (.sto 1 (Z 0) (Z 2) (.jump 0 []))))))))))))) (D .eql (Z 1) (Y 2) (P 0 (.call 89 [(Z 11)] (Q (.aext (Z 0) 0) (Q (.aext (Z 1) 1) (D .lss (Z 1) (Y 0) (G 0 (.ret (Z 1)) (Q (.pickV (Z 1) (.lit (.val (.bool true))) (Z 0)) (P 0 (.ret (Y 1)) (.ord [0,1,2,3,4,5,6,7,8,9,10,11,12,13,14] [0,0,2,6,14,0,32,96,224,480,992,2046,4095,8191,16383] (Q (A 17) (Q (F 1 0) (M 0 (Q (A 20) (Q (F 1 0) (M 0 (O 0 (D .sub (Z 0) (Y 1) (Q (.slc 1 (Z 5) none (some (Z 0)) none) (Q (A 26) (Q (F 1 0) (.sto 1 (Z 0) (Z 2) (.wat [] (.call 90 [(Z 28)] (.jump 0 []))))))))))))))))))))))) (D .eql (Z 2) (Y 3) (P 0 (Q (.bld [(iv 0),(iv 0),(iv 0),(str ⟨#[]⟩)] [(0,1),(1,1),(2,1),(3,1)] [(0,(Y 4))]) (.call 88 [(Z 13),(Z 0),(Y 1)] (Q (.aun .not (Z 0)) (P 0 (.ret (Y 2)) (Q (A 15) (Q (F 1 0) (M 0 (D .sub (Y (-1)) (Z 11) (.bsl 1 [(iv 0)] 1 [(0,(Z 0))] (.app 1 (Z 2) (Z 0) (Q (A 21) (Q (F 1 0) (.sto 1 (Z 0) (Z 2) (Q (A 23) (Q (F 0 0) (M 0 (Q (.bld [(iv 0),(iv 0),(iv 0),(str ⟨#[]⟩)] [(0,1),(1,1),(2,1),(3,1)] [(0,(Y 3)),(1,(Z 19)),(3,(.lit (.val (.string ⟨#[113,117,111,116,101]⟩))))]) (.bsl 4 [(iv 0),(iv 0),(iv 0),(str ⟨#[]⟩)] 1 [(0,(Z 0))] (.app 4 (Z 2) (Z 0) (Q (A 29) (Q (F 0 0) (.sto 1 (Z 0) (Z 2) (.jump 0 []))))))))))))))))))))))) (Q (F 0 9) (M 0 (D .sub (Z 0) (Y 4) (D .add (Z 0) (Y 1) (Q (F 1 13) (M 0 (Q (F 2 15) (M 0 (Q (.bld [(iv 0),(iv 0),(iv 0),(str ⟨#[]⟩)] [(0,1),(1,1),(2,1),(3,1)] [(0,(Z 4)),(2,(Z 2)),(3,(Z 0))]) (.call 88 [(Z 21),(Z 0),(Y 0)] (Q (.aun .not (Z 0)) (P 0 (.ret (Y 2)) (.call 90 [(Z 23)] (.jump 0 []))))))))))))))))))))))))))))
theorem x46_ok:okF TT Tryz.f46 2 x46=true:=by decide+kernel
theorem s_impl_dataReader_token_ok (h:s_impl_dataReader_token a0 a1 σ R):acall TP fn_impl_dataReader_token [a0,a1] σ R:=
 acall_okF (ρ:=[a1,a0]) TT_ok Tryz.func46 rfl x46 x46_ok rfl h
def s_impl_DataFault (a0:AV) (σ:AH) (R:AEnd→AH→Prop):Prop:=
 og (lenS a0) fun v6=>
 acall TP fn_impl_in [v6,(iv 1),(iv 80)] σ (onr (fun v7 σ=>
 og (aun .not v7) fun v8=>
 apick v8 (
 aret (iv 2) σ R) (
 og (lenS a0) fun v10=>
 lp (X:=Tup [0,10,11]) (fun R1 y1 σ=>
 og (ibin .lss y1.2.2.1 y1.2.1) fun v12=>
 apick v12 (
 acall TP fn_impl_datumFault [y1.1,y1.2.2.1] σ (onr (fun v16 σ=>
 og (ibin .neq v16 (iv 0)) fun v18=>
 apick v18 (
 aret v16 σ R) (
 og (ibin .add y1.2.2.1 (iv 1)) fun v20=>
 R1 (y1.1,y1.2.1,v20,()) σ)) (pn R))) (
 aret (iv 0) σ R)) (a0,v10,(iv 0),()) σ)) (pn R))
def x47:Sx:=O 0 (.call 49 [(Z 0),(Y 1),(Y 80)] (Q (.aun .not (Z 0)) (P 0 (.ret (Y 2)) (O 3 (.lp [0,10,11] (D .lss (Z 2) (Z 1) (P 0 (.call 91 [(Z 1),(Z 3)] (D .neq (Z 0) (Y 0) (P 0 (.ret (Z 1)) (D .add (Z 5) (Y 1) (.jump 0 [(Z 4),(Z 5),(Z 0)]))))) (.ret (Y 0)))) [(Z 4),(Z 0),(Y 0)])))))
theorem x47_ok:okF TT Tryz.f47 1 x47=true:=by decide+kernel
theorem s_impl_DataFault_ok (h:s_impl_DataFault a0 σ R):acall TP fn_impl_DataFault [a0] σ R:=
 acall_okF (ρ:=[a0]) TT_ok Tryz.func47 rfl x47 x47_ok rfl h
def s_impl_expanded (a0 pa pb:AV) (σ:AH) (R:AEnd→AH→Prop):Prop:=
 og (bld [nilS,nilS] [(0,1),(1,1)] [(0,a0)]) fun v7=>
 abox v7 σ fun v8 σ=>
 acall TP fn_impl_expander_form [v8,(iv 0),(iv (-1)),nilS] σ (onr (fun v10 σ=>
 frz v8 σ fun f8 σ=>
 og (anil f8) fun v12=>
 og (fldA 1 v12) fun v13=>
 og (lod v13 σ) fun v14=>
 og (lenS v14) fun v15=>
 og (ibin .gtr v15 (iv 160)) fun v16=>
 acall TP fn_impl_failIf [v16,(iv 2)] σ (onr (fun v17 σ=>
 og (anil f8) fun v19=>
 og (fldA 1 v19) fun v20=>
 og (lod v20 σ) fun v21=>
 sto 1 pa v21 σ fun σ=>
 sto 1 pb (iv 0) σ fun σ=>
 og (lod pa σ) fun r2=>
 og (lod pb σ) fun r3=>
 aret (.tup [r2,r3]) σ R) (pn R))) (pn R))
def x48:Sx:=Q (.bld [nilS,nilS] [(0,1),(1,1)] [(0,(Z 2))]) (.box (Z 0) (.call 93 [(Z 0),(Y 0),(Y (-1)),(.lit nilS)] (.frz 4 (Z 1) (Q (A 0) (Q (F 1 0) (M 0 (O 0 (D .gtr (Z 0) (Y 160) (.call 94 [(Z 0),(Y 2)] (Q (A 6) (Q (F 1 0) (M 0 (.sto 1 (Z 14) (Z 0) (.sto 1 (Z 13) (Y 0) (M 14 (M 14 (.rets [(Z 1),(Z 0)])))))))))))))))))
theorem s_impl_expanded_ok {a0:AV} {σ:AH} {R:AEnd→AH→Prop} {tF:TypeId} (hc:Catch TP fn_impl_expanded_1 tF) (h:∀φa φb,σ φa=none→(σ.set φa ⟨0,1,[[.val (.slice none 0 0)]]⟩) φb=none→s_impl_expanded a0 (.ptr φa 0 0 0) (.ptr φb 0 0 0) ((σ.set φa ⟨0,1,[[.val (.slice none 0 0)]]⟩).set φb ⟨0,1,[[.val (.int .i64 0)]]⟩) (RD φa φb tF R)):acall TP fn_impl_expanded [a0] σ R:=by
 refine acall_okD (tA:=33) (tB:=2) (dA:=2) (dB:=3) (dF:=5) (g:=92) (nA:=(TT 33).getD default) (nB:=(TT 2).getD default) TT_ok Tryz.func48 rfl x48 rfl ⟨rfl,rfl,rfl⟩ ⟨rfl,rfl,rfl⟩ ⟨rfl,rfl,rfl⟩ ⟨rfl,rfl,rfl⟩ (by kernel_rfl) (by kernel_rfl) (by kernel_rfl) (by kernel_rfl) (by kernel_rfl) ⟨by kernel_rfl,by kernel_rfl⟩ ⟨by kernel_rfl,by kernel_rfl⟩ ⟨by decide,by decide,by decide,by decide,by decide,by decide⟩ hc (by kernel_rfl) (by kernel_rfl) h
def s_impl_in (a0 a1 a2:AV) (σ:AH) (R:AEnd→AH→Prop):Prop:=
 og (ibin .leq a1 a0) fun v9=>
 og (gval v9 true false (some a0)) fun v11=>
 og (gval v9 true false (some a2)) fun v12=>
 og (gval v9 true false (ibin .leq v11 v12)) fun v13=>
 og (pickV v9 v13 (.val (.bool false))) fun v14=>
 aret v14 σ R
def x49:Sx:=D .leq (Z 1) (Z 2) (H 0 (.ret (Z 3)) (H 1 (.ret (Z 2)) (H 2 (B .leq (Z 1) (Z 0)) (Q (.pickV (Z 3) (Z 0) (.lit (.val (.bool false)))) (.ret (Z 0))))))
theorem x49_ok:okF TT Tryz.f49 3 x49=true:=by decide+kernel
theorem s_impl_in_ok (h:s_impl_in a0 a1 a2 σ R):acall TP fn_impl_in [a0,a1,a2] σ R:=
 acall_okF (ρ:=[a2,a1,a0]) TT_ok Tryz.func49 rfl x49 x49_ok rfl h
def s_impl_oneCoreFault (a0 a1:AV) (σ:AH) (R:AEnd→AH→Prop):Prop:=
 abox a0 σ fun v2 σ=>
 frz v2 σ fun f2 σ=>
 og (lod f2 σ) fun v8=>
 og (idx 6 v8 a1 σ) fun v10=>
 og (lodA 6 v10 σ) fun v11=>
 new [(iv 0),(iv 0),(iv 0),(iv 0),(str ⟨#[]⟩),nilS] σ fun v5 σ=>
 sto 6 v5 v11 σ fun σ=>
 frz v5 σ fun f5 σ=>
 og (lodA 6 f5 σ) fun v13=>
 acall TP fn_impl_coreForm [v13] σ (onr (fun v14 σ=>
 og (aun .not v14) fun v15=>
 apick v15 (
 aret (iv 1) σ R) (
 jn (X:=Tup [1,2,5,16]) (fun x1 σ=>
 apick x1.2.2.2.1 (
 aret (iv 3) σ R) (
 jn (X:=Tup [1,2,5,36]) (fun x2 σ=>
 apick x2.2.2.2.1 (
 aret (iv 1) σ R) (
 jn (X:=Tup [1,2,5,48]) (fun x3 σ=>
 apick x3.2.2.2.1 (
 aret (iv 5) σ R) (
 jn (X:=Tup []) (fun x4 σ=>
 aret (iv 0) σ R) fun k4=>
 og (fldA 0 x3.2.2.1) fun v58=>
 og (lod v58 σ) fun v59=>
 og (ibin .eql v59 (iv 1)) fun v61=>
 apick v61 (
 og (fldA 5 x3.2.2.1) fun v62=>
 og (lod v62 σ) fun v63=>
 acall TP fn_impl_DataFault [v63] σ (onr (fun v64 σ=>
 aret v64 σ R) (pn R))) (
 og (ibin .eql v59 (iv 8)) fun v66=>
 apick v66 (
 og (ibin .gtr x3.1 (iv 0)) fun v68=>
 apick v68 (
 aret (iv 1) σ R) (
 k4 (()) σ)) (
 og (ibin .eql v59 (iv 5)) fun v70=>
 apick v70 (
 og (fldA 2 x3.2.2.1) fun v71=>
 og (lod v71 σ) fun v72=>
 acall TP fn_impl_in [v72,(iv 0),(iv 3)] σ (onr (fun v73 σ=>
 og (aun .not v73) fun v74=>
 apick v74 (
 aret (iv 3) σ R) (
 k4 (()) σ)) (pn R))) (
 og (ibin .eql v59 (iv 2)) fun v76=>
 apick v76 (
 og (lod x3.2.1 σ) fun v78=>
 og (fldA 2 x3.2.2.1) fun v80=>
 og (lod v80 σ) fun v81=>
 acall TP fn_impl_lambdaOut [v78,x3.1,v81] σ (onr (fun v82 σ=>
 og (aext v82 0) fun v83=>
 og (aext v82 1) fun v84=>
 new [(iv 0),(iv 0),(iv 0),(iv 0),(str ⟨#[]⟩),nilS] σ fun v6 σ=>
 sto 6 v6 v83 σ fun σ=>
 jn (X:=Tup [100]) (fun x5 σ=>
 apick x5.1 (
 aret (iv 3) σ R) (
 k4 (()) σ)) fun k5=>
 frz v6 σ fun f6 σ=>
 og (fldA 2 x3.2.2.1) fun v85=>
 og (lod v85 σ) fun v86=>
 og (ibin .lss v86 (iv 0)) fun v87=>
 og (gval v87 false false (some v84)) fun v89=>
 og (gval v87 false false (aun .not v89)) fun v90=>
 og (pickV v87 (.val (.bool true)) v90) fun v91=>
 og (gval v91 false false (fldA 3 x3.2.2.1)) fun v93=>
 og (gval v91 false false (lod v93 σ)) fun v94=>
 og (gval v91 false false (fldA 2 f6)) fun v95=>
 og (gval v91 false false (lod v95 σ)) fun v96=>
 og (gval v91 false false (ibin .sub v96 (iv 1))) fun v97=>
 gpick v91 (
 k5 ((.val (.bool true)),()) σ) (
 acall TP fn_impl_in [v94,(iv 0),v97] σ (onr (fun v98 σ=>
 og (aun .not v98) fun v99=>
 k5 (v99,()) σ) (pn R))) (False)) (pn R))) (
 k4 (()) σ)))))) fun k3=>
 og (fldA 0 x2.2.2.1) fun v49=>
 og (lod v49 σ) fun v50=>
 acall TP fn_impl_named [v50] σ (onr (fun v51 σ=>
 og (gval v51 true false (fldA 4 x2.2.2.1)) fun v53=>
 og (gval v51 true false (lod v53 σ)) fun v54=>
 gpick v51 (
 acall TP fn_impl_isName [v54] σ (onr (fun v55 σ=>
 og (aun .not v55) fun v56=>
 k3 (x2.1,x2.2.1,x2.2.2.1,v56,()) σ) (pn R))) (
 k3 (x2.1,x2.2.1,x2.2.2.1,(.val (.bool false)),()) σ) (False)) (pn R)))) fun k2=>
 og (ibin .gtr x1.1 (iv 0)) fun v38=>
 gpick v38 (
 og (ibin .sub x1.1 (iv 1)) fun v42=>
 og (fldA 1 x1.2.2.1) fun v43=>
 og (lod v43 σ) fun v44=>
 acall TP fn_impl_isUp [(.clo (.func fn_impl_oneCoreFault_1) [] [x1.2.1]),v42,v44] σ (onr (fun v45 σ=>
 og (aun .not v45) fun v46=>
 k2 (x1.1,x1.2.1,x1.2.2.1,v46,()) σ) (pn R))) (
 k2 (x1.1,x1.2.1,x1.2.2.1,(.val (.bool false)),()) σ) (False))) fun k1=>
 og (ibin .eql a1 (iv 0)) fun v18=>
 og (gval v18 true false (fldA 1 f5)) fun v20=>
 og (gval v18 true false (lod v20 σ)) fun v21=>
 og (gval v18 true false (ibin .neq v21 (iv (-1)))) fun v22=>
 og (pickV v18 v22 (.val (.bool false))) fun v23=>
 og (gval v23 false false (some a1)) fun v25=>
 og (gval v23 false false (ibin .gtr v25 (iv 0))) fun v26=>
 og (gval v23 false false (some v26)) fun v27=>
 og (gval v27 true true (fldA 1 f5)) fun v28=>
 og (gval v27 true true (lod v28 σ)) fun v29=>
 og (gval v27 true true (some a1)) fun v30=>
 og (gval v27 true true (ibin .sub v30 (iv 1))) fun v31=>
 gpick v27 (
 acall TP fn_impl_in [v29,(iv 0),v31] σ (onr (fun v32 σ=>
 og (aun .not v32) fun v33=>
 og (gval v23 false false (some v33)) fun v34=>
 og (pickV v23 (.val (.bool true)) v34) fun v35=>
 k1 (a1,f2,f5,v35,()) σ) (pn R))) (
 og (gval v23 false false (some (.val (.bool false)))) fun v34=>
 og (pickV v23 (.val (.bool true)) v34) fun v35=>
 k1 (a1,f2,f5,v35,()) σ) (
 og (gval v23 false false (pickV (.tup []) (.tup []) (.val (.bool false)))) fun v34=>
 og (pickV v23 (.val (.bool true)) v34) fun v35=>
 k1 (a1,f2,f5,v35,()) σ))) (pn R))
def x50:Sx:= .box (Z 1) (.frz 2 (Z 0) (M 0 (J 6 0 3 (Q (.lodA 6 (Z 0)) (.new [(iv 0),(iv 0),(iv 0),(iv 0),(str ⟨#[]⟩),nilS] (.sto 6 (Z 0) (Z 1) (.frz 7 (Z 0) (Q (.lodA 6 (Z 0)) (.call 95 [(Z 0)] (Q (.aun .not (Z 0)) (P 0 (.ret (Y 1)) (.jn 231 [1,2,5,16] (P 3 (.ret (Y 3)) (.jn 927 [1,2,5,36] (P 3 (.ret (Y 1)) (.jn 3711 [1,2,5,48] (P 3 (.ret (Y 5)) (.jn 31 [] (.ret (Y 0)) (Q (F 0 2) (M 0 (D .eql (Z 0) (Y 1) (P 0 (Q (F 5 5) (M 0 (.call 47 [(Z 0)] (.ret (Z 0))))) (D .eql (Z 1) (Y 8) (P 0 (D .gtr (Z 4) (Y 0) (P 0 (.ret (Y 1)) (.jump 0 []))) (D .eql (Z 2) (Y 5) (P 0 (Q (F 2 7) (M 0 (.call 49 [(Z 0),(Y 0),(Y 3)] (Q (.aun .not (Z 0)) (P 0 (.ret (Y 3)) (.jump 0 [])))))) (D .eql (Z 3) (Y 2) (P 0 (M 7 (Q (F 2 9) (M 0 (.call 100 [(Z 2),(Z 9),(Z 0)] (Q (.aext (Z 0) 0) (Q (.aext (Z 1) 1) (.new [(iv 0),(iv 0),(iv 0),(iv 0),(str ⟨#[]⟩),nilS] (.sto 6 (Z 0) (Z 2) (.jn 125947 [100] (P 0 (.ret (Y 3)) (.jump 0 [])) (.frz 16 (Z 0) (Q (F 2 16) (M 0 (D .lss (Z 0) (Y 0) (G 0 (.ret (Z 5)) (G 1 (.aun .not (Z 0)) (Q (.pickV (Z 2) (.lit (.val (.bool true))) (Z 0)) (G 0 (F 3 22) (G 1 (L 0) (G 2 (F 2 8) (G 3 (L 0) (G 4 (B .sub (Z 0) (Y 1)) (.gpick (Z 5) (.jump 0 [(.lit (.val (.bool true)))]) (.call 49 [(Z 3),(Y 0),(Z 0)] (Q (.aun .not (Z 0)) (.jump 0 [(Z 0)]))) (.no))))))))))))))))))))))) (.jump 0 []))))))))))))) (Q (F 0 2) (M 0 (.call 98 [(Z 0)] (H 0 (F 4 5) (H 1 (L 0) (.gpick (Z 2) (.call 99 [(Z 0)] (Q (.aun .not (Z 0)) (.jump 0 [(Z 7),(Z 8),(Z 9),(Z 0)]))) (.jump 0 [(Z 5),(Z 6),(Z 7),(.lit (.val (.bool false)))]) (.no))))))))) (D .gtr (Z 0) (Y 0) (.gpick (Z 0) (.clo (.func 97) [] [(Z 2)] (D .sub (Z 2) (Y 1) (Q (F 1 5) (M 0 (.call 96 [(Z 3),(Z 2),(Z 0)] (Q (.aun .not (Z 0)) (.jump 0 [(Z 7),(Z 8),(Z 9),(Z 0)]))))))) (.jump 0 [(Z 1),(Z 2),(Z 3),(.lit (.val (.bool false)))]) (.no))))) (D .eql (Z 10) (Y 0) (H 0 (F 1 4) (H 1 (L 0) (H 2 (B .neq (Z 0) (Y (-1))) (Q (.pickV (Z 3) (Z 0) (.lit (.val (.bool false)))) (G 0 (.ret (Z 15)) (G 1 (B .gtr (Z 0) (Y 0)) (G 2 (.ret (Z 0)) (.gog (Z 0) true true (F 1 11) (.gog (Z 1) true true (L 0) (.gog (Z 2) true true (.ret (Z 20)) (.gog (Z 3) true true (B .sub (Z 0) (Y 1)) (.gpick (Z 4) (.call 49 [(Z 2),(Y 0),(Z 0)] (Q (.aun .not (Z 0)) (G 9 (.ret (Z 0)) (Q (.pickV (Z 10) (.lit (.val (.bool true))) (Z 0)) (.jump 0 [(Z 26),(Z 24),(Z 19),(Z 0)]))))) (G 7 (.ret (.lit (.val (.bool false)))) (Q (.pickV (Z 8) (.lit (.val (.bool true))) (Z 0)) (.jump 0 [(Z 24),(Z 22),(Z 17),(Z 0)]))) (G 7 (.pickV (.lit (.tup [])) (.lit (.tup [])) (.lit (.val (.bool false)))) (Q (.pickV (Z 8) (.lit (.val (.bool true))) (Z 0)) (.jump 0 [(Z 24),(Z 22),(Z 17),(Z 0)]))))))))))))))))))))))))))))
theorem x50_ok:okF TT Tryz.f50 2 x50=true:=by decide+kernel
theorem s_impl_oneCoreFault_ok (h:s_impl_oneCoreFault a0 a1 σ R):acall TP fn_impl_oneCoreFault [a0,a1] σ R:=
 acall_okF (ρ:=[a1,a0]) TT_ok Tryz.func50 rfl x50 x50_ok rfl h
def s_impl_hasKids (a0 a1:AV) (σ:AH) (R:AEnd→AH→Prop):Prop:=
 og (ibin .eql a0 (iv 4)) fun v7=>
 apick v7 (
 og (ibin .eql a1 (iv 3)) fun v9=>
 aret v9 σ R) (
 jn (X:=Tup [1,5,10]) (fun x1 σ=>
 apick x1.2.2.1 (
 og (ibin .eql x1.1 (iv 1)) fun v15=>
 aret v15 σ R) (
 og (ibin .eql x1.2.1 (iv 6)) fun v17=>
 apick v17 (
 og (ibin .geq x1.1 (iv 1)) fun v19=>
 aret v19 σ R) (
 og (ibin .eql x1.2.1 (iv 9)) fun v21=>
 apick v21 (
 acall TP fn_impl_in [x1.1,(iv 1),(iv 4)] σ (onr (fun v23 σ=>
 aret v23 σ R) (pn R))) (
 og (ibin .eql x1.1 (iv 0)) fun v25=>
 aret v25 σ R)))) fun k1=>
 og (ibin .eql a0 (iv 5)) fun v11=>
 apick v11 (
 k1 (a1,a0,v11,()) σ) (
 og (ibin .eql a0 (iv 7)) fun v12=>
 apick v12 (
 k1 (a1,a0,v12,()) σ) (
 og (ibin .eql a0 (iv 8)) fun v13=>
 k1 (a1,a0,v13,()) σ)))
def x51:Sx:=D .eql (Z 1) (Y 4) (P 0 (D .eql (Z 1) (Y 3) (.ret (Z 0))) (.jn 215 [1,5,10] (P 2 (D .eql (Z 0) (Y 1) (.ret (Z 0))) (D .eql (Z 1) (Y 6) (P 0 (D .geq (Z 1) (Y 1) (.ret (Z 0))) (D .eql (Z 2) (Y 9) (P 0 (.call 49 [(Z 2),(Y 1),(Y 4)] (.ret (Z 0))) (D .eql (Z 2) (Y 0) (.ret (Z 0)))))))) (D .eql (Z 2) (Y 5) (P 0 (.jump 0 [(Z 2),(Z 3),(Z 0)]) (D .eql (Z 3) (Y 7) (P 0 (.jump 0 [(Z 3),(Z 4),(Z 0)]) (D .eql (Z 4) (Y 8) (.jump 0 [(Z 4),(Z 5),(Z 0)]))))))))
theorem x51_ok:okF TT Tryz.f51 2 x51=true:=by decide+kernel
theorem s_impl_hasKids_ok (h:s_impl_hasKids a0 a1 σ R):acall TP fn_impl_hasKids [a0,a1] σ R:=
 acall_okF (ρ:=[a1,a0]) TT_ok Tryz.func51 rfl x51 x51_ok rfl h
def s_impl_written (a0 a1:AV) (σ:AH) (R:AEnd→AH→Prop):Prop:=
 og (idx 4 a0 a1 σ) fun v11=>
 og (lodA 4 v11 σ) fun v12=>
 new [(iv 0),(iv 0),(iv 0),(str ⟨#[]⟩)] σ fun v5 σ=>
 sto 4 v5 v12 σ fun σ=>
 frz v5 σ fun f5 σ=>
 og (fldA 0 f5) fun v13=>
 og (lod v13 σ) fun v14=>
 og (ibin .eql v14 (iv 1)) fun v16=>
 apick v16 (
 og (fldA 2 f5) fun v17=>
 og (lod v17 σ) fun v18=>
 acall TP fn_impl_dec [v18] σ (onr (fun v19 σ=>
 aret v19 σ R) (pn R))) (
 og (ibin .eql v14 (iv 2)) fun v21=>
 apick v21 (
 og (fldA 2 f5) fun v22=>
 og (lod v22 σ) fun v23=>
 acall TP fn_impl_boolText [v23] σ (onr (fun v24 σ=>
 aret v24 σ R) (pn R))) (
 og (ibin .eql v14 (iv 3)) fun v26=>
 apick v26 (
 og (fldA 3 f5) fun v27=>
 og (lod v27 σ) fun v28=>
 aret v28 σ R) (
 bsl 1 [(str ⟨#[]⟩)] 0 [] σ fun v29 σ=>
 acall TP fn_impl_parts [a0,a1] σ (onr (fun v32 σ=>
 og (lenS v32) fun v33=>
 lp (X:=Tup [0,6,32,33,34]) (fun R1 y1 σ=>
 og (ibin .lss y1.2.2.2.2.1 y1.2.2.2.1) fun v35=>
 apick v35 (
 og (idx 1 y1.2.2.1 y1.2.2.2.2.1 σ) fun v36=>
 og (lod v36 σ) fun v37=>
 acall TP fn_impl_written [y1.1,v37] σ (onr (fun v41 σ=>
 bsl 1 [(str ⟨#[]⟩)] 1 [(0,v41)] σ fun v42 σ=>
 app 1 y1.2.1 v42 σ fun v43 σ=>
 og (ibin .add y1.2.2.2.2.1 (iv 1)) fun v44=>
 R1 (y1.1,v43,y1.2.2.1,y1.2.2.2.1,v44,()) σ) (pn R))) (
 acall TP fn_strings_Join [y1.2.1,(.val (.string ⟨#[32]⟩))] σ (onr (fun v46 σ=>
 og (sbin .add (.val (.string ⟨#[40]⟩)) v46) fun v47=>
 og (sbin .add v47 (.val (.string ⟨#[41]⟩))) fun v48=>
 aret v48 σ R) (pn R)))) (a0,v29,v32,v33,(iv 0),()) σ) (pn R)))))
def x52:Sx:=J 4 1 0 (Q (.lodA 4 (Z 0)) (.new [(iv 0),(iv 0),(iv 0),(str ⟨#[]⟩)] (.sto 4 (Z 0) (Z 1) (.frz 4 (Z 0) (Q (F 0 0) (M 0 (D .eql (Z 0) (Y 1) (P 0 (Q (F 2 3) (M 0 (.call 53 [(Z 0)] (.ret (Z 0))))) (D .eql (Z 1) (Y 2) (P 0 (Q (F 2 4) (M 0 (.call 101 [(Z 0)] (.ret (Z 0))))) (D .eql (Z 2) (Y 3) (P 0 (Q (F 3 5) (M 0 (.ret (Z 0)))) (.bsl 1 [(str ⟨#[]⟩)] 0 [] (.call 102 [(Z 11),(Z 10)] (O 0 (.lp [0,6,32,33,34] (D .lss (Z 4) (Z 3) (P 0 (J 1 3 5 (M 0 (.call 52 [(Z 3),(Z 0)] (.bsl 1 [(str ⟨#[]⟩)] 1 [(0,(Z 0))] (.app 1 (Z 6) (Z 0) (D .add (Z 10) (Y 1) (.jump 0 [(Z 7),(Z 1),(Z 9),(Z 10),(Z 0)]))))))) (.call 54 [(Z 2),(.lit (.val (.string ⟨#[32]⟩)))] (Q (.sbin .add (.lit (.val (.string ⟨#[40]⟩))) (Z 0)) (Q (.sbin .add (Z 0) (.lit (.val (.string ⟨#[41]⟩)))) (.ret (Z 0))))))) [(Z 13),(Z 2),(Z 1),(Z 0),(Y 0)]))))))))))))))))
theorem x52_ok:okF TT Tryz.f52 2 x52=true:=by decide+kernel
theorem s_impl_written_ok (h:s_impl_written a0 a1 σ R):acall TP fn_impl_written [a0,a1] σ R:=
 acall_okF (ρ:=[a1,a0]) TT_ok Tryz.func52 rfl x52 x52_ok rfl h
end Go.Proofs.YtbppopcpgcgkkaaGreatDoor.E
