import Derived.Test.YtbppopcpgcgkkaaGreatDoorPE10
/- What functions come to. Printed by mkg.py. -/
set_option maxRecDepth 1000000
namespace Go.Proofs.YtbppopcpgcgkkaaGreatDoor.E
open Go Go.RowKit X
set_option linter.unusedVariables false
set_option linter.unusedSectionVars false
variable [Lam] {a0 a1 a2 a3 a4 a5 a6:AV} {σ:AH} {R:AEnd→AH→Prop}
def s_spec_l2Tokens (a0:AV) (σ:AH) (R:AEnd→AH→Prop):Prop:=
 bsl 3 [(iv 0),(iv 0),(str ⟨#[]⟩)] 0 [] σ fun v11 σ=>
 acall TP fn_spec_l2Skip [a0,(iv 0)] σ (onr (fun v13 σ=>
 lp (X:=Tup [0,5,6]) (fun R1 y1 σ=>
 og (lenStr y1.1) fun v16=>
 og (ibin .lss y1.2.2.1 v16) fun v17=>
 apick v17 (
 og (idxStr y1.1 y1.2.2.1) fun v21=>
 acall TP fn_spec_l2Mark [v21] σ (onr (fun v22 σ=>
 og (bld [(iv 0),(iv 0),(str ⟨#[]⟩)] [(0,1),(1,1),(2,1)] [(0,v22)]) fun v23=>
 new [(iv 0),(iv 0),(str ⟨#[]⟩)] σ fun v8 σ=>
 sto 3 v8 v23 σ fun σ=>
 og (ibin .add y1.2.2.1 (iv 1)) fun v25=>
 jn (X:=Tup [0,5,6,7,8]) (fun x2 σ=>
 frz x2.2.2.2.2.1 σ fun f8 σ=>
 og (lenS x2.2.1) fun v45=>
 og (ibin .geq v45 (iv 120)) fun v46=>
 apick v46 (
 aret (.tup [nilS,(iv 2),x2.2.2.2.1]) σ R) (
 og (lodA 3 f8 σ) fun v49=>
 bsl 3 [(iv 0),(iv 0),(str ⟨#[]⟩)] 1 [(0,v49)] σ fun v50 σ=>
 app 3 x2.2.1 v50 σ fun v51 σ=>
 acall TP fn_spec_l2Skip [x2.1,x2.2.2.1] σ (onr (fun v54 σ=>
 R1 (x2.1,v51,v54,()) σ) (pn R)))) fun k2=>
 og (fldA 0 v8) fun v26=>
 og (lod v26 σ) fun v27=>
 og (ibin .eql v27 (iv 0)) fun v28=>
 apick v28 (
 acall TP fn_spec_l2End [y1.1,y1.2.2.1] σ (onr (fun v31 σ=>
 og (slcStr y1.1 (some y1.2.2.1) (some v31)) fun v36=>
 acall TP fn_spec_l2Word [v36] σ (onr (fun v37 σ=>
 og (aext v37 0) fun v38=>
 og (aext v37 1) fun v39=>
 new [(iv 0),(iv 0),(str ⟨#[]⟩)] σ fun v9 σ=>
 sto 3 v9 v38 σ fun σ=>
 frz v9 σ fun f9 σ=>
 og (aun .not v39) fun v41=>
 apick v41 (
 aret (.tup [nilS,(iv 5),y1.2.2.1]) σ R) (
 og (lodA 3 f9 σ) fun v43=>
 sto 3 v8 v43 σ fun σ=>
 k2 (y1.1,y1.2.1,v31,y1.2.2.1,v8,()) σ)) (pn R))) (pn R))) (
 k2 (y1.1,y1.2.1,v25,y1.2.2.1,v8,()) σ)) (pn R))) (
 aret (.tup [y1.2.1,(iv 0),(iv 0)]) σ R)) (a0,v11,v13,()) σ) (pn R))
def x64:Sx:= .bsl 3 [(iv 0),(iv 0),(str ⟨#[]⟩)] 0 [] (.call 114 [(Z 1),(Y 0)] (.lp [0,5,6] (Q (.lenStr (Z 0)) (D .lss (Z 3) (Z 0) (P 0 (Q (.idxStr (Z 2) (Z 4)) (.call 115 [(Z 0)] (Q (.bld [(iv 0),(iv 0),(str ⟨#[]⟩)] [(0,1),(1,1),(2,1)] [(0,(Z 0))]) (.new [(iv 0),(iv 0),(str ⟨#[]⟩)] (.sto 3 (Z 0) (Z 1) (D .add (Z 8) (Y 1) (.jn 7727 [0,5,6,7,8] (.frz 0 (Z 4) (O 2 (D .geq (Z 0) (Y 120) (P 0 (.rets [(.lit nilS),(Y 2),(Z 6)]) (Q (.lodA 3 (Z 2)) (.bsl 3 [(iv 0),(iv 0),(str ⟨#[]⟩)] 1 [(0,(Z 0))] (.app 3 (Z 6) (Z 0) (.call 114 [(Z 6),(Z 8)] (.jump 0 [(Z 7),(Z 1),(Z 0)]))))))))) (Q (F 0 1) (M 0 (D .eql (Z 0) (Y 0) (P 0 (.call 116 [(Z 10),(Z 12)] (Q (.slcStr (Z 11) (some (Z 13)) (some (Z 0))) (.call 117 [(Z 0)] (Q (.aext (Z 0) 0) (Q (.aext (Z 1) 1) (.new [(iv 0),(iv 0),(str ⟨#[]⟩)] (.sto 3 (Z 0) (Z 2) (.frz 18 (Z 0) (Q (.aun .not (Z 2)) (P 0 (.rets [(.lit nilS),(Y 5),(Z 20)]) (Q (.lodA 3 (Z 1)) (.sto 3 (Z 13) (Z 0) (.jump 0 [(Z 19),(Z 20),(Z 8),(Z 21),(Z 13)]))))))))))))) (.jump 0 [(Z 10),(Z 11),(Z 3),(Z 12),(Z 4)])))))))))))) (.rets [(Z 3),(Y 0),(Y 0)])))) [(Z 2),(Z 1),(Z 0)]))
theorem x64_ok:okF TT Tryz.f64 1 x64=true:=by decide+kernel
theorem s_spec_l2Tokens_ok (h:s_spec_l2Tokens a0 σ R):acall TP fn_spec_l2Tokens [a0] σ R:=
 acall_okF (ρ:=[a0]) TT_ok Tryz.func64 rfl x64 x64_ok rfl h
def s_spec_l3Token (a0 a1:AV) (σ:AH) (R:AEnd→AH→Prop):Prop:=
 og (anil a1) fun v9=>
 og (fldA 0 v9) fun v10=>
 og (lod v10 σ) fun v11=>
 og (ibin .eql v11 (iv 1)) fun v13=>
 apick v13 (
 acall TP fn_spec_l3Begin [a0,(.val (.bool false))] σ (onr (fun v15 σ=>
 aret v15 σ R) (pn R))) (
 og (ibin .eql v11 (iv 3)) fun v17=>
 apick v17 (
 acall TP fn_spec_l3Begin [a0,(.val (.bool true))] σ (onr (fun v19 σ=>
 aret v19 σ R) (pn R))) (
 og (ibin .eql v11 (iv 2)) fun v21=>
 apick v21 (
 og (anil a0) fun v23=>
 og (fldA 1 v23) fun v24=>
 og (lod v24 σ) fun v25=>
 og (lenS v25) fun v26=>
 og (ibin .eql v26 (iv 0)) fun v28=>
 og (gval v28 false false (some a0)) fun v30=>
 og (gval v28 false false (anil v30)) fun v31=>
 og (gval v28 false false (fldA 2 v31)) fun v32=>
 og (gval v28 false false (lod v32 σ)) fun v33=>
 og (gval v28 false false (some v26)) fun v34=>
 og (gval v28 false false (ibin .sub v34 (iv 1))) fun v35=>
 og (gval v28 false false (idx 1 v33 v35 σ)) fun v36=>
 og (gval v28 false false (lod v36 σ)) fun v37=>
 og (pickV v28 (.val (.bool true)) v37) fun v38=>
 apick v38 (
 aret (iv 1) σ R) (
 og (anil a0) fun v41=>
 og (fldA 1 v41) fun v42=>
 og (lod v42 σ) fun v43=>
 og (ibin .sub v26 (iv 1)) fun v45=>
 og (slc 1 v43 none (some v45) none σ) fun v46=>
 og (anil a0) fun v47=>
 og (fldA 1 v47) fun v48=>
 sto 1 v48 v46 σ fun σ=>
 og (anil a0) fun v51=>
 og (fldA 2 v51) fun v52=>
 og (lod v52 σ) fun v53=>
 og (ibin .sub v26 (iv 1)) fun v55=>
 og (slc 1 v53 none (some v55) none σ) fun v56=>
 og (anil a0) fun v57=>
 og (fldA 2 v57) fun v58=>
 sto 1 v58 v56 σ fun σ=>
 acall TP fn_spec_l3Whole [a0] σ (onr (fun v60 σ=>
 aret (iv 0) σ R) (pn R)))) (
 og (anil a1) fun v62=>
 og (fldA 0 v62) fun v63=>
 og (lod v63 σ) fun v64=>
 og (ibin .sub v64 (iv 3)) fun v65=>
 og (anil a1) fun v67=>
 og (fldA 1 v67) fun v68=>
 og (lod v68 σ) fun v69=>
 og (anil a1) fun v71=>
 og (fldA 2 v71) fun v72=>
 og (lod v72 σ) fun v73=>
 og (bld [(iv 0),(iv 0),(iv 0),(str ⟨#[]⟩)] [(0,1),(1,1),(2,1),(3,1)] [(0,v65),(2,v69),(3,v73)]) fun v74=>
 new [(iv 0),(iv 0),(iv 0),(str ⟨#[]⟩)] σ fun v6 σ=>
 (True)∧
 sto 4 v6 v74 σ fun σ=>
 (True)∧
 frz v6 σ fun f6 σ=>
 og (lodA 4 f6 σ) fun v76=>
 acall TP fn_spec_l3Put [a0,v76] σ (onr (fun v77 σ=>
 og (ibin .neq v77 (iv 0)) fun v79=>
 apick v79 (
 aret v77 σ R) (
 acall TP fn_spec_l3Whole [a0] σ (onr (fun v82 σ=>
 aret (iv 0) σ R) (pn R)))) (pn R)))))
def x65:Sx:=Q (A 0) (Q (F 0 0) (M 0 (D .eql (Z 0) (Y 1) (P 0 (.call 118 [(Z 5),(.lit (.val (.bool false)))] (.ret (Z 0))) (D .eql (Z 1) (Y 3) (P 0 (.call 118 [(Z 6),(.lit (.val (.bool true)))] (.ret (Z 0))) (D .eql (Z 2) (Y 2) (P 0 (Q (A 7) (Q (F 1 0) (M 0 (O 0 (D .eql (Z 0) (Y 0) (G 0 (.ret (Z 12)) (G 1 (A 0) (G 2 (F 2 0) (G 3 (L 0) (G 4 (.ret (Z 5)) (G 5 (B .sub (Z 0) (Y 1)) (G 6 (I 1 2 0) (G 7 (L 0) (Q (.pickV (Z 8) (.lit (.val (.bool true))) (Z 0)) (P 0 (.ret (Y 1)) (Q (A 21) (Q (F 1 0) (M 0 (D .sub (Z 13) (Y 1) (Q (.slc 1 (Z 1) none (some (Z 0)) none) (Q (A 26) (Q (F 1 0) (.sto 1 (Z 0) (Z 2) (Q (A 28) (Q (F 2 0) (M 0 (D .sub (Z 20) (Y 1) (Q (.slc 1 (Z 1) none (some (Z 0)) none) (Q (A 33) (Q (F 2 0) (.sto 1 (Z 0) (Z 2) (.call 119 [(Z 35)] (.ret (Y 0)))))))))))))))))))))))))))))))))) (.ord [0,1,2,3,4,5,6,7,8,9,10,11,12,13,14,15] [0,1,3,7,15,0,32,96,224,0,512,1536,3584,8191,0,32767] (Q (A 6) (Q (F 0 0) (M 0 (D .sub (Z 0) (Y 3) (Q (A 10) (Q (F 1 0) (M 0 (Q (A 13) (Q (F 2 0) (M 0 (Q (.bld [(iv 0),(iv 0),(iv 0),(str ⟨#[]⟩)] [(0,1),(1,1),(2,1),(3,1)] [(0,(Z 6)),(2,(Z 3)),(3,(Z 0))]) (.new [(iv 0),(iv 0),(iv 0),(str ⟨#[]⟩)] (.wat [] (.sto 4 (Z 0) (Z 1) (.wat [] (.frz 19 (Z 0) (Q (.lodA 4 (Z 0)) (.call 120 [(Z 21),(Z 0)] (D .neq (Z 0) (Y 0) (P 0 (.ret (Z 1)) (.call 119 [(Z 23)] (.ret (Y 0))))))))))))))))))))))))))))))))
theorem x65_ok:okF TT Tryz.f65 2 x65=true:=by decide+kernel
theorem s_spec_l3Token_ok (h:s_spec_l3Token a0 a1 σ R):acall TP fn_spec_l3Token [a0,a1] σ R:=
 acall_okF (ρ:=[a1,a0]) TT_ok Tryz.func65 rfl x65 x65_ok rfl h
def s_spec_l3Bare (a0:AV) (σ:AH) (R:AEnd→AH→Prop):Prop:=
 og (anil a0) fun v5=>
 og (fldA 0 v5) fun v6=>
 og (lod v6 σ) fun v7=>
 og (ibin .eql v7 (iv 1)) fun v8=>
 og (gval v8 false false (some a0)) fun v10=>
 og (gval v8 false false (anil v10)) fun v11=>
 og (gval v8 false false (fldA 0 v11)) fun v12=>
 og (gval v8 false false (lod v12 σ)) fun v13=>
 og (gval v8 false false (ibin .eql v13 (iv 2))) fun v14=>
 og (pickV v8 (.val (.bool true)) v14) fun v15=>
 og (anil a0) fun v17=>
 og (fldA 0 v17) fun v18=>
 og (lod v18 σ) fun v19=>
 acall TP fn_spec_l1In [v19,(iv 1),(iv 4)] σ (onr (fun v20 σ=>
 og (gval v20 true false (some v15)) fun v22=>
 og (gval v20 true false (some v22)) fun v23=>
 og (gval v23 false true (some a0)) fun v24=>
 og (gval v23 false true (anil v24)) fun v25=>
 og (gval v23 false true (fldA 2 v25)) fun v26=>
 og (gval v23 false true (lod v26 σ)) fun v27=>
 og (gval v23 false true (ibin .eql v27 (iv 0))) fun v28=>
 og (gval v20 true false (pickV v23 (.val (.bool true)) v28)) fun v29=>
 og (pickV v20 v29 (.val (.bool false))) fun v30=>
 og (gval v30 true false (some a0)) fun v32=>
 og (gval v30 true false (anil v32)) fun v33=>
 og (gval v30 true false (fldA 0 v33)) fun v34=>
 og (gval v30 true false (lod v34 σ)) fun v35=>
 og (gval v30 true false (ibin .eql v35 (iv 3))) fun v36=>
 og (gval v30 true false (some v36)) fun v37=>
 og (gval v37 false true (some a0)) fun v38=>
 og (gval v37 false true (anil v38)) fun v39=>
 og (gval v37 false true (fldA 3 v39)) fun v40=>
 og (gval v37 false true (lod v40 σ)) fun v41=>
 og (gval v37 false true (sbin .eql v41 (str ⟨#[]⟩))) fun v42=>
 og (gval v30 true false (pickV v37 (.val (.bool true)) v42)) fun v43=>
 og (pickV v30 v43 (.val (.bool false))) fun v44=>
 aret v44 σ R) (pn R))
def x66:Sx:=Q (A 0) (Q (F 0 0) (M 0 (D .eql (Z 0) (Y 1) (G 0 (.ret (Z 4)) (G 1 (A 0) (G 2 (F 0 0) (G 3 (L 0) (G 4 (B .eql (Z 0) (Y 2)) (Q (.pickV (Z 5) (.lit (.val (.bool true))) (Z 0)) (Q (A 10) (Q (F 0 0) (M 0 (.call 68 [(Z 0),(Y 1),(Y 4)] (H 0 (.ret (Z 4)) (H 1 (.ret (Z 0)) (.gog (Z 0) false true (.ret (Z 16)) (.gog (Z 1) false true (A 0) (.gog (Z 2) false true (F 2 0) (.gog (Z 3) false true (L 0) (.gog (Z 4) false true (B .eql (Z 0) (Y 0)) (H 7 (.pickV (Z 5) (.lit (.val (.bool true))) (Z 0)) (Q (.pickV (Z 8) (Z 0) (.lit (.val (.bool false)))) (H 0 (.ret (Z 23)) (H 1 (A 0) (H 2 (F 0 0) (H 3 (L 0) (H 4 (B .eql (Z 0) (Y 3)) (H 5 (.ret (Z 0)) (.gog (Z 0) false true (.ret (Z 29)) (.gog (Z 1) false true (A 0) (.gog (Z 2) false true (F 3 0) (.gog (Z 3) false true (L 0) (.gog (Z 4) false true (.sbin .eql (Z 0) (.lit (str ⟨#[]⟩))) (H 11 (.pickV (Z 5) (.lit (.val (.bool true))) (Z 0)) (Q (.pickV (Z 12) (Z 0) (.lit (.val (.bool false)))) (.ret (Z 0)))))))))))))))))))))))))))))))))))))
theorem x66_ok:okF TT Tryz.f66 1 x66=true:=by decide+kernel
theorem s_spec_l3Bare_ok (h:s_spec_l3Bare a0 σ R):acall TP fn_spec_l3Bare [a0] σ R:=
 acall_okF (ρ:=[a0]) TT_ok Tryz.func66 rfl x66 x66_ok rfl h
def s_spec_l1Num (a0:AV) (σ:AH) (R:AEnd→AH→Prop):Prop:=
 acall TP fn_spec_l1In [a0,(iv (-1000000000)),(iv 1000000000)] σ (onr (fun v4 σ=>
 aret v4 σ R) (pn R))
def x67:Sx:= .call 68 [(Z 0),(Y (-1000000000)),(Y 1000000000)] (.ret (Z 0))
theorem x67_ok:okF TT Tryz.f67 1 x67=true:=by decide+kernel
theorem s_spec_l1Num_ok (h:s_spec_l1Num a0 σ R):acall TP fn_spec_l1Num [a0] σ R:=
 acall_okF (ρ:=[a0]) TT_ok Tryz.func67 rfl x67 x67_ok rfl h
def s_spec_l1In (a0 a1 a2:AV) (σ:AH) (R:AEnd→AH→Prop):Prop:=
 og (ibin .geq a0 a1) fun v9=>
 og (gval v9 true false (some a0)) fun v11=>
 og (gval v9 true false (some a2)) fun v12=>
 og (gval v9 true false (ibin .leq v11 v12)) fun v13=>
 og (pickV v9 v13 (.val (.bool false))) fun v14=>
 aret v14 σ R
def x68:Sx:=D .geq (Z 2) (Z 1) (H 0 (.ret (Z 3)) (H 1 (.ret (Z 2)) (H 2 (B .leq (Z 1) (Z 0)) (Q (.pickV (Z 3) (Z 0) (.lit (.val (.bool false)))) (.ret (Z 0))))))
theorem x68_ok:okF TT Tryz.f68 3 x68=true:=by decide+kernel
theorem s_spec_l1In_ok (h:s_spec_l1In a0 a1 a2 σ R):acall TP fn_spec_l1In [a0,a1,a2] σ R:=
 acall_okF (ρ:=[a2,a1,a0]) TT_ok Tryz.func68 rfl x68 x68_ok rfl h
def s_spec_l2Sym (a0:AV) (σ:AH) (R:AEnd→AH→Prop):Prop:=
 lp (X:=Tup [0,3]) (fun R1 y1 σ=>
 og (lenStr y1.1) fun v6=>
 og (ibin .lss y1.2.1 v6) fun v7=>
 apick v7 (
 og (idxStr y1.1 y1.2.1) fun v12=>
 acall TP fn_spec_l2Byte [v12] σ (onr (fun v13 σ=>
 og (aun .not v13) fun v14=>
 apick v14 (
 aret (.val (.bool false)) σ R) (
 og (ibin .add y1.2.1 (iv 1)) fun v9=>
 R1 (y1.1,v9,()) σ)) (pn R))) (
 og (lenStr y1.1) fun v16=>
 acall TP fn_spec_l1In [v16,(iv 1),(iv 12)] σ (onr (fun v17 σ=>
 aret v17 σ R) (pn R)))) (a0,(iv 0),()) σ
def x69:Sx:= .lp [0,3] (Q (.lenStr (Z 0)) (D .lss (Z 2) (Z 0) (P 0 (Q (.idxStr (Z 2) (Z 3)) (.call 121 [(Z 0)] (Q (.aun .not (Z 0)) (P 0 (.ret (.lit (.val (.bool false)))) (D .add (Z 6) (Y 1) (.jump 0 [(Z 6),(Z 0)])))))) (Q (.lenStr (Z 2)) (.call 68 [(Z 0),(Y 1),(Y 12)] (.ret (Z 0))))))) [(Z 0),(Y 0)]
theorem x69_ok:okF TT Tryz.f69 1 x69=true:=by decide+kernel
theorem s_spec_l2Sym_ok (h:s_spec_l2Sym a0 σ R):acall TP fn_spec_l2Sym [a0] σ R:=
 acall_okF (ρ:=[a0]) TT_ok Tryz.func69 rfl x69 x69_ok rfl h
def s_spec_l3Line (a0 a1:AV) (σ:AH) (R:AEnd→AH→Prop):Prop:=
 og (ibin .sub a1 (iv 1)) fun v7=>
 lp (X:=Tup [0,1,5]) (fun R1 y1 σ=>
 og (ibin .geq y1.2.2.1 (iv 0)) fun v9=>
 apick v9 (
 og (idx 4 y1.1 y1.2.1 σ) fun v18=>
 og (fldA 1 v18) fun v19=>
 og (lod v19 σ) fun v20=>
 og (ibin .eql y1.2.2.1 v20) fun v21=>
 apick v21 (
 og (idx 4 y1.1 y1.2.2.1 σ) fun v24=>
 og (fldA 0 v24) fun v25=>
 og (lod v25 σ) fun v26=>
 og (ibin .eql v26 (iv 4)) fun v27=>
 aret v27 σ R) (
 og (idx 4 y1.1 y1.2.2.1 σ) fun v12=>
 og (fldA 1 v12) fun v13=>
 og (lod v13 σ) fun v14=>
 R1 (y1.1,y1.2.1,v14,()) σ)) (
 aret (.val (.bool false)) σ R)) (a0,a1,v7,()) σ
def x70:Sx:=D .sub (Z 0) (Y 1) (.lp [0,1,5] (D .geq (Z 2) (Y 0) (P 0 (J 4 1 2 (Q (F 1 0) (M 0 (D .eql (Z 6) (Z 0) (P 0 (J 4 5 7 (Q (F 0 0) (M 0 (D .eql (Z 0) (Y 4) (.ret (Z 0)))))) (J 4 5 7 (Q (F 1 0) (M 0 (.jump 0 [(Z 8),(Z 9),(Z 0)]))))))))) (.ret (.lit (.val (.bool false)))))) [(Z 2),(Z 1),(Z 0)])
theorem x70_ok:okF TT Tryz.f70 2 x70=true:=by decide+kernel
theorem s_spec_l3Line_ok (h:s_spec_l3Line a0 a1 σ R):acall TP fn_spec_l3Line [a0,a1] σ R:=
 acall_okF (ρ:=[a1,a0]) TT_ok Tryz.func70 rfl x70 x70_ok rfl h
def s_spec_l3Deep (a0 a1:AV) (σ:AH) (R:AEnd→AH→Prop):Prop:=
 lp (X:=Tup [0,1,5]) (fun R1 y1 σ=>
 og (ibin .geq y1.2.1 (iv 0)) fun v7=>
 og (gval v7 true false (some y1.2.2.1)) fun v9=>
 og (gval v7 true false (ibin .lss v9 (iv 100))) fun v10=>
 og (pickV v7 v10 (.val (.bool false))) fun v11=>
 apick v11 (
 og (ibin .add y1.2.2.1 (iv 1)) fun v13=>
 og (idx 4 y1.1 y1.2.1 σ) fun v16=>
 og (fldA 1 v16) fun v17=>
 og (lod v17 σ) fun v18=>
 R1 (y1.1,v18,v13,()) σ) (
 aret y1.2.2.1 σ R)) (a0,a1,(iv 0),()) σ
def x71:Sx:= .lp [0,1,5] (D .geq (Z 1) (Y 0) (H 0 (.ret (Z 3)) (H 1 (B .lss (Z 0) (Y 100)) (Q (.pickV (Z 2) (Z 0) (.lit (.val (.bool false)))) (P 0 (D .add (Z 6) (Y 1) (J 4 5 6 (Q (F 1 0) (M 0 (.jump 0 [(Z 8),(Z 0),(Z 3)]))))) (.ret (Z 6))))))) [(Z 1),(Z 0),(Y 0)]
theorem x71_ok:okF TT Tryz.f71 2 x71=true:=by decide+kernel
theorem s_spec_l3Deep_ok (h:s_spec_l3Deep a0 a1 σ R):acall TP fn_spec_l3Deep [a0,a1] σ R:=
 acall_okF (ρ:=[a1,a0]) TT_ok Tryz.func71 rfl x71 x71_ok rfl h
def s_spec_l4Put (a0 a1:AV) (σ:AH) (R:AEnd→AH→Prop):Prop:=
 abox a1 σ fun v3 σ=>
 frz v3 σ fun f3 σ=>
 og (anil a0) fun v7=>
 og (fldA 1 v7) fun v8=>
 og (lod v8 σ) fun v9=>
 og (lodA 6 f3 σ) fun v10=>
 og (bslR 6 [(iv 0),(iv 0),(iv 0),(iv 0),(str ⟨#[]⟩),nilS] 1 [(0,v10)]) fun v11=>
 app 6 v9 v11 σ fun v12 σ=>
 (True)∧
 og (anil a0) fun v13=>
 og (fldA 1 v13) fun v14=>
 sto 1 v14 v12 σ fun σ=>
 (True)∧
 og (anil a0) fun v16=>
 og (fldA 1 v16) fun v17=>
 og (lod v17 σ) fun v18=>
 og (lenS v18) fun v19=>
 og (ibin .sub v19 (iv 1)) fun v20=>
 aret v20 σ R
def x72:Sx:= .box (Z 0) (.frz 2 (Z 0) (.ord [0,1,2,3,4,5,6,7,8,9,10] [0,0,2,6,14,0,32,126,255,511,1023] (Q (A 3) (Q (F 1 0) (M 0 (Q (.lodA 6 (Z 3)) (Q (.bslR 6 [(iv 0),(iv 0),(iv 0),(iv 0),(str ⟨#[]⟩),nilS] 1 [(0,(Z 0))]) (.app 6 (Z 2) (Z 0) (.wat [] (Q (A 9) (Q (F 1 0) (.sto 1 (Z 0) (Z 2) (.wat [] (Q (A 11) (Q (F 1 0) (M 0 (O 0 (D .sub (Z 0) (Y 1) (.ret (Z 0))))))))))))))))))))
theorem x72_ok:okF TT Tryz.f72 2 x72=true:=by decide+kernel
theorem s_spec_l4Put_ok (h:s_spec_l4Put a0 a1 σ R):acall TP fn_spec_l4Put [a0,a1] σ R:=
 acall_okF (ρ:=[a1,a0]) TT_ok Tryz.func72 rfl x72 x72_ok rfl h
def s_spec_l3Sub (a0 a1:AV) (σ:AH) (R:AEnd→AH→Prop):Prop:=
 acall TP fn_spec_l3Deep [a0,a1] σ (onr (fun v11 σ=>
 bsl 4 [(iv 0),(iv 0),(iv 0),(str ⟨#[]⟩)] 0 [] σ fun v12 σ=>
 lp (X:=Tup [0,1,5,6,7]) (fun R1 y1 σ=>
 jn (X:=Tup [0,1,5,6,7,29]) (fun x2 σ=>
 apick x2.2.2.2.2.2.1 (
 og (idx 4 x2.1 x2.2.2.2.2.1 σ) fun v34=>
 og (lodA 4 v34 σ) fun v35=>
 new [(iv 0),(iv 0),(iv 0),(str ⟨#[]⟩)] σ fun v8 σ=>
 sto 4 v8 v35 σ fun σ=>
 og (fldA 1 v8) fun v36=>
 og (lod v36 σ) fun v37=>
 og (ibin .sub v37 x2.2.1) fun v39=>
 og (fldA 1 v8) fun v40=>
 sto 1 v40 v39 σ fun σ=>
 jn (X:=Tup [0,1,5,6,7,8]) (fun x3 σ=>
 frz x3.2.2.2.2.2.1 σ fun f8 σ=>
 og (lodA 4 f8 σ) fun v46=>
 bsl 4 [(iv 0),(iv 0),(iv 0),(str ⟨#[]⟩)] 1 [(0,v46)] σ fun v47 σ=>
 app 4 x3.2.2.2.1 v47 σ fun v48 σ=>
 og (ibin .add x3.2.2.2.2.1 (iv 1)) fun v31=>
 R1 (x3.1,x3.2.1,x3.2.2.1,v48,v31,()) σ) fun k3=>
 og (ibin .eql x2.2.2.2.2.1 x2.2.1) fun v43=>
 apick v43 (
 og (fldA 1 v8) fun v44=>
 sto 1 v44 (iv (-1)) σ fun σ=>
 k3 (x2.1,x2.2.1,x2.2.2.1,x2.2.2.2.1,x2.2.2.2.2.1,v8,()) σ) (
 k3 (x2.1,x2.2.1,x2.2.2.1,x2.2.2.2.1,x2.2.2.2.2.1,v8,()) σ)) (
 aret x2.2.2.2.1 σ R)) fun k2=>
 og (lenS y1.1) fun v16=>
 og (ibin .lss y1.2.2.2.2.1 v16) fun v17=>
 og (gval v17 true false (some y1.2.2.2.2.1)) fun v19=>
 og (gval v17 true false (some y1.2.1)) fun v20=>
 og (gval v17 true false (ibin .eql v19 v20)) fun v21=>
 og (gval v17 true false (some v21)) fun v22=>
 og (gval v22 false true (some y1.1)) fun v23=>
 og (gval v22 false true (some y1.2.2.2.2.1)) fun v24=>
 gpick v22 (
 og (gval v17 true false (some (.val (.bool true)))) fun v28=>
 og (pickV v17 v28 (.val (.bool false))) fun v29=>
 k2 (y1.1,y1.2.1,y1.2.2.1,y1.2.2.2.1,y1.2.2.2.2.1,v29,()) σ) (
 acall TP fn_spec_l3Deep [v23,v24] σ (onr (fun v25 σ=>
 og (ibin .gtr v25 y1.2.2.1) fun v27=>
 og (gval v17 true false (some v27)) fun v28=>
 og (pickV v17 v28 (.val (.bool false))) fun v29=>
 k2 (y1.1,y1.2.1,y1.2.2.1,y1.2.2.2.1,y1.2.2.2.2.1,v29,()) σ) (pn R))) (
 og (gval v17 true false (pickV (.tup []) (.val (.bool true)) (.tup []))) fun v28=>
 og (pickV v17 v28 (.val (.bool false))) fun v29=>
 k2 (y1.1,y1.2.1,y1.2.2.1,y1.2.2.2.1,y1.2.2.2.2.1,v29,()) σ)) (a0,a1,v11,v12,a1,()) σ) (pn R))
def x73:Sx:= .call 71 [(Z 1),(Z 0)] (.bsl 4 [(iv 0),(iv 0),(iv 0),(str ⟨#[]⟩)] 0 [] (.lp [0,1,5,6,7] (.jn 977 [0,1,5,6,7,29] (P 5 (J 4 0 4 (Q (.lodA 4 (Z 0)) (.new [(iv 0),(iv 0),(iv 0),(str ⟨#[]⟩)] (.sto 4 (Z 0) (Z 1) (Q (F 1 0) (M 0 (D .sub (Z 0) (Z 6) (Q (F 1 3) (.sto 1 (Z 0) (Z 1) (.jn 15655 [0,1,5,6,7,8] (.frz 0 (Z 5) (Q (.lodA 4 (Z 0)) (.bsl 4 [(iv 0),(iv 0),(iv 0),(str ⟨#[]⟩)] 1 [(0,(Z 0))] (.app 4 (Z 6) (Z 0) (D .add (Z 8) (Y 1) (.jump 0 [(Z 5),(Z 6),(Z 7),(Z 1),(Z 0)])))))) (D .eql (Z 11) (Z 8) (P 0 (Q (F 1 5) (.sto 1 (Z 0) (Y (-1)) (.jump 0 [(Z 9),(Z 10),(Z 11),(Z 12),(Z 13),(Z 6)]))) (.jump 0 [(Z 8),(Z 9),(Z 10),(Z 11),(Z 12),(Z 5)]))))))))))))) (.ret (Z 3))) (O 0 (D .lss (Z 5) (Z 0) (H 0 (.ret (Z 6)) (H 1 (.ret (Z 4)) (H 2 (B .eql (Z 1) (Z 0)) (H 3 (.ret (Z 0)) (.gog (Z 0) false true (.ret (Z 6)) (.gog (Z 1) false true (.ret (Z 11)) (.gpick (Z 2) (H 6 (.ret (.lit (.val (.bool true)))) (Q (.pickV (Z 7) (Z 0) (.lit (.val (.bool false)))) (.jump 0 [(Z 10),(Z 11),(Z 12),(Z 13),(Z 14),(Z 0)]))) (.call 71 [(Z 1),(Z 0)] (D .gtr (Z 0) (Z 11) (H 8 (.ret (Z 0)) (Q (.pickV (Z 9) (Z 0) (.lit (.val (.bool false)))) (.jump 0 [(Z 12),(Z 13),(Z 14),(Z 15),(Z 16),(Z 0)]))))) (H 6 (.pickV (.lit (.tup [])) (.lit (.val (.bool true))) (.lit (.tup []))) (Q (.pickV (Z 7) (Z 0) (.lit (.val (.bool false)))) (.jump 0 [(Z 10),(Z 11),(Z 12),(Z 13),(Z 14),(Z 0)]))))))))))))) [(Z 3),(Z 2),(Z 1),(Z 0),(Z 2)]))
theorem x73_ok:okF TT Tryz.f73 2 x73=true:=by decide+kernel
theorem s_spec_l3Sub_ok (h:s_spec_l3Sub a0 a1 σ R):acall TP fn_spec_l3Sub [a0,a1] σ R:=
 acall_okF (ρ:=[a1,a0]) TT_ok Tryz.func73 rfl x73 x73_ok rfl h
def s_spec_IsKeyword (a0:AV) (σ:AH) (R:AEnd→AH→Prop):Prop:=
 bsl 1 [(str ⟨#[]⟩)] 7 [(0,(.val (.string ⟨#[113,117,111,116,101]⟩))),(1,(.val (.string ⟨#[105,102]⟩))),(2,(.val (.string ⟨#[108,97,109,98,100,97]⟩))),(3,(.val (.string ⟨#[108,101,116]⟩))),(4,(.val (.string ⟨#[98,101,103,105,110]⟩))),(5,(.val (.string ⟨#[100,101,102,105,110,101]⟩))),(6,(.val (.string ⟨#[115,101,116,33]⟩)))] σ fun v5 σ=>
 frz v5 σ fun f5 σ=>
 lp (X:=Tup [0,3,4]) (fun R1 y1 σ=>
 og (lenS y1.2.1) fun v8=>
 og (ibin .lss y1.2.2.1 v8) fun v9=>
 apick v9 (
 og (idx 1 y1.2.1 y1.2.2.1 σ) fun v14=>
 og (lod v14 σ) fun v15=>
 og (sbin .eql v15 y1.1) fun v17=>
 apick v17 (
 aret (.val (.bool true)) σ R) (
 og (ibin .add y1.2.2.1 (iv 1)) fun v11=>
 R1 (y1.1,y1.2.1,v11,()) σ)) (
 aret (.val (.bool false)) σ R)) (a0,f5,(iv 0),()) σ
def x74:Sx:= .bsl 1 [(str ⟨#[]⟩)] 7 [(0,(.lit (.val (.string ⟨#[113,117,111,116,101]⟩)))),(1,(.lit (.val (.string ⟨#[105,102]⟩)))),(2,(.lit (.val (.string ⟨#[108,97,109,98,100,97]⟩)))),(3,(.lit (.val (.string ⟨#[108,101,116]⟩)))),(4,(.lit (.val (.string ⟨#[98,101,103,105,110]⟩)))),(5,(.lit (.val (.string ⟨#[100,101,102,105,110,101]⟩)))),(6,(.lit (.val (.string ⟨#[115,101,116,33]⟩))))] (.frz 1 (Z 0) (.lp [0,3,4] (O 1 (D .lss (Z 3) (Z 0) (P 0 (J 1 3 4 (M 0 (Q (.sbin .eql (Z 0) (Z 4)) (P 0 (.ret (.lit (.val (.bool true)))) (D .add (Z 7) (Y 1) (.jump 0 [(Z 6),(Z 7),(Z 0)])))))) (.ret (.lit (.val (.bool false))))))) [(Z 2),(Z 0),(Y 0)]))
theorem x74_ok:okF TT Tryz.f74 1 x74=true:=by decide+kernel
theorem s_spec_IsKeyword_ok (h:s_spec_IsKeyword a0 σ R):acall TP fn_spec_IsKeyword [a0] σ R:=
 acall_okF (ρ:=[a0]) TT_ok Tryz.func74 rfl x74 x74_ok rfl h
def s_spec_l4Find (a0 a1 a2:AV) (σ:AH) (R:AEnd→AH→Prop):Prop:=
 lp (X:=Tup [0,1,2,9]) (fun R1 y1 σ=>
 og (ibin .geq y1.2.1 (iv 0)) fun v13=>
 apick v13 (
 og (anil y1.1) fun v15=>
 og (fldA 2 v15) fun v16=>
 og (lod v16 σ) fun v17=>
 og (idx 2 v17 y1.2.1 σ) fun v19=>
 og (fldA 0 v19) fun v20=>
 og (lod v20 σ) fun v21=>
 lp (X:=Tup [0,1,2,9,10,11]) (fun R2 y2 σ=>
 og (lenS y2.2.2.2.2.1) fun v24=>
 og (ibin .lss y2.2.2.2.2.2.1 v24) fun v25=>
 apick v25 (
 og (idx 1 y2.2.2.2.2.1 y2.2.2.2.2.2.1 σ) fun v30=>
 og (lod v30 σ) fun v31=>
 og (sbin .eql v31 y2.2.2.1) fun v33=>
 apick v33 (
 aret (.tup [y2.2.2.2.1,y2.2.2.2.2.2.1,(.val (.bool true))]) σ R) (
 og (ibin .add y2.2.2.2.2.2.1 (iv 1)) fun v27=>
 R2 (y2.1,y2.2.1,y2.2.2.1,y2.2.2.2.1,y2.2.2.2.2.1,v27,()) σ)) (
 og (ibin .add y2.2.2.2.1 (iv 1)) fun v37=>
 og (anil y2.1) fun v39=>
 og (fldA 2 v39) fun v40=>
 og (lod v40 σ) fun v41=>
 og (idx 2 v41 y2.2.1 σ) fun v43=>
 og (fldA 1 v43) fun v44=>
 og (lod v44 σ) fun v45=>
 R1 (y2.1,v45,y2.2.2.1,v37,()) σ)) (y1.1,y1.2.1,y1.2.2.1,y1.2.2.2.1,v21,(iv 0),()) σ) (
 aret (.tup [(iv 0),(iv 0),(.val (.bool false))]) σ R)) (a0,a1,a2,(iv 0),()) σ
def x75:Sx:= .lp [0,1,2,9] (D .geq (Z 1) (Y 0) (P 0 (Q (A 1) (Q (F 2 0) (M 0 (J 2 0 5 (Q (F 0 0) (M 0 (.lp [0,1,2,9,10,11] (O 4 (D .lss (Z 6) (Z 0) (P 0 (J 1 6 7 (M 0 (Q (.sbin .eql (Z 0) (Z 6)) (P 0 (.rets [(Z 8),(Z 10),(.lit (.val (.bool true)))]) (D .add (Z 10) (Y 1) (.jump 0 [(Z 6),(Z 7),(Z 8),(Z 9),(Z 10),(Z 0)])))))) (D .add (Z 5) (Y 1) (Q (A 3) (Q (F 2 0) (M 0 (J 2 0 7 (Q (F 1 0) (M 0 (.jump 1 [(Z 9),(Z 0),(Z 11),(Z 6)]))))))))))) [(Z 7),(Z 8),(Z 9),(Z 10),(Z 0),(Y 0)]))))))) (.rets [(Y 0),(Y 0),(.lit (.val (.bool false)))]))) [(Z 2),(Z 1),(Z 0),(Y 0)]
theorem x75_ok:okF TT Tryz.f75 3 x75=true:=by decide+kernel
theorem s_spec_l4Find_ok (h:s_spec_l4Find a0 a1 a2 σ R):acall TP fn_spec_l4Find [a0,a1,a2] σ R:=
 acall_okF (ρ:=[a2,a1,a0]) TT_ok Tryz.func75 rfl x75 x75_ok rfl h
def s_spec_l3Parts (a0 a1:AV) (σ:AH) (R:AEnd→AH→Prop):Prop:=
 bsl 1 [(iv 0)] 0 [] σ fun v7 σ=>
 lp (X:=Tup [0,1,5,6]) (fun R1 y1 σ=>
 og (lenS y1.1) fun v10=>
 og (ibin .lss y1.2.2.2.1 v10) fun v11=>
 apick v11 (
 jn (X:=Tup [0,1,5,6]) (fun x2 σ=>
 og (ibin .add x2.2.2.2.1 (iv 1)) fun v13=>
 R1 (x2.1,x2.2.1,x2.2.2.1,v13,()) σ) fun k2=>
 og (idx 4 y1.1 y1.2.2.2.1 σ) fun v16=>
 og (fldA 1 v16) fun v17=>
 og (lod v17 σ) fun v18=>
 og (ibin .eql v18 y1.2.1) fun v20=>
 apick v20 (
 bsl 1 [(iv 0)] 1 [(0,y1.2.2.2.1)] σ fun v23 σ=>
 app 1 y1.2.2.1 v23 σ fun v24 σ=>
 k2 (y1.1,y1.2.1,v24,y1.2.2.2.1,()) σ) (
 k2 (y1.1,y1.2.1,y1.2.2.1,y1.2.2.2.1,()) σ)) (
 aret y1.2.2.1 σ R)) (a0,a1,v7,(iv 0),()) σ
def x76:Sx:= .bsl 1 [(iv 0)] 0 [] (.lp [0,1,5,6] (O 0 (D .lss (Z 4) (Z 0) (P 0 (.jn 467 [0,1,5,6] (D .add (Z 3) (Y 1) (.jump 0 [(Z 1),(Z 2),(Z 3),(Z 0)])) (J 4 2 5 (Q (F 1 0) (M 0 (D .eql (Z 0) (Z 6) (P 0 (.bsl 1 [(iv 0)] 1 [(0,(Z 9))] (.app 1 (Z 9) (Z 0) (.jump 0 [(Z 8),(Z 9),(Z 0),(Z 11)]))) (.jump 0 [(Z 6),(Z 7),(Z 8),(Z 9)]))))))) (.ret (Z 4))))) [(Z 2),(Z 1),(Z 0),(Y 0)])
theorem x76_ok:okF TT Tryz.f76 2 x76=true:=by decide+kernel
theorem s_spec_l3Parts_ok (h:s_spec_l3Parts a0 a1 σ R):acall TP fn_spec_l3Parts [a0,a1] σ R:=
 acall_okF (ρ:=[a1,a0]) TT_ok Tryz.func76 rfl x76 x76_ok rfl h
def s_spec_l4Form (a0 a1 a2 a3 a4:AV) (σ:AH) (R:AEnd→AH→Prop):Prop:=
 og (sbin .eql a1 (.val (.string ⟨#[113,117,111,116,101]⟩))) fun v13=>
 apick v13 (
 og (lenS a2) fun v15=>
 og (ibin .neq v15 (iv 2)) fun v16=>
 apick v16 (
 aret (iv 1) σ R) (
 og (anil a0) fun v20=>
 og (fldA 0 v20) fun v21=>
 og (lod v21 σ) fun v22=>
 og (idx 1 a2 (iv 1) σ) fun v24=>
 og (lod v24 σ) fun v25=>
 acall TP fn_spec_l3Sub [v22,v25] σ (onr (fun v26 σ=>
 (True)∧
 og (bld [(iv 0),(iv 0),(iv 0),(iv 0),(str ⟨#[]⟩),nilS] [(0,1),(1,1),(2,1),(3,1),(4,1),(5,1)] [(0,(iv 1)),(1,a3),(5,v26)]) fun v27=>
 acall TP fn_spec_l4Put [a0,v27] σ (onr (fun v28 σ=>
 (True)∧
 aret (iv 0) σ R) (pn R))) (pn R)))) (
 og (sbin .eql a1 (.val (.string ⟨#[105,102]⟩))) fun v30=>
 apick v30 (
 og (lenS a2) fun v32=>
 og (ibin .neq v32 (iv 4)) fun v33=>
 apick v33 (
 aret (iv 1) σ R) (
 og (slc 1 a2 (some (iv 1)) none none σ) fun v36=>
 og (bld [(iv 0),(iv 0),(iv 0),(iv 0),(str ⟨#[]⟩),nilS] [(0,1),(1,1),(2,1),(3,1),(4,1),(5,1)] [(0,(iv 4)),(1,a3)]) fun v39=>
 acall TP fn_spec_l4Put [a0,v39] σ (onr (fun v40 σ=>
 (slc 1 a2 (some (iv 1)) none none σ=some v36∧True)∧
 acall TP fn_spec_l4All [a0,v36,v40,a4] σ (onr (fun v42 σ=>
 (True)∧
 aret v42 σ R) (pn R))) (pn R)))) (
 og (sbin .eql a1 (.val (.string ⟨#[98,101,103,105,110]⟩))) fun v44=>
 apick v44 (
 og (lenS a2) fun v46=>
 og (ibin .lss v46 (iv 2)) fun v47=>
 apick v47 (
 aret (iv 1) σ R) (
 og (slc 1 a2 (some (iv 1)) none none σ) fun v50=>
 og (bld [(iv 0),(iv 0),(iv 0),(iv 0),(str ⟨#[]⟩),nilS] [(0,1),(1,1),(2,1),(3,1),(4,1),(5,1)] [(0,(iv 6)),(1,a3)]) fun v53=>
 acall TP fn_spec_l4Put [a0,v53] σ (onr (fun v54 σ=>
 (slc 1 a2 (some (iv 1)) none none σ=some v50∧True)∧
 acall TP fn_spec_l4All [a0,v50,v54,a4] σ (onr (fun v56 σ=>
 (True)∧
 aret v56 σ R) (pn R))) (pn R)))) (
 og (sbin .eql a1 (.val (.string ⟨#[108,97,109,98,100,97]⟩))) fun v58=>
 apick v58 (
 acall TP fn_spec_l4Lambda [a0,a2,a3,a4] σ (onr (fun v63 σ=>
 aret v63 σ R) (pn R))) (
 og (sbin .eql a1 (.val (.string ⟨#[108,101,116]⟩))) fun v65=>
 apick v65 (
 acall TP fn_spec_l4Let [a0,a2,a3,a4] σ (onr (fun v70 σ=>
 aret v70 σ R) (pn R))) (
 og (sbin .eql a1 (.val (.string ⟨#[100,101,102,105,110,101]⟩))) fun v72=>
 apick v72 (
 acall TP fn_spec_l4Assign [a0,a2,a3,a4,(iv 8)] σ (onr (fun v77 σ=>
 aret v77 σ R) (pn R))) (
 acall TP fn_spec_l4Assign [a0,a2,a3,a4,(iv 7)] σ (onr (fun v82 σ=>
 aret v82 σ R) (pn R))))))))
def x77:Sx:=Q (.sbin .eql (Z 3) (.lit (.val (.string ⟨#[113,117,111,116,101]⟩)))) (P 0 (O 3 (D .neq (Z 0) (Y 2) (P 0 (.ret (Y 1)) (.ord [0,1,2,3,4,5,6,7,8,9,10,11] [0,0,0,4,12,28,0,64,192,508,1022,2047] (Q (A 7) (Q (F 0 0) (M 0 (Q (.idx 1 (Z 8) (Y 1)) (M 0 (.call 73 [(Z 2),(Z 0)] (.wat [] (Q (.bld [(iv 0),(iv 0),(iv 0),(iv 0),(str ⟨#[]⟩),nilS] [(0,1),(1,1),(2,1),(3,1),(4,1),(5,1)] [(0,(Y 1)),(1,(Z 10)),(5,(Z 0))]) (.call 72 [(Z 14),(Z 0)] (.wat [] (.ret (Y 0)))))))))))))))) (Q (.sbin .eql (Z 4) (.lit (.val (.string ⟨#[105,102]⟩)))) (P 0 (O 4 (D .neq (Z 0) (Y 4) (P 0 (.ret (Y 1)) (.ord [0,1,2,3,4,5,7,6,8,9] [0,0,2,0,0,16,56,0,255,511] (Q (.slc 1 (Z 6) (some (Y 1)) none none) (Q (.bld [(iv 0),(iv 0),(iv 0),(iv 0),(str ⟨#[]⟩),nilS] [(0,1),(1,1),(2,1),(3,1),(4,1),(5,1)] [(0,(Y 4)),(1,(Z 6))]) (.call 72 [(Z 10),(Z 0)] (.wat [⟨none,(.slc 1 (Z 9) (some (Y 1)) none none),(Z 2)⟩] (.call 78 [(Z 11),(Z 2),(Z 0),(Z 7)] (.wat [] (.ret (Z 0)))))))))))) (Q (.sbin .eql (Z 5) (.lit (.val (.string ⟨#[98,101,103,105,110]⟩)))) (P 0 (O 5 (D .lss (Z 0) (Y 2) (P 0 (.ret (Y 1)) (.ord [0,1,2,3,4,5,7,6,8,9] [0,0,2,0,0,16,56,0,255,511] (Q (.slc 1 (Z 7) (some (Y 1)) none none) (Q (.bld [(iv 0),(iv 0),(iv 0),(iv 0),(str ⟨#[]⟩),nilS] [(0,1),(1,1),(2,1),(3,1),(4,1),(5,1)] [(0,(Y 6)),(1,(Z 7))]) (.call 72 [(Z 11),(Z 0)] (.wat [⟨none,(.slc 1 (Z 10) (some (Y 1)) none none),(Z 2)⟩] (.call 78 [(Z 12),(Z 2),(Z 0),(Z 8)] (.wat [] (.ret (Z 0)))))))))))) (Q (.sbin .eql (Z 6) (.lit (.val (.string ⟨#[108,97,109,98,100,97]⟩)))) (P 0 (.call 122 [(Z 8),(Z 6),(Z 5),(Z 4)] (.ret (Z 0))) (Q (.sbin .eql (Z 7) (.lit (.val (.string ⟨#[108,101,116]⟩)))) (P 0 (.call 123 [(Z 9),(Z 7),(Z 6),(Z 5)] (.ret (Z 0))) (Q (.sbin .eql (Z 8) (.lit (.val (.string ⟨#[100,101,102,105,110,101]⟩)))) (P 0 (.call 124 [(Z 10),(Z 8),(Z 7),(Z 6),(Y 8)] (.ret (Z 0))) (.call 124 [(Z 10),(Z 8),(Z 7),(Z 6),(Y 7)] (.ret (Z 0))))))))))))))
theorem x77_ok:okF TT Tryz.f77 5 x77=true:=by decide+kernel
theorem s_spec_l4Form_ok (h:s_spec_l4Form a0 a1 a2 a3 a4 σ R):acall TP fn_spec_l4Form [a0,a1,a2,a3,a4] σ R:=
 acall_okF (ρ:=[a4,a3,a2,a1,a0]) TT_ok Tryz.func77 rfl x77 x77_ok rfl h
def s_spec_l4All (a0 a1 a2 a3:AV) (σ:AH) (R:AEnd→AH→Prop):Prop:=
 lp (X:=Tup [0,1,2,3,9]) (fun R1 y1 σ=>
 og (lenS y1.2.1) fun v13=>
 og (ibin .lss y1.2.2.2.2.1 v13) fun v14=>
 apick v14 (
 og (idx 1 y1.2.1 y1.2.2.2.2.1 σ) fun v20=>
 og (lod v20 σ) fun v21=>
 acall TP fn_spec_l4Expand [y1.1,v21,y1.2.2.1,y1.2.2.2.1] σ (onr (fun v24 σ=>
 og (ibin .neq v24 (iv 0)) fun v26=>
 apick v26 (
 aret v24 σ R) (
 og (ibin .add y1.2.2.2.2.1 (iv 1)) fun v16=>
 R1 (y1.1,y1.2.1,y1.2.2.1,y1.2.2.2.1,v16,()) σ)) (pn R))) (
 aret (iv 0) σ R)) (a0,a1,a2,a3,(iv 0),()) σ
def x78:Sx:= .lp [0,1,2,3,9] (O 1 (D .lss (Z 5) (Z 0) (P 0 (J 1 3 6 (M 0 (.call 39 [(Z 4),(Z 0),(Z 6),(Z 7)] (D .neq (Z 0) (Y 0) (P 0 (.ret (Z 1)) (D .add (Z 10) (Y 1) (.jump 0 [(Z 7),(Z 8),(Z 9),(Z 10),(Z 0)]))))))) (.ret (Y 0))))) [(Z 3),(Z 2),(Z 1),(Z 0),(Y 0)]
theorem x78_ok:okF TT Tryz.f78 4 x78=true:=by decide+kernel
theorem s_spec_l4All_ok (h:s_spec_l4All a0 a1 a2 a3 σ R):acall TP fn_spec_l4All [a0,a1,a2,a3] σ R:=
 acall_okF (ρ:=[a3,a2,a1,a0]) TT_ok Tryz.func78 rfl x78 x78_ok rfl h
def s_spec_l4Bare (a0:AV) (σ:AH) (R:AEnd→AH→Prop):Prop:=
 og (anil a0) fun v5=>
 og (fldA 0 v5) fun v6=>
 og (lod v6 σ) fun v7=>
 og (ibin .eql v7 (iv 2)) fun v8=>
 og (gval v8 false false (some a0)) fun v10=>
 og (gval v8 false false (anil v10)) fun v11=>
 og (gval v8 false false (fldA 0 v11)) fun v12=>
 og (gval v8 false false (lod v12 σ)) fun v13=>
 og (gval v8 false false (ibin .eql v13 (iv 5))) fun v14=>
 og (pickV v8 (.val (.bool true)) v14) fun v15=>
 jn (X:=Tup [2]) (fun x1 σ=>
 aret x1.1 σ R) fun k1=>
 og (anil a0) fun v17=>
 og (fldA 0 v17) fun v18=>
 og (lod v18 σ) fun v19=>
 acall TP fn_spec_l1In [v19,(iv 1),(iv 9)] σ (onr (fun v20 σ=>
 og (gval v20 true false (some v15)) fun v22=>
 og (gval v20 true false (some v22)) fun v23=>
 og (gval v23 false true (some a0)) fun v24=>
 og (gval v23 false true (anil v24)) fun v25=>
 og (gval v23 false true (fldA 2 v25)) fun v26=>
 og (gval v23 false true (lod v26 σ)) fun v27=>
 og (gval v23 false true (ibin .eql v27 (iv 0))) fun v28=>
 og (gval v20 true false (pickV v23 (.val (.bool true)) v28)) fun v29=>
 og (pickV v20 v29 (.val (.bool false))) fun v30=>
 og (gval v30 true false (some a0)) fun v32=>
 og (gval v30 true false (anil v32)) fun v33=>
 og (gval v30 true false (fldA 0 v33)) fun v34=>
 og (gval v30 true false (lod v34 σ)) fun v35=>
 og (gval v30 true false (ibin .eql v35 (iv 2))) fun v36=>
 og (gval v30 true false (some v36)) fun v37=>
 og (gval v37 false true (some a0)) fun v38=>
 og (gval v37 false true (anil v38)) fun v39=>
 og (gval v37 false true (fldA 3 v39)) fun v40=>
 og (gval v37 false true (lod v40 σ)) fun v41=>
 og (gval v37 false true (ibin .eql v41 (iv 0))) fun v42=>
 og (gval v30 true false (pickV v37 (.val (.bool true)) v42)) fun v43=>
 og (pickV v30 v43 (.val (.bool false))) fun v44=>
 og (gval v44 true false (some a0)) fun v46=>
 og (gval v44 true false (anil v46)) fun v47=>
 og (gval v44 true false (fldA 0 v47)) fun v48=>
 og (gval v44 true false (lod v48 σ)) fun v49=>
 gpick v44 (
 acall TP fn_spec_l4Named [v49] σ (onr (fun v50 σ=>
 og (gval v50 false true (some a0)) fun v52=>
 og (gval v50 false true (anil v52)) fun v53=>
 og (gval v50 false true (fldA 4 v53)) fun v54=>
 og (gval v50 false true (lod v54 σ)) fun v55=>
 og (gval v50 false true (sbin .eql v55 (str ⟨#[]⟩))) fun v56=>
 og (pickV v50 (.val (.bool true)) v56) fun v57=>
 og (gval v57 true false (some a0)) fun v60=>
 og (gval v57 true false (anil v60)) fun v61=>
 og (gval v57 true false (fldA 0 v61)) fun v62=>
 og (gval v57 true false (lod v62 σ)) fun v63=>
 og (gval v57 true false (ibin .eql v63 (iv 1))) fun v64=>
 og (gval v57 true false (some v64)) fun v65=>
 og (gval v65 false true (some a0)) fun v66=>
 og (gval v65 false true (anil v66)) fun v67=>
 og (gval v65 false true (fldA 5 v67)) fun v68=>
 og (gval v65 false true (lod v68 σ)) fun v69=>
 og (gval v65 false true (lenS v69)) fun v70=>
 og (gval v65 false true (ibin .eql v70 (iv 0))) fun v71=>
 og (gval v57 true false (pickV v65 (.val (.bool true)) v71)) fun v72=>
 og (pickV v57 v72 (.val (.bool false))) fun v73=>
 k1 (v73,()) σ) (pn R))) (
 k1 ((.val (.bool false)),()) σ) (False)) (pn R))
def x79:Sx:=Q (A 0) (Q (F 0 0) (M 0 (D .eql (Z 0) (Y 2) (G 0 (.ret (Z 4)) (G 1 (A 0) (G 2 (F 0 0) (G 3 (L 0) (G 4 (B .eql (Z 0) (Y 5)) (Q (.pickV (Z 5) (.lit (.val (.bool true))) (Z 0)) (.jn 15 [2] (.ret (Z 0)) (Q (A 10) (Q (F 0 0) (M 0 (.call 68 [(Z 0),(Y 1),(Y 9)] (H 0 (.ret (Z 4)) (H 1 (.ret (Z 0)) (.gog (Z 0) false true (.ret (Z 16)) (.gog (Z 1) false true (A 0) (.gog (Z 2) false true (F 2 0) (.gog (Z 3) false true (L 0) (.gog (Z 4) false true (B .eql (Z 0) (Y 0)) (H 7 (.pickV (Z 5) (.lit (.val (.bool true))) (Z 0)) (Q (.pickV (Z 8) (Z 0) (.lit (.val (.bool false)))) (H 0 (.ret (Z 23)) (H 1 (A 0) (H 2 (F 0 0) (H 3 (L 0) (H 4 (B .eql (Z 0) (Y 2)) (H 5 (.ret (Z 0)) (.gog (Z 0) false true (.ret (Z 29)) (.gog (Z 1) false true (A 0) (.gog (Z 2) false true (F 3 0) (.gog (Z 3) false true (L 0) (.gog (Z 4) false true (B .eql (Z 0) (Y 0)) (H 11 (.pickV (Z 5) (.lit (.val (.bool true))) (Z 0)) (Q (.pickV (Z 12) (Z 0) (.lit (.val (.bool false)))) (H 0 (.ret (Z 36)) (H 1 (A 0) (H 2 (F 0 0) (H 3 (L 0) (.gpick (Z 4) (.call 81 [(Z 0)] (.gog (Z 0) false true (.ret (Z 41)) (.gog (Z 1) false true (A 0) (.gog (Z 2) false true (F 4 0) (.gog (Z 3) false true (L 0) (.gog (Z 4) false true (.sbin .eql (Z 0) (.lit (str ⟨#[]⟩))) (Q (.pickV (Z 5) (.lit (.val (.bool true))) (Z 0)) (H 0 (.ret (Z 47)) (H 1 (A 0) (H 2 (F 0 0) (H 3 (L 0) (H 4 (B .eql (Z 0) (Y 1)) (H 5 (.ret (Z 0)) (.gog (Z 0) false true (.ret (Z 53)) (.gog (Z 1) false true (A 0) (.gog (Z 2) false true (F 5 0) (.gog (Z 3) false true (L 0) (.gog (Z 4) false true (N 0) (.gog (Z 5) false true (B .eql (Z 0) (Y 0)) (H 12 (.pickV (Z 6) (.lit (.val (.bool true))) (Z 0)) (Q (.pickV (Z 13) (Z 0) (.lit (.val (.bool false)))) (.jump 0 [(Z 0)])))))))))))))))))))))) (.jump 0 [(.lit (.val (.bool false)))]) (.no))))))))))))))))))))))))))))))))))))))))))
theorem x79_ok:okF TT Tryz.f79 1 x79=true:=by decide+kernel
theorem s_spec_l4Bare_ok (h:s_spec_l4Bare a0 σ R):acall TP fn_spec_l4Bare [a0] σ R:=
 acall_okF (ρ:=[a0]) TT_ok Tryz.func79 rfl x79 x79_ok rfl h
def s_spec_l4Line (a0 a1:AV) (σ:AH) (R:AEnd→AH→Prop):Prop:=
 og (ibin .sub a1 (iv 1)) fun v8=>
 lp (X:=Tup [0,1,5,6]) (fun R1 y1 σ=>
 og (ibin .geq y1.2.2.2.1 (iv 0)) fun v10=>
 og (gval v10 true false (some y1.2.2.1)) fun v12=>
 og (gval v10 true false (ibin .lss v12 (iv 200))) fun v13=>
 og (pickV v10 v13 (.val (.bool false))) fun v14=>
 apick v14 (
 og (idx 6 y1.1 y1.2.1 σ) fun v23=>
 og (fldA 1 v23) fun v24=>
 og (lod v24 σ) fun v25=>
 og (ibin .eql y1.2.2.2.1 v25) fun v26=>
 apick v26 (
 aret (.val (.bool true)) σ R) (
 og (ibin .add y1.2.2.1 (iv 1)) fun v28=>
 og (idx 6 y1.1 y1.2.2.2.1 σ) fun v17=>
 og (fldA 1 v17) fun v18=>
 og (lod v18 σ) fun v19=>
 R1 (y1.1,y1.2.1,v28,v19,()) σ)) (
 aret (.val (.bool false)) σ R)) (a0,a1,(iv 0),v8,()) σ
def x80:Sx:=D .sub (Z 0) (Y 1) (.lp [0,1,5,6] (D .geq (Z 3) (Y 0) (H 0 (.ret (Z 3)) (H 1 (B .lss (Z 0) (Y 200)) (Q (.pickV (Z 2) (Z 0) (.lit (.val (.bool false)))) (P 0 (J 6 4 5 (Q (F 1 0) (M 0 (D .eql (Z 10) (Z 0) (P 0 (.ret (.lit (.val (.bool true)))) (D .add (Z 10) (Y 1) (J 6 9 12 (Q (F 1 0) (M 0 (.jump 0 [(Z 12),(Z 13),(Z 3),(Z 0)])))))))))) (.ret (.lit (.val (.bool false))))))))) [(Z 2),(Z 1),(Y 0),(Z 0)])
theorem x80_ok:okF TT Tryz.f80 2 x80=true:=by decide+kernel
theorem s_spec_l4Line_ok (h:s_spec_l4Line a0 a1 σ R):acall TP fn_spec_l4Line [a0,a1] σ R:=
 acall_okF (ρ:=[a1,a0]) TT_ok Tryz.func80 rfl x80 x80_ok rfl h
def s_spec_l4Named (a0:AV) (σ:AH) (R:AEnd→AH→Prop):Prop:=
 og (ibin .eql a0 (iv 3)) fun v4=>
 og (gval v4 false false (some a0)) fun v6=>
 og (gval v4 false false (ibin .eql v6 (iv 7))) fun v7=>
 og (pickV v4 (.val (.bool true)) v7) fun v8=>
 og (gval v8 false false (some a0)) fun v10=>
 og (gval v8 false false (ibin .eql v10 (iv 8))) fun v11=>
 og (pickV v8 (.val (.bool true)) v11) fun v12=>
 aret v12 σ R
def x81:Sx:=D .eql (Z 0) (Y 3) (G 0 (.ret (Z 1)) (G 1 (B .eql (Z 0) (Y 7)) (Q (.pickV (Z 2) (.lit (.val (.bool true))) (Z 0)) (G 0 (.ret (Z 4)) (G 1 (B .eql (Z 0) (Y 8)) (Q (.pickV (Z 2) (.lit (.val (.bool true))) (Z 0)) (.ret (Z 0))))))))
theorem x81_ok:okF TT Tryz.f81 1 x81=true:=by decide+kernel
theorem s_spec_l4Named_ok (h:s_spec_l4Named a0 σ R):acall TP fn_spec_l4Named [a0] σ R:=
 acall_okF (ρ:=[a0]) TT_ok Tryz.func81 rfl x81 x81_ok rfl h
def s_spec_l4Name (a0:AV) (σ:AH) (R:AEnd→AH→Prop):Prop:=
 jn (X:=Tup [2]) (fun x1 σ=>
 aret x1.1 σ R) fun k1=>
 acall TP fn_spec_l2Sym [a0] σ (onr (fun v4 σ=>
 og (gval v4 true false (some a0)) fun v6=>
 gpick v4 (
 acall TP fn_spec_IsKeyword [v6] σ (onr (fun v7 σ=>
 og (aun .not v7) fun v8=>
 k1 (v8,()) σ) (pn R))) (
 k1 ((.val (.bool false)),()) σ) (False)) (pn R))
def x82:Sx:= .jn 7 [2] (.ret (Z 0)) (.call 69 [(Z 0)] (H 0 (.ret (Z 1)) (.gpick (Z 1) (.call 74 [(Z 0)] (Q (.aun .not (Z 0)) (.jump 0 [(Z 0)]))) (.jump 0 [(.lit (.val (.bool false)))]) (.no))))
theorem x82_ok:okF TT Tryz.f82 1 x82=true:=by decide+kernel
theorem s_spec_l4Name_ok (h:s_spec_l4Name a0 σ R):acall TP fn_spec_l4Name [a0] σ R:=
 acall_okF (ρ:=[a0]) TT_ok Tryz.func82 rfl x82 x82_ok rfl h
def s_spec_l4Place (a0 a1:AV) (σ:AH) (R:AEnd→AH→Prop):Prop:=
 og (idx 6 a0 a1 σ) fun v9=>
 og (anil v9) fun v11=>
 og (fldA 0 v11) fun v12=>
 og (lod v12 σ) fun v13=>
 og (ibin .eql v13 (iv 5)) fun v14=>
 apick v14 (
 og (anil v9) fun v16=>
 og (fldA 2 v16) fun v17=>
 og (lod v17 σ) fun v18=>
 acall TP fn_spec_l1In [v18,(iv 0),(iv 3)] σ (onr (fun v19 σ=>
 aret v19 σ R) (pn R))) (
 og (anil v9) fun v21=>
 og (fldA 0 v21) fun v22=>
 og (lod v22 σ) fun v23=>
 og (ibin .neq v23 (iv 2)) fun v24=>
 apick v24 (
 aret (.val (.bool true)) σ R) (
 og (anil v9) fun v26=>
 og (fldA 2 v26) fun v27=>
 og (lod v27 σ) fun v28=>
 acall TP fn_spec_l1In [v28,(iv 0),(iv 160)] σ (onr (fun v29 σ=>
 og (aun .not v29) fun v30=>
 apick v30 (
 aret (.val (.bool false)) σ R) (
 og (anil v9) fun v34=>
 og (fldA 2 v34) fun v35=>
 og (lod v35 σ) fun v36=>
 acall TP fn_spec_l4Around [a0,a1,v36] σ (onr (fun v37 σ=>
 jn (X:=Tup [4]) (fun x1 σ=>
 aret x1.1 σ R) fun k1=>
 og (ibin .geq v37 (iv 0)) fun v39=>
 og (gval v39 true false (some v9)) fun v41=>
 og (gval v39 true false (anil v41)) fun v42=>
 og (gval v39 true false (fldA 3 v42)) fun v43=>
 og (gval v39 true false (lod v43 σ)) fun v44=>
 og (gval v39 true false (some a0)) fun v45=>
 og (gval v39 true false (some v37)) fun v46=>
 og (gval v39 true false (idx 6 v45 v46 σ)) fun v47=>
 og (gval v39 true false (fldA 2 v47)) fun v48=>
 og (gval v39 true false (lod v48 σ)) fun v49=>
 og (gval v39 true false (ibin .sub v49 (iv 1))) fun v50=>
 gpick v39 (
 acall TP fn_spec_l1In [v44,(iv 0),v50] σ (onr (fun v51 σ=>
 (True)∧
 k1 (v51,()) σ) (pn R))) (
 k1 ((.val (.bool false)),()) σ) (False)) (pn R)))) (pn R))))
def x83:Sx:=J 6 1 0 (Q (A 0) (Q (F 0 0) (M 0 (D .eql (Z 0) (Y 5) (P 0 (Q (A 4) (Q (F 2 0) (M 0 (.call 68 [(Z 0),(Y 0),(Y 3)] (.ret (Z 0)))))) (Q (A 4) (Q (F 0 0) (M 0 (D .neq (Z 0) (Y 2) (P 0 (.ret (.lit (.val (.bool true)))) (Q (A 8) (Q (F 2 0) (M 0 (.call 68 [(Z 0),(Y 0),(Y 160)] (Q (.aun .not (Z 0)) (P 0 (.ret (.lit (.val (.bool false)))) (Q (A 13) (Q (F 2 0) (M 0 (.call 125 [(Z 18),(Z 17),(Z 0)] (.jn 255 [4] (.ret (Z 0)) (.ord [0,1,2,3,4,5,6,7,8,9,10,11,12,13,14,15] [0,1,3,7,15,31,63,7,7,391,903,1927,3975,8191,16383,32767] (D .geq (Z 0) (Y 0) (H 0 (.ret (Z 18)) (H 1 (A 0) (H 2 (F 3 0) (H 3 (L 0) (H 4 (.ret (Z 24)) (H 5 (.ret (Z 6)) (H 6 (I 6 1 0) (H 7 (F 2 0) (H 8 (L 0) (H 9 (B .sub (Z 0) (Y 1)) (.gpick (Z 10) (.call 68 [(Z 6),(Y 0),(Z 0)] (.wat [] (.jump 0 [(Z 0)]))) (.jump 0 [(.lit (.val (.bool false)))]) (.no)))))))))))))))))))))))))))))))))))
theorem x83_ok:okF TT Tryz.f83 2 x83=true:=by decide+kernel
theorem s_spec_l4Place_ok (h:s_spec_l4Place a0 a1 σ R):acall TP fn_spec_l4Place [a0,a1] σ R:=
 acall_okF (ρ:=[a1,a0]) TT_ok Tryz.func83 rfl x83 x83_ok rfl h
def s_impl_wordToken (a0:AV) (σ:AH) (R:AEnd→AH→Prop):Prop:=
 new [(iv 0),(iv 0),(str ⟨#[]⟩)] σ fun v2 σ=>
 og (sbin .eql a0 (.val (.string ⟨#[35,116]⟩))) fun v7=>
 apick v7 (
 og (bld [(iv 0),(iv 0),(str ⟨#[]⟩)] [(0,1),(1,1),(2,1)] [(0,(iv 5)),(1,(iv 1))]) fun v8=>
 sto 3 v2 v8 σ fun σ=>
 og (lodA 3 v2 σ) fun r2=>
 aret (.tup [r2,(.val (.bool true))]) σ R) (
 og (sbin .eql a0 (.val (.string ⟨#[35,102]⟩))) fun v10=>
 apick v10 (
 og (bld [(iv 0),(iv 0),(str ⟨#[]⟩)] [(0,1),(1,1),(2,1)] [(0,(iv 5))]) fun v11=>
 sto 3 v2 v11 σ fun σ=>
 og (lodA 3 v2 σ) fun r2=>
 aret (.tup [r2,(.val (.bool true))]) σ R) (
 acall TP fn_impl_ParseNum [a0] σ (onr (fun v13 σ=>
 new [(iv 0),(iv 0)] σ fun v4 σ=>
 sto 2 v4 v13 σ fun σ=>
 frz v4 σ fun f4 σ=>
 og (fldA 0 f4) fun v14=>
 og (lod v14 σ) fun v15=>
 og (ibin .eql v15 (iv 0)) fun v16=>
 apick v16 (
 og (fldA 1 f4) fun v17=>
 og (lod v17 σ) fun v18=>
 og (bld [(iv 0),(iv 0),(str ⟨#[]⟩)] [(0,1),(1,1),(2,1)] [(0,(iv 4)),(1,v18)]) fun v19=>
 sto 3 v2 v19 σ fun σ=>
 og (lodA 3 v2 σ) fun r2=>
 aret (.tup [r2,(.val (.bool true))]) σ R) (
 og (bld [(iv 0),(iv 0),(str ⟨#[]⟩)] [(0,1),(1,1),(2,1)] [(0,(iv 6)),(2,a0)]) fun v21=>
 acall TP fn_impl_SymFault [a0] σ (onr (fun v23 σ=>
 og (ibin .eql v23 (iv 0)) fun v24=>
 sto 3 v2 v21 σ fun σ=>
 og (lodA 3 v2 σ) fun r2=>
 aret (.tup [r2,v24]) σ R) (pn R)))) (pn R))))
def x87:Sx:= .new [(iv 0),(iv 0),(str ⟨#[]⟩)] (Q (.sbin .eql (Z 1) (.lit (.val (.string ⟨#[35,116]⟩)))) (P 0 (Q (.bld [(iv 0),(iv 0),(str ⟨#[]⟩)] [(0,1),(1,1),(2,1)] [(0,(Y 5)),(1,(Y 1))]) (.sto 3 (Z 2) (Z 0) (Q (.lodA 3 (Z 2)) (.rets [(Z 0),(.lit (.val (.bool true)))])))) (Q (.sbin .eql (Z 2) (.lit (.val (.string ⟨#[35,102]⟩)))) (P 0 (Q (.bld [(iv 0),(iv 0),(str ⟨#[]⟩)] [(0,1),(1,1),(2,1)] [(0,(Y 5))]) (.sto 3 (Z 3) (Z 0) (Q (.lodA 3 (Z 3)) (.rets [(Z 0),(.lit (.val (.bool true)))])))) (.call 132 [(Z 3)] (.new [(iv 0),(iv 0)] (.sto 2 (Z 0) (Z 1) (.frz 5 (Z 0) (Q (F 0 0) (M 0 (D .eql (Z 0) (Y 0) (P 0 (Q (F 1 3) (M 0 (Q (.bld [(iv 0),(iv 0),(str ⟨#[]⟩)] [(0,1),(1,1),(2,1)] [(0,(Y 4)),(1,(Z 0))]) (.sto 3 (Z 11) (Z 0) (Q (.lodA 3 (Z 11)) (.rets [(Z 0),(.lit (.val (.bool true)))])))))) (Q (.bld [(iv 0),(iv 0),(str ⟨#[]⟩)] [(0,1),(1,1),(2,1)] [(0,(Y 6)),(2,(Z 9))]) (.call 133 [(Z 10)] (D .eql (Z 0) (Y 0) (.sto 3 (Z 11) (Z 2) (Q (.lodA 3 (Z 11)) (.rets [(Z 0),(Z 1)]))))))))))))))))))
theorem x87_ok:okF TT Tryz.f87 1 x87=true:=by decide+kernel
theorem s_impl_wordToken_ok (h:s_impl_wordToken a0 σ R):acall TP fn_impl_wordToken [a0] σ R:=
 acall_okF (ρ:=[a0]) TT_ok Tryz.func87 rfl x87 x87_ok rfl h
def s_impl_dataReader_add (a0 a1 a2:AV) (σ:AH) (R:AEnd→AH→Prop):Prop:=
 abox a1 σ fun v4 σ=>
 og (anil a0) fun v8=>
 og (fldA 0 v8) fun v9=>
 og (lod v9 σ) fun v10=>
 og (lenS v10) fun v11=>
 og (ibin .add v11 (iv 1)) fun v12=>
 og (ibin .add v12 a2) fun v14=>
 og (ibin .gtr v14 (iv 80)) fun v15=>
 og (gval v15 false false (some a0)) fun v17=>
 og (gval v15 false false (anil v17)) fun v18=>
 og (gval v15 false false (fldA 1 v18)) fun v19=>
 og (gval v15 false false (lod v19 σ)) fun v20=>
 og (gval v15 false false (lenS v20)) fun v21=>
 og (gval v15 false false (ibin .add v21 (iv 1))) fun v22=>
 og (gval v15 false false (some a2)) fun v23=>
 og (gval v15 false false (ibin .add v22 v23)) fun v24=>
 og (gval v15 false false (ibin .gtr v24 (iv 12))) fun v25=>
 og (pickV v15 (.val (.bool true)) v25) fun v26=>
 apick v26 (
 aret (.val (.bool false)) σ R) (
 acall TP fn_impl_dataReader_top [a0] σ (onr (fun v29 σ=>
 og (aext v29 0) fun v30=>
 og (aext v29 1) fun v31=>
 og (fldA 1 v4) fun v32=>
 sto 1 v32 v30 σ fun σ=>
 frz v4 σ fun f4 σ=>
 og (anil a0) fun v35=>
 og (fldA 0 v35) fun v36=>
 og (lod v36 σ) fun v37=>
 og (lodA 4 f4 σ) fun v38=>
 og (bslR 4 [(iv 0),(iv 0),(iv 0),(str ⟨#[]⟩)] 1 [(0,v38)]) fun v39=>
 app 4 v37 v39 σ fun v40 σ=>
 (True)∧
 og (anil a0) fun v41=>
 og (fldA 0 v41) fun v42=>
 sto 1 v42 v40 σ fun σ=>
 (True)∧
 aret (.val (.bool true)) σ R) (pn R)))
def x88:Sx:= .box (Z 1) (Q (A 3) (Q (F 0 0) (M 0 (O 0 (D .add (Z 0) (Y 1) (D .add (Z 0) (Z 6) (D .gtr (Z 0) (Y 80) (G 0 (.ret (Z 10)) (G 1 (A 0) (G 2 (F 1 0) (G 3 (L 0) (G 4 (N 0) (G 5 (B .add (Z 0) (Y 1)) (G 6 (.ret (Z 14)) (G 7 (B .add (Z 1) (Z 0)) (G 8 (B .gtr (Z 0) (Y 12)) (Q (.pickV (Z 9) (.lit (.val (.bool true))) (Z 0)) (P 0 (.ret (.lit (.val (.bool false)))) (.call 89 [(Z 20)] (Q (.aext (Z 0) 0) (Q (.aext (Z 1) 1) (Q (F 1 20) (.sto 1 (Z 0) (Z 2) (.frz 3 (Z 21) (.ord [0,1,2,3,4,5,6,7,8,9,10] [0,0,2,6,14,0,32,126,255,511,1023] (Q (A 25) (Q (F 0 0) (M 0 (Q (.lodA 4 (Z 3)) (Q (.bslR 4 [(iv 0),(iv 0),(iv 0),(str ⟨#[]⟩)] 1 [(0,(Z 0))]) (.app 4 (Z 2) (Z 0) (.wat [] (Q (A 31) (Q (F 0 0) (.sto 1 (Z 0) (Z 2) (.wat [] (.ret (.lit (.val (.bool true))))))))))))))))))))))))))))))))))))))))
theorem x88_ok:okF TT Tryz.f88 3 x88=true:=by decide+kernel
theorem s_impl_dataReader_add_ok (h:s_impl_dataReader_add a0 a1 a2 σ R):acall TP fn_impl_dataReader_add [a0,a1,a2] σ R:=
 acall_okF (ρ:=[a2,a1,a0]) TT_ok Tryz.func88 rfl x88 x88_ok rfl h
def s_impl_dataReader_top (a0:AV) (σ:AH) (R:AEnd→AH→Prop):Prop:=
 og (anil a0) fun v6=>
 og (fldA 1 v6) fun v7=>
 og (lod v7 σ) fun v8=>
 og (lenS v8) fun v9=>
 og (ibin .eql v9 (iv 0)) fun v10=>
 apick v10 (
 aret (.tup [(iv (-1)),(.val (.bool false))]) σ R) (
 og (anil a0) fun v12=>
 og (fldA 1 v12) fun v13=>
 og (lod v13 σ) fun v14=>
 og (anil a0) fun v16=>
 og (fldA 1 v16) fun v17=>
 og (lod v17 σ) fun v18=>
 og (lenS v18) fun v19=>
 og (ibin .sub v19 (iv 1)) fun v20=>
 og (idx 1 v14 v20 σ) fun v21=>
 og (lod v21 σ) fun v22=>
 og (ibin .lss v22 (iv 0)) fun v24=>
 apick v24 (
 og (ibin .sub (iv (-1)) v22) fun v26=>
 aret (.tup [v26,(.val (.bool true))]) σ R) (
 aret (.tup [v22,(.val (.bool false))]) σ R))
def x89:Sx:=Q (A 0) (Q (F 1 0) (M 0 (O 0 (D .eql (Z 0) (Y 0) (P 0 (.rets [(Y (-1)),(.lit (.val (.bool false)))]) (.ord [0,1,2,3,4,5,6,7,8,9,10,11,12] [0,1,3,7,0,16,48,112,240,496,1023,2047,4095] (Q (A 5) (Q (F 1 0) (M 0 (Q (A 8) (Q (F 1 0) (M 0 (O 0 (D .sub (Z 0) (Y 1) (J 1 5 0 (M 0 (D .lss (Z 0) (Y 0) (P 0 (D .sub (Y (-1)) (Z 1) (.rets [(Z 0),(.lit (.val (.bool true)))])) (.rets [(Z 1),(.lit (.val (.bool false)))])))))))))))))))))))
theorem x89_ok:okF TT Tryz.f89 1 x89=true:=by decide+kernel
theorem s_impl_dataReader_top_ok (h:s_impl_dataReader_top a0 σ R):acall TP fn_impl_dataReader_top [a0] σ R:=
 acall_okF (ρ:=[a0]) TT_ok Tryz.func89 rfl x89 x89_ok rfl h
def s_impl_dataReader_whole (a0:AV) (σ:AH) (R:AEnd→AH→Prop):Prop:=
 lp (X:=Tup [0]) (fun R1 y1 σ=>
 og (anil y1.1) fun v3=>
 og (fldA 1 v3) fun v4=>
 og (lod v4 σ) fun v5=>
 og (lenS v5) fun v6=>
 og (ibin .gtr v6 (iv 0)) fun v7=>
 og (gval v7 true false (some y1.1)) fun v9=>
 og (gval v7 true false (anil v9)) fun v10=>
 og (gval v7 true false (fldA 1 v10)) fun v11=>
 og (gval v7 true false (lod v11 σ)) fun v12=>
 og (gval v7 true false (some y1.1)) fun v13=>
 og (gval v7 true false (anil v13)) fun v14=>
 og (gval v7 true false (fldA 1 v14)) fun v15=>
 og (gval v7 true false (lod v15 σ)) fun v16=>
 og (gval v7 true false (lenS v16)) fun v17=>
 og (gval v7 true false (ibin .sub v17 (iv 1))) fun v18=>
 og (gval v7 true false (idx 1 v12 v18 σ)) fun v19=>
 og (gval v7 true false (lod v19 σ)) fun v20=>
 og (gval v7 true false (ibin .lss v20 (iv 0))) fun v21=>
 og (pickV v7 v21 (.val (.bool false))) fun v22=>
 apick v22 (
 og (anil y1.1) fun v25=>
 og (fldA 1 v25) fun v26=>
 og (lod v26 σ) fun v27=>
 og (anil y1.1) fun v29=>
 og (fldA 1 v29) fun v30=>
 og (lod v30 σ) fun v31=>
 og (lenS v31) fun v32=>
 og (ibin .sub v32 (iv 1)) fun v33=>
 og (slc 1 v27 none (some v33) none σ) fun v34=>
 og (anil y1.1) fun v35=>
 og (fldA 1 v35) fun v36=>
 sto 1 v36 v34 σ fun σ=>
 (True)∧
 R1 (y1.1,()) σ) (
 aret (.tup []) σ R)) (a0,()) σ
def x90:Sx:= .lp [0] (.ord [0,1,2,3,4,5,6,7,8,9,10,11,12,13,14,15,16,17,18,19,20] [0,1,3,7,15,31,63,127,255,511,1023,127,2175,6271,14463,30847,63615,131071,262143,524287,1048575] (Q (A 0) (Q (F 1 0) (M 0 (O 0 (D .gtr (Z 0) (Y 0) (H 0 (.ret (Z 5)) (H 1 (A 0) (H 2 (F 1 0) (H 3 (L 0) (H 4 (.ret (Z 9)) (H 5 (A 0) (H 6 (F 1 0) (H 7 (L 0) (H 8 (N 0) (H 9 (B .sub (Z 0) (Y 1)) (H 10 (I 1 6 0) (H 11 (L 0) (H 12 (B .lss (Z 0) (Y 0)) (Q (.pickV (Z 13) (Z 0) (.lit (.val (.bool false)))) (P 0 (.ord [0,1,2,3,4,5,6,7,8,9,10,11,12,13,14] [0,0,2,6,14,0,32,96,224,480,992,2046,4095,8191,16383] (Q (A 19) (Q (F 1 0) (M 0 (Q (A 22) (Q (F 1 0) (M 0 (O 0 (D .sub (Z 0) (Y 1) (Q (.slc 1 (Z 5) none (some (Z 0)) none) (Q (A 28) (Q (F 1 0) (.sto 1 (Z 0) (Z 2) (.wat [] (.jump 0 [(Z 30)]))))))))))))))) (.rets [])))))))))))))))))))))) [(Z 0)]
theorem x90_ok:okF TT Tryz.f90 1 x90=true:=by decide+kernel
theorem s_impl_dataReader_whole_ok (h:s_impl_dataReader_whole a0 σ R):acall TP fn_impl_dataReader_whole [a0] σ R:=
 acall_okF (ρ:=[a0]) TT_ok Tryz.func90 rfl x90 x90_ok rfl h
def s_impl_datumFault (a0 a1:AV) (σ:AH) (R:AEnd→AH→Prop):Prop:=
 abox a0 σ fun v2 σ=>
 frz v2 σ fun f2 σ=>
 og (lod f2 σ) fun v7=>
 og (idx 4 v7 a1 σ) fun v9=>
 og (lodA 4 v9 σ) fun v10=>
 new [(iv 0),(iv 0),(iv 0),(str ⟨#[]⟩)] σ fun v5 σ=>
 sto 4 v5 v10 σ fun σ=>
 frz v5 σ fun f5 σ=>
 og (fldA 0 f5) fun v12=>
 og (lod v12 σ) fun v13=>
 acall TP fn_impl_in [v13,(iv 1),(iv 4)] σ (onr (fun v14 σ=>
 og (aun .not v14) fun v15=>
 og (gval v15 false false (fldA 2 f5)) fun v17=>
 og (gval v15 false false (lod v17 σ)) fun v18=>
 og (gval v15 false false (ibin .neq v18 (iv 0))) fun v19=>
 og (gval v15 false false (some v19)) fun v20=>
 og (gval v20 true true (fldA 0 f5)) fun v21=>
 og (gval v20 true true (lod v21 σ)) fun v22=>
 og (gval v20 true true (ibin .neq v22 (iv 1))) fun v23=>
 og (gval v15 false false (pickV v20 v23 (.val (.bool false)))) fun v24=>
 og (gval v15 false false (some v24)) fun v25=>
 og (gval v25 true true (fldA 0 f5)) fun v26=>
 og (gval v25 true true (lod v26 σ)) fun v27=>
 og (gval v25 true true (ibin .neq v27 (iv 2))) fun v28=>
 og (gval v15 false false (pickV v25 v28 (.val (.bool false)))) fun v29=>
 og (pickV v15 (.val (.bool true)) v29) fun v30=>
 og (gval v30 false false (fldA 3 f5)) fun v32=>
 og (gval v30 false false (lod v32 σ)) fun v33=>
 og (gval v30 false false (sbin .neq v33 (str ⟨#[]⟩))) fun v34=>
 og (gval v30 false false (some v34)) fun v35=>
 og (gval v35 true true (fldA 0 f5)) fun v36=>
 og (gval v35 true true (lod v36 σ)) fun v37=>
 og (gval v35 true true (ibin .neq v37 (iv 3))) fun v38=>
 og (gval v30 false false (pickV v35 v38 (.val (.bool false)))) fun v39=>
 og (pickV v30 (.val (.bool true)) v39) fun v40=>
 apick v40 (
 aret (iv 1) σ R) (
 og (fldA 0 f5) fun v41=>
 og (lod v41 σ) fun v42=>
 og (fldA 2 f5) fun v43=>
 og (lod v43 σ) fun v44=>
 og (fldA 3 f5) fun v45=>
 og (lod v45 σ) fun v46=>
 acall TP fn_impl_kindFault [v42,(iv 1),(iv 3),(iv 2),v44,v46] σ (onr (fun v47 σ=>
 og (ibin .neq v47 (iv 0)) fun v49=>
 apick v49 (
 aret v47 σ R) (
 og (ibin .eql a1 (iv 0)) fun v52=>
 apick v52 (
 og (fldA 1 f5) fun v53=>
 og (lod v53 σ) fun v54=>
 og (ibin .neq v54 (iv (-1))) fun v55=>
 apick v55 (
 aret (iv 3) σ R) (
 aret (iv 0) σ R)) (
 og (fldA 1 f5) fun v57=>
 og (lod v57 σ) fun v58=>
 og (ibin .sub a1 (iv 1)) fun v60=>
 acall TP fn_impl_in [v58,(iv 0),v60] σ (onr (fun v61 σ=>
 og (aun .not v61) fun v62=>
 apick v62 (
 aret (iv 3) σ R) (
 jn (X:=Tup [1,2,63]) (fun x1 σ=>
 apick x1.2.2.1 (
 aret (iv 1) σ R) (
 og (lod x1.2.1 σ) fun v81=>
 acall TP fn_impl_deep [v81,x1.1] σ (onr (fun v83 σ=>
 og (ibin .gtr v83 (iv 12)) fun v84=>
 apick v84 (
 aret (iv 2) σ R) (
 aret (iv 0) σ R)) (pn R)))) fun k1=>
 og (lod f2 σ) fun v64=>
 og (fldA 1 f5) fun v65=>
 og (lod v65 σ) fun v66=>
 og (idx 4 v64 v66 σ) fun v67=>
 og (fldA 0 v67) fun v68=>
 og (lod v68 σ) fun v69=>
 og (ibin .neq v69 (iv 4)) fun v70=>
 gpick v70 (
 k1 (a1,f2,(.val (.bool true)),()) σ) (
 og (ibin .sub a1 (iv 1)) fun v74=>
 og (fldA 1 f5) fun v75=>
 og (lod v75 σ) fun v76=>
 acall TP fn_impl_isUp [(.clo (.func fn_impl_datumFault_1) [] [f2]),v74,v76] σ (onr (fun v77 σ=>
 og (aun .not v77) fun v78=>
 k1 (a1,f2,v78,()) σ) (pn R))) (False))) (pn R))))) (pn R)))) (pn R))
def x91:Sx:= .box (Z 1) (.frz 2 (Z 0) (M 0 (J 4 0 3 (Q (.lodA 4 (Z 0)) (.new [(iv 0),(iv 0),(iv 0),(str ⟨#[]⟩)] (.sto 4 (Z 0) (Z 1) (.frz 7 (Z 0) (Q (F 0 0) (M 0 (.call 49 [(Z 0),(Y 1),(Y 4)] (Q (.aun .not (Z 0)) (G 0 (F 2 4) (G 1 (L 0) (G 2 (B .neq (Z 0) (Y 0)) (G 3 (.ret (Z 0)) (.gog (Z 0) true true (F 0 8) (.gog (Z 1) true true (L 0) (.gog (Z 2) true true (B .neq (Z 0) (Y 1)) (G 7 (.pickV (Z 3) (Z 0) (.lit (.val (.bool false)))) (G 8 (.ret (Z 0)) (.gog (Z 0) true true (F 0 13) (.gog (Z 1) true true (L 0) (.gog (Z 2) true true (B .neq (Z 0) (Y 2)) (G 12 (.pickV (Z 3) (Z 0) (.lit (.val (.bool false)))) (Q (.pickV (Z 13) (.lit (.val (.bool true))) (Z 0)) (G 0 (F 3 18) (G 1 (L 0) (G 2 (.sbin .neq (Z 0) (.lit (str ⟨#[]⟩))) (G 3 (.ret (Z 0)) (.gog (Z 0) true true (F 0 22) (.gog (Z 1) true true (L 0) (.gog (Z 2) true true (B .neq (Z 0) (Y 3)) (G 7 (.pickV (Z 3) (Z 0) (.lit (.val (.bool false)))) (Q (.pickV (Z 8) (.lit (.val (.bool true))) (Z 0)) (P 0 (.ret (Y 1)) (Q (F 0 27) (M 0 (Q (F 2 29) (M 0 (Q (F 3 31) (M 0 (.call 134 [(Z 4),(Y 1),(Y 3),(Y 2),(Z 2),(Z 0)] (D .neq (Z 0) (Y 0) (P 0 (.ret (Z 1)) (D .eql (Z 42) (Y 0) (P 0 (Q (F 1 36) (M 0 (D .neq (Z 0) (Y (-1)) (P 0 (.ret (Y 3)) (.ret (Y 0)))))) (Q (F 1 36) (M 0 (D .sub (Z 45) (Y 1) (.call 49 [(Z 1),(Y 0),(Z 0)] (Q (.aun .not (Z 0)) (P 0 (.ret (Y 3)) (.jn 2023 [1,2,63] (P 2 (.ret (Y 1)) (M 1 (.call 136 [(Z 0),(Z 1)] (D .gtr (Z 0) (Y 12) (P 0 (.ret (Y 2)) (.ret (Y 0))))))) (M 46 (Q (F 1 42) (M 0 (J 4 2 0 (Q (F 0 0) (M 0 (D .neq (Z 0) (Y 4) (.gpick (Z 0) (.jump 0 [(Z 55),(Z 53),(.lit (.val (.bool true)))]) (.clo (.func 135) [] [(Z 53)] (D .sub (Z 56) (Y 1) (Q (F 1 50) (M 0 (.call 96 [(Z 3),(Z 2),(Z 0)] (Q (.aun .not (Z 0)) (.jump 0 [(Z 61),(Z 59),(Z 0)]))))))) (.no))))))))))))))))))))))))))))))))))))))))))))))))))))))))))))))
theorem x91_ok:okF TT Tryz.f91 2 x91=true:=by decide+kernel
theorem s_impl_datumFault_ok (h:s_impl_datumFault a0 a1 σ R):acall TP fn_impl_datumFault [a0,a1] σ R:=
 acall_okF (ρ:=[a1,a0]) TT_ok Tryz.func91 rfl x91 x91_ok rfl h
def x92:Sx:= .ord [0,1,2,3] [0,1,0,7] (Q (F 0 0) (M 0 (.sto 1 (Z 4) (.lit nilS) (.wat [⟨none,(.lod (Z 1)),(Z 0)⟩] (.sto 1 (Z 3) (Z 0) (.wat [] (.rets [])))))))
def s_impl_expander_form (a0 a1 a2 a3:AV) (σ:AH) (R:AEnd→AH→Prop):Prop:=
 og (anil a0) fun v15=>
 og (fldA 0 v15) fun v16=>
 og (lod v16 σ) fun v17=>
 og (idx 4 v17 a1 σ) fun v19=>
 og (lodA 4 v19 σ) fun v20=>
 new [(iv 0),(iv 0),(iv 0),(str ⟨#[]⟩)] σ fun v8 σ=>
 sto 4 v8 v20 σ fun σ=>
 frz v8 σ fun f8 σ=>
 og (fldA 0 f8) fun v21=>
 og (lod v21 σ) fun v22=>
 jn (X:=Tup [0,1,2,3,8,22,23]) (fun x1 σ=>
 apick x1.2.2.2.2.2.2.1 (
 og (anil x1.1) fun v29=>
 og (fldA 0 v29) fun v30=>
 og (lod v30 σ) fun v31=>
 acall TP fn_impl_sub [v31,x1.2.1] σ (onr (fun v33 σ=>
 og (bld [(iv 0),(iv 0),(iv 0),(iv 0),(str ⟨#[]⟩),nilS] [(0,1),(1,1),(2,1),(3,1),(4,1),(5,1)] [(0,(iv 1)),(1,x1.2.2.1),(5,v33)]) fun v34=>
 acall TP fn_impl_expander_put [x1.1,v34] σ (onr (fun v35 σ=>
 aret (.tup []) σ R) (pn R))) (pn R))) (
 og (ibin .eql x1.2.2.2.2.2.1 (iv 3)) fun v37=>
 apick v37 (
 og (fldA 3 x1.2.2.2.2.1) fun v38=>
 og (lod v38 σ) fun v39=>
 acall TP fn_impl_IsKeyword [v39] σ (onr (fun v40 σ=>
 acall TP fn_impl_failIf [v40,(iv 1)] σ (onr (fun v41 σ=>
 jn (X:=Tup []) (fun x2 σ=>
 aret (.tup []) σ R) fun k2=>
 og (fldA 3 x1.2.2.2.2.1) fun v44=>
 og (lod v44 σ) fun v45=>
 acall TP fn_impl_find [x1.2.2.2.1,v45] σ (onr (fun v46 σ=>
 og (aext v46 0) fun v47=>
 og (aext v46 1) fun v48=>
 og (aext v46 2) fun v49=>
 apick v49 (
 og (bld [(iv 0),(iv 0),(iv 0),(iv 0),(str ⟨#[]⟩),nilS] [(0,1),(1,1),(2,1),(3,1),(4,1),(5,1)] [(0,(iv 2)),(1,x1.2.2.1),(2,v47),(3,v48)]) fun v55=>
 acall TP fn_impl_expander_put [x1.1,v55] σ (onr (fun v56 σ=>
 k2 (()) σ) (pn R))) (
 og (fldA 3 x1.2.2.2.2.1) fun v59=>
 og (lod v59 σ) fun v60=>
 og (bld [(iv 0),(iv 0),(iv 0),(iv 0),(str ⟨#[]⟩),nilS] [(0,1),(1,1),(2,1),(3,1),(4,1),(5,1)] [(0,(iv 3)),(1,x1.2.2.1),(4,v60)]) fun v61=>
 acall TP fn_impl_expander_put [x1.1,v61] σ (onr (fun v62 σ=>
 k2 (()) σ) (pn R)))) (pn R))) (pn R))) (pn R))) (
 og (anil x1.1) fun v64=>
 og (fldA 0 v64) fun v65=>
 og (lod v65 σ) fun v66=>
 acall TP fn_impl_parts [v66,x1.2.1] σ (onr (fun v68 σ=>
 og (lenS v68) fun v70=>
 og (ibin .eql v70 (iv 0)) fun v71=>
 acall TP fn_impl_failIf [v71,(iv 1)] σ (onr (fun v72 σ=>
 og (anil x1.1) fun v74=>
 og (fldA 0 v74) fun v75=>
 og (lod v75 σ) fun v76=>
 og (idx 1 v68 (iv 0) σ) fun v78=>
 og (lod v78 σ) fun v79=>
 og (idx 4 v76 v79 σ) fun v80=>
 og (lodA 4 v80 σ) fun v81=>
 new [(iv 0),(iv 0),(iv 0),(str ⟨#[]⟩)] σ fun v13 σ=>
 (True)∧
 sto 4 v13 v81 σ fun σ=>
 (True)∧
 jn (X:=Tup [0,2,3,12,13,89]) (fun x3 σ=>
 apick x3.2.2.2.2.2.1 (
 og (fldA 3 x3.2.2.2.2.1) fun v91=>
 og (lod v91 σ) fun v92=>
 og (slc 1 x3.2.2.2.1 (some (iv 1)) none none σ) fun v94=>
 acall TP fn_impl_expander_keyword [x3.1,v92,v94,x3.2.1,x3.2.2.1] σ (onr (fun v97 σ=>
 (True)∧
 aret (.tup []) σ R) (pn R))) (
 og (lenS x3.2.2.2.1) fun v99=>
 og (ibin .gtr v99 (iv 4)) fun v100=>
 acall TP fn_impl_failIf [v100,(iv 2)] σ (onr (fun v101 σ=>
 og (bld [(iv 0),(iv 0),(iv 0),(iv 0),(str ⟨#[]⟩),nilS] [(0,1),(1,1),(2,1),(3,1),(4,1),(5,1)] [(0,(iv 9)),(1,x3.2.1)]) fun v105=>
 acall TP fn_impl_expander_put [x3.1,v105] σ (onr (fun v106 σ=>
 acall TP fn_impl_expander_all [x3.1,v106,x3.2.2.2.1,x3.2.2.1] σ (onr (fun v109 σ=>
 aret (.tup []) σ R) (pn R))) (pn R))) (pn R)))) fun k3=>
 frz v13 σ fun f13 σ=>
 og (fldA 0 f13) fun v82=>
 og (lod v82 σ) fun v83=>
 og (ibin .eql v83 (iv 3)) fun v84=>
 og (gval v84 true false (fldA 3 f13)) fun v86=>
 og (gval v84 true false (lod v86 σ)) fun v87=>
 gpick v84 (
 acall TP fn_impl_IsKeyword [v87] σ (onr (fun v88 σ=>
 k3 (x1.1,x1.2.2.1,x1.2.2.2.1,v68,f13,v88,()) σ) (pn R))) (
 k3 (x1.1,x1.2.2.1,x1.2.2.2.1,v68,f13,(.val (.bool false)),()) σ) (False)) (pn R))) (pn R))))) fun k1=>
 og (ibin .eql v22 (iv 1)) fun v24=>
 apick v24 (
 k1 (a0,a1,a2,a3,f8,v22,v24,()) σ) (
 og (ibin .eql v22 (iv 2)) fun v25=>
 k1 (a0,a1,a2,a3,f8,v22,v25,()) σ)
def x93:Sx:=Q (A 3) (Q (F 0 0) (M 0 (J 4 0 5 (Q (.lodA 4 (Z 0)) (.new [(iv 0),(iv 0),(iv 0),(str ⟨#[]⟩)] (.sto 4 (Z 0) (Z 1) (.frz 9 (Z 0) (Q (F 0 0) (M 0 (.jn 53 [0,1,2,3,8,22,23] (P 6 (Q (A 0) (Q (F 0 0) (M 0 (.call 138 [(Z 0),(Z 4)] (Q (.bld [(iv 0),(iv 0),(iv 0),(iv 0),(str ⟨#[]⟩),nilS] [(0,1),(1,1),(2,1),(3,1),(4,1),(5,1)] [(0,(Y 1)),(1,(Z 6)),(5,(Z 0))]) (.call 137 [(Z 5),(Z 0)] (.rets []))))))) (D .eql (Z 5) (Y 3) (P 0 (Q (F 3 5) (M 0 (.call 139 [(Z 0)] (.call 94 [(Z 0),(Y 1)] (.jn 1723 [] (.rets []) (Q (F 3 9) (M 0 (.call 140 [(Z 10),(Z 0)] (Q (.aext (Z 0) 0) (Q (.aext (Z 1) 1) (Q (.aext (Z 2) 2) (P 0 (Q (.bld [(iv 0),(iv 0),(iv 0),(iv 0),(str ⟨#[]⟩),nilS] [(0,1),(1,1),(2,1),(3,1),(4,1),(5,1)] [(0,(Y 2)),(1,(Z 13)),(2,(Z 2)),(3,(Z 1))]) (.call 137 [(Z 12),(Z 0)] (.jump 0 []))) (Q (F 3 15) (M 0 (Q (.bld [(iv 0),(iv 0),(iv 0),(iv 0),(str ⟨#[]⟩),nilS] [(0,1),(1,1),(2,1),(3,1),(4,1),(5,1)] [(0,(Y 3)),(1,(Z 15)),(4,(Z 0))]) (.call 137 [(Z 14),(Z 0)] (.jump 0 []))))))))))))))))) (Q (A 1) (Q (F 0 0) (M 0 (.call 102 [(Z 0),(Z 5)] (O 0 (D .eql (Z 0) (Y 0) (.call 94 [(Z 0),(Y 1)] (.ord [0,1,2,3,4,5,6,7,8,9,10] [0,1,3,7,0,16,48,127,255,0,1023] (Q (A 8) (Q (F 0 0) (M 0 (Q (.idx 1 (Z 6) (Y 0)) (M 0 (J 4 2 0 (Q (.lodA 4 (Z 0)) (.new [(iv 0),(iv 0),(iv 0),(str ⟨#[]⟩)] (.wat [] (.sto 4 (Z 0) (Z 1) (.wat [] (.jn 251 [0,2,3,12,13,89] (P 5 (.ord [0,1,2,3,4,5,6,7] [0,0,2,0,8,0,0,127] (Q (F 3 4) (M 0 (Q (.slc 1 (Z 5) (some (Y 1)) none none) (.call 141 [(Z 3),(Z 1),(Z 0),(Z 4),(Z 5)] (.wat [] (.rets []))))))) (O 3 (D .gtr (Z 0) (Y 4) (.call 94 [(Z 0),(Y 2)] (Q (.bld [(iv 0),(iv 0),(iv 0),(iv 0),(str ⟨#[]⟩),nilS] [(0,1),(1,1),(2,1),(3,1),(4,1),(5,1)] [(0,(Y 9)),(1,(Z 4))]) (.call 137 [(Z 4),(Z 0)] (.call 142 [(Z 5),(Z 0),(Z 8),(Z 7)] (.rets [])))))))) (.frz 22 (Z 0) (Q (F 0 0) (M 0 (D .eql (Z 0) (Y 3) (H 0 (F 3 3) (H 1 (L 0) (.gpick (Z 2) (.call 139 [(Z 0)] (.jump 0 [(Z 23),(Z 25),(Z 26),(Z 18),(Z 6),(Z 0)])) (.jump 0 [(Z 22),(Z 24),(Z 25),(Z 17),(Z 5),(.lit (.val (.bool false)))]) (.no))))))))))))))))))))))))))))))) (D .eql (Z 0) (Y 1) (P 0 (.jump 0 [(Z 13),(Z 12),(Z 11),(Z 10),(Z 3),(Z 1),(Z 0)]) (D .eql (Z 1) (Y 2) (.jump 0 [(Z 14),(Z 13),(Z 12),(Z 11),(Z 4),(Z 2),(Z 0)]))))))))))))))
theorem x93_ok:okF TT Tryz.f93 4 x93=true:=by decide+kernel
theorem s_impl_expander_form_ok (h:s_impl_expander_form a0 a1 a2 a3 σ R):acall TP fn_impl_expander_form [a0,a1,a2,a3] σ R:=
 acall_okF (ρ:=[a3,a2,a1,a0]) TT_ok Tryz.func93 rfl x93 x93_ok rfl h
def s_impl_failIf (a0 a1:AV) (σ:AH) (R:AEnd→AH→Prop):Prop:=
 apick a0 (
 og (bld [(iv 0)] [(0,1)] [(0,a1)]) fun v6=>
 og (aifc TT ty_RiE v6) fun v7=>
 apanic v7 fun v=>apan v σ R) (
 aret (.tup []) σ R)
def x94:Sx:=P 1 (Q (.bld [(iv 0)] [(0,1)] [(0,(Z 0))]) (.ifc 97 (Z 0) (.pan (Z 0)))) (.rets [])
theorem x94_ok:okF TT Tryz.f94 2 x94=true:=by decide+kernel
theorem s_impl_failIf_ok (h:s_impl_failIf a0 a1 σ R):acall TP fn_impl_failIf [a0,a1] σ R:=
 acall_okF (ρ:=[a1,a0]) TT_ok Tryz.func94 rfl x94 x94_ok rfl h
def s_impl_coreForm (a0:AV) (σ:AH) (R:AEnd→AH→Prop):Prop:=
 abox a0 σ fun v1 σ=>
 jn (X:=Tup [2]) (fun x1 σ=>
 aret x1.1 σ R) fun k1=>
 frz v1 σ fun f1 σ=>
 og (fldA 0 f1) fun v3=>
 og (lod v3 σ) fun v4=>
 acall TP fn_impl_in [v4,(iv 1),(iv 9)] σ (onr (fun v5 σ=>
 og (gval v5 true false (fldA 2 f1)) fun v7=>
 og (gval v5 true false (lod v7 σ)) fun v8=>
 og (gval v5 true false (ibin .eql v8 (iv 0))) fun v9=>
 og (gval v5 true false (some v9)) fun v10=>
 og (gval v10 false true (fldA 0 f1)) fun v11=>
 og (gval v10 false true (lod v11 σ)) fun v12=>
 og (gval v10 false true (ibin .eql v12 (iv 2))) fun v13=>
 og (gval v5 true false (pickV v10 (.val (.bool true)) v13)) fun v14=>
 og (gval v5 true false (some v14)) fun v15=>
 og (gval v15 false true (fldA 0 f1)) fun v16=>
 og (gval v15 false true (lod v16 σ)) fun v17=>
 og (gval v15 false true (ibin .eql v17 (iv 5))) fun v18=>
 og (gval v5 true false (pickV v15 (.val (.bool true)) v18)) fun v19=>
 og (pickV v5 v19 (.val (.bool false))) fun v20=>
 og (gval v20 true false (fldA 3 f1)) fun v22=>
 og (gval v20 true false (lod v22 σ)) fun v23=>
 og (gval v20 true false (ibin .eql v23 (iv 0))) fun v24=>
 og (gval v20 true false (some v24)) fun v25=>
 og (gval v25 false true (fldA 0 f1)) fun v26=>
 og (gval v25 false true (lod v26 σ)) fun v27=>
 og (gval v25 false true (ibin .eql v27 (iv 2))) fun v28=>
 og (gval v20 true false (pickV v25 (.val (.bool true)) v28)) fun v29=>
 og (pickV v20 v29 (.val (.bool false))) fun v30=>
 og (gval v30 true false (fldA 4 f1)) fun v32=>
 og (gval v30 true false (lod v32 σ)) fun v33=>
 og (gval v30 true false (sbin .eql v33 (str ⟨#[]⟩))) fun v34=>
 og (gval v30 true false (some v34)) fun v35=>
 og (gval v35 false true (fldA 0 f1)) fun v36=>
 og (gval v35 false true (lod v36 σ)) fun v37=>
 gpick v35 (
 og (gval v30 true false (some (.val (.bool true)))) fun v39=>
 og (pickV v30 v39 (.val (.bool false))) fun v40=>
 og (gval v40 true false (fldA 5 f1)) fun v42=>
 og (gval v40 true false (lod v42 σ)) fun v43=>
 og (gval v40 true false (lenS v43)) fun v44=>
 og (gval v40 true false (ibin .eql v44 (iv 0))) fun v45=>
 og (gval v40 true false (some v45)) fun v46=>
 og (gval v46 false true (fldA 0 f1)) fun v47=>
 og (gval v46 false true (lod v47 σ)) fun v48=>
 og (gval v46 false true (ibin .eql v48 (iv 1))) fun v49=>
 og (gval v40 true false (pickV v46 (.val (.bool true)) v49)) fun v50=>
 og (pickV v40 v50 (.val (.bool false))) fun v51=>
 k1 (v51,()) σ) (
 acall TP fn_impl_named [v37] σ (onr (fun v38 σ=>
 og (gval v30 true false (some v38)) fun v39=>
 og (pickV v30 v39 (.val (.bool false))) fun v40=>
 og (gval v40 true false (fldA 5 f1)) fun v42=>
 og (gval v40 true false (lod v42 σ)) fun v43=>
 og (gval v40 true false (lenS v43)) fun v44=>
 og (gval v40 true false (ibin .eql v44 (iv 0))) fun v45=>
 og (gval v40 true false (some v45)) fun v46=>
 og (gval v46 false true (fldA 0 f1)) fun v47=>
 og (gval v46 false true (lod v47 σ)) fun v48=>
 og (gval v46 false true (ibin .eql v48 (iv 1))) fun v49=>
 og (gval v40 true false (pickV v46 (.val (.bool true)) v49)) fun v50=>
 og (pickV v40 v50 (.val (.bool false))) fun v51=>
 k1 (v51,()) σ) (pn R))) (
 og (gval v30 true false (pickV (.tup []) (.val (.bool true)) (.tup []))) fun v39=>
 og (pickV v30 v39 (.val (.bool false))) fun v40=>
 og (gval v40 true false (fldA 5 f1)) fun v42=>
 og (gval v40 true false (lod v42 σ)) fun v43=>
 og (gval v40 true false (lenS v43)) fun v44=>
 og (gval v40 true false (ibin .eql v44 (iv 0))) fun v45=>
 og (gval v40 true false (some v45)) fun v46=>
 og (gval v46 false true (fldA 0 f1)) fun v47=>
 og (gval v46 false true (lod v47 σ)) fun v48=>
 og (gval v46 false true (ibin .eql v48 (iv 1))) fun v49=>
 og (gval v40 true false (pickV v46 (.val (.bool true)) v49)) fun v50=>
 og (pickV v40 v50 (.val (.bool false))) fun v51=>
 k1 (v51,()) σ)) (pn R))
def x95:Sx:= .box (Z 0) (.jn 7 [2] (.ret (Z 0)) (.frz 1 (Z 0) (Q (F 0 0) (M 0 (.call 49 [(Z 0),(Y 1),(Y 9)] (H 0 (F 2 3) (H 1 (L 0) (H 2 (B .eql (Z 0) (Y 0)) (H 3 (.ret (Z 0)) (.gog (Z 0) false true (F 0 7) (.gog (Z 1) false true (L 0) (.gog (Z 2) false true (B .eql (Z 0) (Y 2)) (H 7 (.pickV (Z 3) (.lit (.val (.bool true))) (Z 0)) (H 8 (.ret (Z 0)) (.gog (Z 0) false true (F 0 12) (.gog (Z 1) false true (L 0) (.gog (Z 2) false true (B .eql (Z 0) (Y 5)) (H 12 (.pickV (Z 3) (.lit (.val (.bool true))) (Z 0)) (Q (.pickV (Z 13) (Z 0) (.lit (.val (.bool false)))) (H 0 (F 3 17) (H 1 (L 0) (H 2 (B .eql (Z 0) (Y 0)) (H 3 (.ret (Z 0)) (.gog (Z 0) false true (F 0 21) (.gog (Z 1) false true (L 0) (.gog (Z 2) false true (B .eql (Z 0) (Y 2)) (H 7 (.pickV (Z 3) (.lit (.val (.bool true))) (Z 0)) (Q (.pickV (Z 8) (Z 0) (.lit (.val (.bool false)))) (H 0 (F 4 26) (H 1 (L 0) (H 2 (.sbin .eql (Z 0) (.lit (str ⟨#[]⟩))) (H 3 (.ret (Z 0)) (.gog (Z 0) false true (F 0 30) (.gog (Z 1) false true (L 0) (.gpick (Z 2) (H 6 (.ret (.lit (.val (.bool true)))) (Q (.pickV (Z 7) (Z 0) (.lit (.val (.bool false)))) (H 0 (F 5 34) (H 1 (L 0) (H 2 (N 0) (H 3 (B .eql (Z 0) (Y 0)) (H 4 (.ret (Z 0)) (.gog (Z 0) false true (F 0 39) (.gog (Z 1) false true (L 0) (.gog (Z 2) false true (B .eql (Z 0) (Y 1)) (H 8 (.pickV (Z 3) (.lit (.val (.bool true))) (Z 0)) (Q (.pickV (Z 9) (Z 0) (.lit (.val (.bool false)))) (.jump 0 [(Z 0)]))))))))))))) (.call 98 [(Z 0)] (H 7 (.ret (Z 0)) (Q (.pickV (Z 8) (Z 0) (.lit (.val (.bool false)))) (H 0 (F 5 35) (H 1 (L 0) (H 2 (N 0) (H 3 (B .eql (Z 0) (Y 0)) (H 4 (.ret (Z 0)) (.gog (Z 0) false true (F 0 40) (.gog (Z 1) false true (L 0) (.gog (Z 2) false true (B .eql (Z 0) (Y 1)) (H 8 (.pickV (Z 3) (.lit (.val (.bool true))) (Z 0)) (Q (.pickV (Z 9) (Z 0) (.lit (.val (.bool false)))) (.jump 0 [(Z 0)])))))))))))))) (H 6 (.pickV (.lit (.tup [])) (.lit (.val (.bool true))) (.lit (.tup []))) (Q (.pickV (Z 7) (Z 0) (.lit (.val (.bool false)))) (H 0 (F 5 34) (H 1 (L 0) (H 2 (N 0) (H 3 (B .eql (Z 0) (Y 0)) (H 4 (.ret (Z 0)) (.gog (Z 0) false true (F 0 39) (.gog (Z 1) false true (L 0) (.gog (Z 2) false true (B .eql (Z 0) (Y 1)) (H 8 (.pickV (Z 3) (.lit (.val (.bool true))) (Z 0)) (Q (.pickV (Z 9) (Z 0) (.lit (.val (.bool false)))) (.jump 0 [(Z 0)]))))))))))))))))))))))))))))))))))))))))))))))))
theorem x95_ok:okF TT Tryz.f95 1 x95=true:=by decide+kernel
theorem s_impl_coreForm_ok (h:s_impl_coreForm a0 σ R):acall TP fn_impl_coreForm [a0] σ R:=
 acall_okF (ρ:=[a0]) TT_ok Tryz.func95 rfl x95 x95_ok rfl h
def s_impl_isUp (a0 a1 a2:AV) (σ:AH) (R:AEnd→AH→Prop):Prop:=
 lp (X:=Tup [0,2,7]) (fun R1 y1 σ=>
 og (ibin .geq y1.2.2.1 (iv 0)) fun v10=>
 apick v10 (
 og (ibin .eql y1.2.2.1 y1.2.1) fun v16=>
 apick v16 (
 aret (.val (.bool true)) σ R) (
 acallv TP y1.1 [y1.2.2.1] σ (onr (fun v13 σ=>
 R1 (y1.1,y1.2.1,v13,()) σ) (pn R)))) (
 aret (.val (.bool false)) σ R)) (a0,a2,a1,()) σ
def x96:Sx:= .lp [0,2,7] (D .geq (Z 2) (Y 0) (P 0 (D .eql (Z 3) (Z 2) (P 0 (.ret (.lit (.val (.bool true)))) (.callv (Z 2) [(Z 4)] (.jump 0 [(Z 3),(Z 4),(Z 0)])))) (.ret (.lit (.val (.bool false)))))) [(Z 2),(Z 0),(Z 1)]
theorem x96_ok:okF TT Tryz.f96 3 x96=true:=by decide+kernel
theorem s_impl_isUp_ok (h:s_impl_isUp a0 a1 a2 σ R):acall TP fn_impl_isUp [a0,a1,a2] σ R:=
 acall_okF (ρ:=[a2,a1,a0]) TT_ok Tryz.func96 rfl x96 x96_ok rfl h
def s_impl_oneCoreFault_1 (a0 a1:AV) (σ:AH) (R:AEnd→AH→Prop):Prop:=
 og (lod a1 σ) fun v4=>
 og (idx 6 v4 a0 σ) fun v6=>
 og (fldA 1 v6) fun v7=>
 og (lod v7 σ) fun v8=>
 aret v8 σ R
def x97:Sx:=M 0 (J 6 0 2 (Q (F 1 0) (M 0 (.ret (Z 0)))))
theorem x97_ok:okF TT Tryz.f97 2 x97=true:=by decide+kernel
theorem s_impl_oneCoreFault_1_ok (h:s_impl_oneCoreFault_1 a0 a1 σ R):acall TP fn_impl_oneCoreFault_1 [a0,a1] σ R:=
 acall_okF (ρ:=[a1,a0]) TT_ok Tryz.func97 rfl x97 x97_ok rfl h
def s_impl_named (a0:AV) (σ:AH) (R:AEnd→AH→Prop):Prop:=
 og (ibin .eql a0 (iv 3)) fun v4=>
 og (gval v4 false false (some a0)) fun v6=>
 og (gval v4 false false (ibin .eql v6 (iv 7))) fun v7=>
 og (pickV v4 (.val (.bool true)) v7) fun v8=>
 og (gval v8 false false (some a0)) fun v10=>
 og (gval v8 false false (ibin .eql v10 (iv 8))) fun v11=>
 og (pickV v8 (.val (.bool true)) v11) fun v12=>
 aret v12 σ R
def x98:Sx:=D .eql (Z 0) (Y 3) (G 0 (.ret (Z 1)) (G 1 (B .eql (Z 0) (Y 7)) (Q (.pickV (Z 2) (.lit (.val (.bool true))) (Z 0)) (G 0 (.ret (Z 4)) (G 1 (B .eql (Z 0) (Y 8)) (Q (.pickV (Z 2) (.lit (.val (.bool true))) (Z 0)) (.ret (Z 0))))))))
theorem x98_ok:okF TT Tryz.f98 1 x98=true:=by decide+kernel
theorem s_impl_named_ok (h:s_impl_named a0 σ R):acall TP fn_impl_named [a0] σ R:=
 acall_okF (ρ:=[a0]) TT_ok Tryz.func98 rfl x98 x98_ok rfl h
def s_impl_isName (a0:AV) (σ:AH) (R:AEnd→AH→Prop):Prop:=
 jn (X:=Tup [2]) (fun x1 σ=>
 aret x1.1 σ R) fun k1=>
 acall TP fn_impl_SymFault [a0] σ (onr (fun v4 σ=>
 og (ibin .eql v4 (iv 0)) fun v5=>
 og (gval v5 true false (some a0)) fun v7=>
 gpick v5 (
 acall TP fn_impl_IsKeyword [v7] σ (onr (fun v8 σ=>
 og (aun .not v8) fun v9=>
 k1 (v9,()) σ) (pn R))) (
 k1 ((.val (.bool false)),()) σ) (False)) (pn R))
def x99:Sx:= .jn 7 [2] (.ret (Z 0)) (.call 133 [(Z 0)] (D .eql (Z 0) (Y 0) (H 0 (.ret (Z 2)) (.gpick (Z 1) (.call 139 [(Z 0)] (Q (.aun .not (Z 0)) (.jump 0 [(Z 0)]))) (.jump 0 [(.lit (.val (.bool false)))]) (.no)))))
theorem x99_ok:okF TT Tryz.f99 1 x99=true:=by decide+kernel
theorem s_impl_isName_ok (h:s_impl_isName a0 σ R):acall TP fn_impl_isName [a0] σ R:=
 acall_okF (ρ:=[a0]) TT_ok Tryz.func99 rfl x99 x99_ok rfl h
def s_impl_lambdaOut (a0 a1 a2:AV) (σ:AH) (R:AEnd→AH→Prop):Prop:=
 new [(iv 0),(iv 0),(iv 0),(iv 0),(str ⟨#[]⟩),nilS] σ fun v6 σ=>
 og (idx 6 a0 a1 σ) fun v11=>
 og (fldA 1 v11) fun v12=>
 og (lod v12 σ) fun v13=>
 lp (X:=Tup [0,2,6,8]) (fun R1 y1 σ=>
 og (ibin .geq y1.2.2.2.1 (iv 0)) fun v15=>
 apick v15 (
 jn (X:=Tup [0,2,6,8]) (fun x2 σ=>
 og (idx 6 x2.1 x2.2.2.2.1 σ) fun v18=>
 og (fldA 1 v18) fun v19=>
 og (lod v19 σ) fun v20=>
 R1 (x2.1,x2.2.1,x2.2.2.1,v20,()) σ) fun k2=>
 og (idx 6 y1.1 y1.2.2.2.1 σ) fun v23=>
 og (fldA 0 v23) fun v24=>
 og (lod v24 σ) fun v25=>
 og (ibin .neq v25 (iv 5)) fun v26=>
 apick v26 (
 k2 (y1.1,y1.2.1,y1.2.2.1,y1.2.2.2.1,()) σ) (
 og (ibin .eql y1.2.1 (iv 0)) fun v28=>
 apick v28 (
 og (idx 6 y1.1 y1.2.2.2.1 σ) fun v31=>
 og (lodA 6 v31 σ) fun v32=>
 sto 6 y1.2.2.1 v32 σ fun σ=>
 og (lodA 6 y1.2.2.1 σ) fun r6=>
 aret (.tup [r6,(.val (.bool true))]) σ R) (
 og (ibin .sub y1.2.1 (iv 1)) fun v34=>
 k2 (y1.1,v34,y1.2.2.1,y1.2.2.2.1,()) σ))) (
 og (bld [(iv 0),(iv 0),(iv 0),(iv 0),(str ⟨#[]⟩),nilS] [(0,1),(1,1),(2,1),(3,1),(4,1),(5,1)] []) fun v35=>
 sto 6 y1.2.2.1 v35 σ fun σ=>
 og (lodA 6 y1.2.2.1 σ) fun r6=>
 aret (.tup [r6,(.val (.bool false))]) σ R)) (a0,a2,v6,v13,()) σ
def x100:Sx:= .new [(iv 0),(iv 0),(iv 0),(iv 0),(str ⟨#[]⟩),nilS] (J 6 3 2 (Q (F 1 0) (M 0 (.lp [0,2,6,8] (D .geq (Z 3) (Y 0) (P 0 (.jn 211 [0,2,6,8] (J 6 0 3 (Q (F 1 0) (M 0 (.jump 0 [(Z 3),(Z 4),(Z 5),(Z 0)])))) (J 6 1 4 (Q (F 0 0) (M 0 (D .neq (Z 0) (Y 5) (P 0 (.jump 0 [(Z 5),(Z 6),(Z 7),(Z 8)]) (D .eql (Z 6) (Y 0) (P 0 (J 6 6 9 (Q (.lodA 6 (Z 0)) (.sto 6 (Z 10) (Z 0) (Q (.lodA 6 (Z 10)) (.rets [(Z 0),(.lit (.val (.bool true)))]))))) (D .sub (Z 7) (Y 1) (.jump 0 [(Z 7),(Z 0),(Z 9),(Z 10)])))))))))) (Q (.bld [(iv 0),(iv 0),(iv 0),(iv 0),(str ⟨#[]⟩),nilS] [(0,1),(1,1),(2,1),(3,1),(4,1),(5,1)] []) (.sto 6 (Z 4) (Z 0) (Q (.lodA 6 (Z 4)) (.rets [(Z 0),(.lit (.val (.bool false)))])))))) [(Z 6),(Z 4),(Z 3),(Z 0)]))))
theorem x100_ok:okF TT Tryz.f100 3 x100=true:=by decide+kernel
theorem s_impl_lambdaOut_ok (h:s_impl_lambdaOut a0 a1 a2 σ R):acall TP fn_impl_lambdaOut [a0,a1,a2] σ R:=
 acall_okF (ρ:=[a2,a1,a0]) TT_ok Tryz.func100 rfl x100 x100_ok rfl h
def s_impl_boolText (a0:AV) (σ:AH) (R:AEnd→AH→Prop):Prop:=
 og (ibin .eql a0 (iv 1)) fun v4=>
 apick v4 (
 aret (.val (.string ⟨#[35,116]⟩)) σ R) (
 aret (.val (.string ⟨#[35,102]⟩)) σ R)
def x101:Sx:=D .eql (Z 0) (Y 1) (P 0 (.ret (.lit (.val (.string ⟨#[35,116]⟩)))) (.ret (.lit (.val (.string ⟨#[35,102]⟩)))))
theorem x101_ok:okF TT Tryz.f101 1 x101=true:=by decide+kernel
theorem s_impl_boolText_ok (h:s_impl_boolText a0 σ R):acall TP fn_impl_boolText [a0] σ R:=
 acall_okF (ρ:=[a0]) TT_ok Tryz.func101 rfl x101 x101_ok rfl h
def s_impl_parts (a0 a1:AV) (σ:AH) (R:AEnd→AH→Prop):Prop:=
 bsl 1 [(iv 0)] 0 [] σ fun v8 σ=>
 og (lenS a0) fun v10=>
 lp (X:=Tup [1,5,9,10,11]) (fun R1 y1 σ=>
 og (ibin .lss y1.2.2.2.2.1 y1.2.2.2.1) fun v12=>
 apick v12 (
 jn (X:=Tup [1,5,9,10,11]) (fun x2 σ=>
 og (ibin .add x2.2.2.2.2.1 (iv 1)) fun v24=>
 R1 (x2.1,x2.2.1,x2.2.2.1,x2.2.2.2.1,v24,()) σ) fun k2=>
 og (idx 4 y1.2.2.1 y1.2.2.2.2.1 σ) fun v14=>
 og (lodA 4 v14 σ) fun v15=>
 new [(iv 0),(iv 0),(iv 0),(str ⟨#[]⟩)] σ fun v7 σ=>
 sto 4 v7 v15 σ fun σ=>
 frz v7 σ fun f7 σ=>
 og (fldA 1 f7) fun v16=>
 og (lod v16 σ) fun v17=>
 og (ibin .eql v17 y1.1) fun v19=>
 apick v19 (
 bsl 1 [(iv 0)] 1 [(0,y1.2.2.2.2.1)] σ fun v22 σ=>
 app 1 y1.2.1 v22 σ fun v23 σ=>
 k2 (y1.1,v23,y1.2.2.1,y1.2.2.2.1,y1.2.2.2.2.1,()) σ) (
 k2 (y1.1,y1.2.1,y1.2.2.1,y1.2.2.2.1,y1.2.2.2.2.1,()) σ)) (
 aret y1.2.1 σ R)) (a1,v8,a0,v10,(iv 0),()) σ
def x102:Sx:= .bsl 1 [(iv 0)] 0 [] (O 2 (.lp [1,5,9,10,11] (D .lss (Z 4) (Z 3) (P 0 (.jn 935 [1,5,9,10,11] (D .add (Z 4) (Y 1) (.jump 0 [(Z 1),(Z 2),(Z 3),(Z 4),(Z 0)])) (J 4 3 5 (Q (.lodA 4 (Z 0)) (.new [(iv 0),(iv 0),(iv 0),(str ⟨#[]⟩)] (.sto 4 (Z 0) (Z 1) (.frz 8 (Z 0) (Q (F 1 0) (M 0 (D .eql (Z 0) (Z 7) (P 0 (.bsl 1 [(iv 0)] 1 [(0,(Z 12))] (.app 1 (Z 10) (Z 0) (.jump 0 [(Z 10),(Z 0),(Z 12),(Z 13),(Z 14)]))) (.jump 0 [(Z 8),(Z 9),(Z 10),(Z 11),(Z 12)]))))))))))) (.ret (Z 2)))) [(Z 2),(Z 1),(Z 3),(Z 0),(Y 0)]))
theorem x102_ok:okF TT Tryz.f102 2 x102=true:=by decide+kernel
theorem s_impl_parts_ok (h:s_impl_parts a0 a1 σ R):acall TP fn_impl_parts [a0,a1] σ R:=
 acall_okF (ρ:=[a1,a0]) TT_ok Tryz.func102 rfl x102 x102_ok rfl h
end Go.Proofs.YtbppopcpgcgkkaaGreatDoor.E
