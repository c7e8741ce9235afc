import Derived.Test.YtbppopcpgcgkkaaGreatDoorPD10
/- What functions come to. Printed by mkg.py. -/
set_option maxRecDepth 1000000
namespace Go.Proofs.YtbppopcpgcgkkaaGreatDoor.E
open Go Go.RowKit X
set_option linter.unusedVariables false
set_option linter.unusedSectionVars false
variable [Lam] {a0 a1 a2 a3 a4 a5 a6:AV} {σ:AH} {R:AEnd→AH→Prop}
def s_spec_l9Make (a0 a1 a2 a3:AV) (σ:AH) (R:AEnd→AH→Prop):Prop:=
 og (anil a0) fun v16=>
 og (fldA 0 v16) fun v17=>
 og (lod v17 σ) fun v18=>
 og (idx 6 v18 a1 σ) fun v20=>
 og (anil a0) fun v22=>
 og (fldA 0 v22) fun v23=>
 og (lod v23 σ) fun v24=>
 acall TP fn_spec_l4Kids [v24,a1] σ (onr (fun v26 σ=>
 og (anil v20) fun v28=>
 og (fldA 0 v28) fun v29=>
 og (lod v29 σ) fun v30=>
 og (ibin .eql v30 (iv 1)) fun v54=>
 apick v54 (
 bsl 4 [(iv 0),(iv 0),(iv 0),(str ⟨#[]⟩)] 0 [] σ fun v57 σ=>
 og (anil v20) fun v59=>
 og (fldA 5 v59) fun v60=>
 og (lod v60 σ) fun v61=>
 app 4 v57 v61 σ fun v62 σ=>
 og (bld [(iv 0),(iv 0),(iv 0),(iv 0),(iv 0),(str ⟨#[]⟩),nilS] [(0,1),(1,1),(2,1),(3,1),(4,1),(5,1),(6,1)] [(0,(iv 1)),(6,v62)]) fun v63=>
 acall TP fn_spec_l9Put [a0,a2,v63] σ (onr (fun v64 σ=>
 acall TP fn_spec_l9End [a0,a2,a3] σ (onr (fun v68 σ=>
 aret (.tup []) σ R) (pn R))) (pn R))) (
 og (ibin .eql v30 (iv 2)) fun v70=>
 apick v70 (
 og (anil v20) fun v74=>
 og (fldA 2 v74) fun v75=>
 og (lod v75 σ) fun v76=>
 og (anil v20) fun v78=>
 og (fldA 3 v78) fun v79=>
 og (lod v79 σ) fun v80=>
 og (bld [(iv 0),(iv 0),(iv 0),(iv 0),(iv 0),(str ⟨#[]⟩),nilS] [(0,1),(1,1),(2,1),(3,1),(4,1),(5,1),(6,1)] [(0,(iv 2)),(1,v76),(2,v80)]) fun v81=>
 acall TP fn_spec_l9Put [a0,a2,v81] σ (onr (fun v82 σ=>
 (True)∧
 acall TP fn_spec_l9End [a0,a2,a3] σ (onr (fun v86 σ=>
 aret (.tup []) σ R) (pn R))) (pn R))) (
 og (ibin .eql v30 (iv 3)) fun v88=>
 apick v88 (
 og (anil v20) fun v92=>
 og (fldA 4 v92) fun v93=>
 og (lod v93 σ) fun v94=>
 og (bld [(iv 0),(iv 0),(iv 0),(iv 0),(iv 0),(str ⟨#[]⟩),nilS] [(0,1),(1,1),(2,1),(3,1),(4,1),(5,1),(6,1)] [(0,(iv 3)),(5,v94)]) fun v95=>
 acall TP fn_spec_l9Put [a0,a2,v95] σ (onr (fun v96 σ=>
 acall TP fn_spec_l9End [a0,a2,a3] σ (onr (fun v100 σ=>
 aret (.tup []) σ R) (pn R))) (pn R))) (
 og (ibin .eql v30 (iv 5)) fun v102=>
 apick v102 (
 og (anil a0) fun v105=>
 og (fldA 1 v105) fun v106=>
 og (lod v106 σ) fun v107=>
 og (anil v20) fun v109=>
 og (fldA 2 v109) fun v110=>
 og (lod v110 σ) fun v111=>
 og (bld [(iv 0),nilS] [(0,1),(1,1)] [(0,v111)]) fun v112=>
 og (bslR 2 [(iv 0),nilS] 1 [(0,v112)]) fun v113=>
 app 2 v107 v113 σ fun v114 σ=>
 (True)∧
 og (anil a0) fun v115=>
 og (fldA 1 v115) fun v116=>
 sto 1 v116 v114 σ fun σ=>
 (True)∧
 og (anil a0) fun v118=>
 og (fldA 1 v118) fun v119=>
 og (lod v119 σ) fun v120=>
 og (lenS v120) fun v121=>
 og (ibin .sub v121 (iv 1)) fun v122=>
 og (idx 1 v26 (iv 0) σ) fun v125=>
 og (lod v125 σ) fun v126=>
 acall TP fn_spec_l9Make [a0,v126,v122,(.val (.bool true))] σ (onr (fun v128 σ=>
 og (bld [(iv 0),(iv 0),(iv 0),(iv 0),(iv 0),(str ⟨#[]⟩),nilS] [(0,1),(1,1),(2,1),(3,1),(4,1),(5,1),(6,1)] [(0,(iv 4)),(1,v122)]) fun v132=>
 acall TP fn_spec_l9Put [a0,a2,v132] σ (onr (fun v133 σ=>
 acall TP fn_spec_l9End [a0,a2,a3] σ (onr (fun v137 σ=>
 aret (.tup []) σ R) (pn R))) (pn R))) (pn R))) (
 og (ibin .eql v30 (iv 4)) fun v139=>
 apick v139 (
 acall TP fn_spec_l9If [a0,v26,a2,a3] σ (onr (fun v144 σ=>
 aret (.tup []) σ R) (pn R))) (
 og (ibin .eql v30 (iv 6)) fun v146=>
 apick v146 (
 lp (X:=Tup [0,2,3,9,11]) (fun R1 y1 σ=>
 og (ibin .add y1.2.2.2.2.1 (iv 1)) fun v148=>
 og (lenS y1.2.2.2.1) fun v150=>
 og (ibin .lss v148 v150) fun v151=>
 apick v151 (
 og (idx 1 y1.2.2.2.1 y1.2.2.2.2.1 σ) fun v157=>
 og (lod v157 σ) fun v158=>
 acall TP fn_spec_l9Make [y1.1,v158,y1.2.1,(.val (.bool false))] σ (onr (fun v160 σ=>
 og (bld [(iv 0),(iv 0),(iv 0),(iv 0),(iv 0),(str ⟨#[]⟩),nilS] [(0,1),(1,1),(2,1),(3,1),(4,1),(5,1),(6,1)] [(0,(iv 7))]) fun v163=>
 acall TP fn_spec_l9Put [y1.1,y1.2.1,v163] σ (onr (fun v164 σ=>
 og (ibin .add y1.2.2.2.2.1 (iv 1)) fun v153=>
 R1 (y1.1,y1.2.1,y1.2.2.1,y1.2.2.2.1,v153,()) σ) (pn R))) (pn R))) (
 og (lenS y1.2.2.2.1) fun v168=>
 og (ibin .sub v168 (iv 1)) fun v169=>
 og (idx 1 y1.2.2.2.1 v169 σ) fun v170=>
 og (lod v170 σ) fun v171=>
 acall TP fn_spec_l9Make [y1.1,v171,y1.2.1,y1.2.2.1] σ (onr (fun v174 σ=>
 aret (.tup []) σ R) (pn R)))) (a0,a2,a3,v26,(iv 0),()) σ) (
 jn (X:=Tup [0,2,3,8,9,175]) (fun x2 σ=>
 apick x2.2.2.2.2.2.1 (
 og (idx 1 x2.2.2.2.2.1 (iv 0) σ) fun v180=>
 og (lod v180 σ) fun v181=>
 acall TP fn_spec_l9Make [x2.1,v181,x2.2.1,(.val (.bool false))] σ (onr (fun v183 σ=>
 jn (X:=Tup [0,2,3,8,12]) (fun x3 σ=>
 og (anil x3.2.2.2.1) fun v193=>
 og (fldA 4 v193) fun v194=>
 og (lod v194 σ) fun v195=>
 og (bld [(iv 0),(iv 0),(iv 0),(iv 0),(iv 0),(str ⟨#[]⟩),nilS] [(0,1),(1,1),(2,1),(3,1),(4,1),(5,1),(6,1)] [(0,x3.2.2.2.2.1),(5,v195)]) fun v196=>
 acall TP fn_spec_l9Put [x3.1,x3.2.1,v196] σ (onr (fun v197 σ=>
 acall TP fn_spec_l9End [x3.1,x3.2.1,x3.2.2.1] σ (onr (fun v201 σ=>
 aret (.tup []) σ R) (pn R))) (pn R))) fun k3=>
 og (anil x2.2.2.2.1) fun v185=>
 og (fldA 0 v185) fun v186=>
 og (lod v186 σ) fun v187=>
 og (ibin .eql v187 (iv 8)) fun v188=>
 apick v188 (
 k3 (x2.1,x2.2.1,x2.2.2.1,x2.2.2.2.1,(iv 9),()) σ) (
 k3 (x2.1,x2.2.1,x2.2.2.1,x2.2.2.2.1,(iv 8),()) σ)) (pn R))) (
 lp (X:=Tup [0,2,3,9,13]) (fun R4 y4 σ=>
 og (lenS y4.2.2.2.1) fun v33=>
 og (ibin .lss y4.2.2.2.2.1 v33) fun v34=>
 apick v34 (
 og (idx 1 y4.2.2.2.1 y4.2.2.2.2.1 σ) fun v40=>
 og (lod v40 σ) fun v41=>
 acall TP fn_spec_l9Make [y4.1,v41,y4.2.1,(.val (.bool false))] σ (onr (fun v43 σ=>
 og (ibin .add y4.2.2.2.2.1 (iv 1)) fun v36=>
 R4 (y4.1,y4.2.1,y4.2.2.1,y4.2.2.2.1,v36,()) σ) (pn R))) (
 jn (X:=Tup [0,2,9,14]) (fun x5 σ=>
 og (lenS x5.2.2.1) fun v49=>
 og (ibin .sub v49 (iv 1)) fun v50=>
 og (bld [(iv 0),(iv 0),(iv 0),(iv 0),(iv 0),(str ⟨#[]⟩),nilS] [(0,1),(1,1),(2,1),(3,1),(4,1),(5,1),(6,1)] [(0,x5.2.2.2.1),(1,v50)]) fun v51=>
 acall TP fn_spec_l9Put [x5.1,x5.2.1,v51] σ (onr (fun v52 σ=>
 aret (.tup []) σ R) (pn R))) fun k5=>
 apick y4.2.2.1 (
 k5 (y4.1,y4.2.1,y4.2.2.2.1,(iv 11),()) σ) (
 k5 (y4.1,y4.2.1,y4.2.2.2.1,(iv 10),()) σ))) (x2.1,x2.2.1,x2.2.2.1,x2.2.2.2.2.1,(iv 0),()) σ)) fun k2=>
 og (ibin .eql v30 (iv 7)) fun v176=>
 apick v176 (
 k2 (a0,a2,a3,v20,v26,v176,()) σ) (
 og (ibin .eql v30 (iv 8)) fun v177=>
 k2 (a0,a2,a3,v20,v26,v177,()) σ)))))))) (pn R))
def x55:Sx:=Q (A 3) (Q (F 0 0) (M 0 (J 6 0 5 (Q (A 7) (Q (F 0 0) (M 0 (.call 42 [(Z 0),(Z 9)] (Q (A 4) (Q (F 0 0) (M 0 (D .eql (Z 0) (Y 1) (P 0 (.bsl 4 [(iv 0),(iv 0),(iv 0),(str ⟨#[]⟩)] 0 [] (Q (A 9) (Q (F 5 0) (M 0 (.app 4 (Z 3) (Z 0) (Q (.bld [(iv 0),(iv 0),(iv 0),(iv 0),(iv 0),(str ⟨#[]⟩),nilS] [(0,1),(1,1),(2,1),(3,1),(4,1),(5,1),(6,1)] [(0,(Y 1)),(6,(Z 0))]) (.call 107 [(Z 21),(Z 19),(Z 0)] (.call 108 [(Z 22),(Z 20),(Z 19)] (.rets []))))))))) (D .eql (Z 1) (Y 2) (P 0 (.ord [0,1,2,3,4,5,6,7,8,9,10,11] [0,0,0,4,12,28,0,64,192,448,1020,2047] (Q (A 9) (Q (F 2 0) (M 0 (Q (A 12) (Q (F 3 0) (M 0 (Q (.bld [(iv 0),(iv 0),(iv 0),(iv 0),(iv 0),(str ⟨#[]⟩),nilS] [(0,1),(1,1),(2,1),(3,1),(4,1),(5,1),(6,1)] [(0,(Y 2)),(1,(Z 3)),(2,(Z 0))]) (.call 107 [(Z 23),(Z 21),(Z 0)] (.wat [] (.call 108 [(Z 24),(Z 22),(Z 21)] (.rets [])))))))))))) (D .eql (Z 2) (Y 3) (P 0 (Q (A 10) (Q (F 4 0) (M 0 (Q (.bld [(iv 0),(iv 0),(iv 0),(iv 0),(iv 0),(str ⟨#[]⟩),nilS] [(0,1),(1,1),(2,1),(3,1),(4,1),(5,1),(6,1)] [(0,(Y 3)),(5,(Z 0))]) (.call 107 [(Z 21),(Z 19),(Z 0)] (.call 108 [(Z 22),(Z 20),(Z 19)] (.rets []))))))) (D .eql (Z 3) (Y 5) (P 0 (.ord [0,1,2,3,4,5,6,7,8,9,10,11,12,13,14] [0,0,2,6,14,0,32,96,224,480,992,2046,4095,8191,16383] (Q (A 18) (Q (F 1 0) (M 0 (Q (A 14) (Q (F 2 0) (M 0 (Q (.bld [(iv 0),nilS] [(0,1),(1,1)] [(0,(Z 0))]) (Q (.bslR 2 [(iv 0),nilS] 1 [(0,(Z 0))]) (.app 2 (Z 5) (Z 0) (.wat [] (Q (A 27) (Q (F 1 0) (.sto 1 (Z 0) (Z 2) (.wat [] (Q (A 29) (Q (F 1 0) (M 0 (O 0 (D .sub (Z 0) (Y 1) (Q (.idx 1 (Z 23) (Y 0)) (M 0 (.call 55 [(Z 36),(Z 0),(Z 2),(.lit (.val (.bool true)))] (Q (.bld [(iv 0),(iv 0),(iv 0),(iv 0),(iv 0),(str ⟨#[]⟩),nilS] [(0,1),(1,1),(2,1),(3,1),(4,1),(5,1),(6,1)] [(0,(Y 4)),(1,(Z 3))]) (.call 107 [(Z 38),(Z 36),(Z 0)] (.call 108 [(Z 39),(Z 37),(Z 36)] (.rets []))))))))))))))))))))))))))) (D .eql (Z 4) (Y 4) (P 0 (.call 109 [(Z 19),(Z 8),(Z 17),(Z 16)] (.rets [])) (D .eql (Z 5) (Y 6) (P 0 (.lp [0,2,3,9,11] (D .add (Z 4) (Y 1) (O 4 (D .lss (Z 1) (Z 0) (P 0 (J 1 6 7 (M 0 (.call 55 [(Z 5),(Z 0),(Z 6),(.lit (.val (.bool false)))] (Q (.bld [(iv 0),(iv 0),(iv 0),(iv 0),(iv 0),(str ⟨#[]⟩),nilS] [(0,1),(1,1),(2,1),(3,1),(4,1),(5,1),(6,1)] [(0,(Y 7))]) (.call 107 [(Z 7),(Z 8),(Z 0)] (D .add (Z 12) (Y 1) (.jump 0 [(Z 9),(Z 10),(Z 11),(Z 12),(Z 0)]))))))) (O 6 (D .sub (Z 0) (Y 1) (J 1 8 0 (M 0 (.call 55 [(Z 7),(Z 0),(Z 8),(Z 9)] (.rets [])))))))))) [(Z 20),(Z 18),(Z 17),(Z 9),(Y 0)]) (.jn 253951 [0,2,3,8,9,175] (P 5 (Q (.idx 1 (Z 4) (Y 0)) (M 0 (.call 55 [(Z 2),(Z 0),(Z 3),(.lit (.val (.bool false)))] (.jn 4063223 [0,2,3,8,12] (Q (A 3) (Q (F 4 0) (M 0 (Q (.bld [(iv 0),(iv 0),(iv 0),(iv 0),(iv 0),(str ⟨#[]⟩),nilS] [(0,1),(1,1),(2,1),(3,1),(4,1),(5,1),(6,1)] [(0,(Z 7)),(5,(Z 0))]) (.call 107 [(Z 4),(Z 5),(Z 0)] (.call 108 [(Z 5),(Z 6),(Z 7)] (.rets []))))))) (Q (A 6) (Q (F 0 0) (M 0 (D .eql (Z 0) (Y 8) (P 0 (.jump 0 [(Z 7),(Z 8),(Z 9),(Z 10),(Y 9)]) (.jump 0 [(Z 7),(Z 8),(Z 9),(Z 10),(Y 8)])))))))))) (.lp [0,2,3,9,13] (O 3 (D .lss (Z 5) (Z 0) (P 0 (J 1 5 6 (M 0 (.call 55 [(Z 4),(Z 0),(Z 5),(.lit (.val (.bool false)))] (D .add (Z 9) (Y 1) (.jump 0 [(Z 6),(Z 7),(Z 8),(Z 9),(Z 0)]))))) (.jn 4063231 [0,2,9,14] (O 2 (D .sub (Z 0) (Y 1) (Q (.bld [(iv 0),(iv 0),(iv 0),(iv 0),(iv 0),(str ⟨#[]⟩),nilS] [(0,1),(1,1),(2,1),(3,1),(4,1),(5,1),(6,1)] [(0,(Z 5)),(1,(Z 0))]) (.call 107 [(Z 3),(Z 4),(Z 0)] (.rets []))))) (P 4 (.jump 0 [(Z 2),(Z 3),(Z 5),(Y 11)]) (.jump 0 [(Z 2),(Z 3),(Z 5),(Y 10)])))))) [(Z 0),(Z 1),(Z 2),(Z 4),(Y 0)])) (D .eql (Z 6) (Y 7) (P 0 (.jump 0 [(Z 21),(Z 19),(Z 18),(Z 14),(Z 10),(Z 0)]) (D .eql (Z 7) (Y 8) (.jump 0 [(Z 22),(Z 20),(Z 19),(Z 15),(Z 11),(Z 0)])))))))))))))))))))))))))))
theorem x55_ok:okF TT Tryz.f55 4 x55=true:=by decide+kernel
theorem s_spec_l9Make_ok (h:s_spec_l9Make a0 a1 a2 a3 σ R):acall TP fn_spec_l9Make [a0,a1,a2,a3] σ R:=
 acall_okF (ρ:=[a3,a2,a1,a0]) TT_ok Tryz.func55 rfl x55 x55_ok rfl h
def x56:Sx:= .ord [0,1,2,3] [0,1,0,7] (Q (F 0 0) (M 0 (.sto 1 (Z 4) (.lit nilS) (.wat [⟨none,(.lod (Z 1)),(Z 0)⟩] (.sto 1 (Z 3) (Z 0) (.wat [] (.rets [])))))))
def s_impl_compiler_core (a0 a1 a2 a3:AV) (σ:AH) (R:AEnd→AH→Prop):Prop:=
 og (anil a0) fun v18=>
 og (fldA 0 v18) fun v19=>
 og (lod v19 σ) fun v20=>
 og (idx 6 v20 a1 σ) fun v22=>
 og (lodA 6 v22 σ) fun v23=>
 og (anil a0) fun v25=>
 og (fldA 1 v25) fun v26=>
 og (lod v26 σ) fun v27=>
 og (idx 1 v27 a1 σ) fun v29=>
 og (lod v29 σ) fun v30=>
 new [(iv 0),(iv 0),(iv 0),(iv 0),(str ⟨#[]⟩),nilS] σ fun v8 σ=>
 (True)∧
 sto 6 v8 v23 σ fun σ=>
 (lod v29 σ=some v30∧idx 1 v27 a1 σ=some v29∧lod v26 σ=some v27∧True)∧
 jn (X:=Tup [0,2,3]) (fun x1 σ=>
 apick x1.2.2.1 (
 og (bld [(iv 0),(iv 0),(iv 0),(iv 0),(iv 0),(str ⟨#[]⟩),nilS] [(0,1),(1,1),(2,1),(3,1),(4,1),(5,1),(6,1)] [(0,(iv 12))]) fun v157=>
 acall TP fn_impl_compiler_emit [x1.1,x1.2.1,v157] σ (onr (fun v158 σ=>
 aret (.tup []) σ R) (pn R))) (
 aret (.tup []) σ R)) fun k1=>
 frz v8 σ fun f8 σ=>
 og (fldA 0 f8) fun v31=>
 og (lod v31 σ) fun v32=>
 og (ibin .eql v32 (iv 1)) fun v34=>
 apick v34 (
 og (fldA 5 f8) fun v37=>
 og (lod v37 σ) fun v38=>
 og (bld [(iv 0),(iv 0),(iv 0),(iv 0),(iv 0),(str ⟨#[]⟩),nilS] [(0,1),(1,1),(2,1),(3,1),(4,1),(5,1),(6,1)] [(0,(iv 1)),(6,v38)]) fun v39=>
 acall TP fn_impl_compiler_emit [a0,a2,v39] σ (onr (fun v40 σ=>
 k1 (a0,a2,a3,()) σ) (pn R))) (
 og (ibin .eql v32 (iv 2)) fun v42=>
 apick v42 (
 og (fldA 2 f8) fun v45=>
 og (lod v45 σ) fun v46=>
 og (fldA 3 f8) fun v47=>
 og (lod v47 σ) fun v48=>
 og (bld [(iv 0),(iv 0),(iv 0),(iv 0),(iv 0),(str ⟨#[]⟩),nilS] [(0,1),(1,1),(2,1),(3,1),(4,1),(5,1),(6,1)] [(0,(iv 2)),(1,v46),(2,v48)]) fun v49=>
 acall TP fn_impl_compiler_emit [a0,a2,v49] σ (onr (fun v50 σ=>
 k1 (a0,a2,a3,()) σ) (pn R))) (
 og (ibin .eql v32 (iv 3)) fun v52=>
 apick v52 (
 og (fldA 4 f8) fun v55=>
 og (lod v55 σ) fun v56=>
 og (bld [(iv 0),(iv 0),(iv 0),(iv 0),(iv 0),(str ⟨#[]⟩),nilS] [(0,1),(1,1),(2,1),(3,1),(4,1),(5,1),(6,1)] [(0,(iv 3)),(5,v56)]) fun v57=>
 acall TP fn_impl_compiler_emit [a0,a2,v57] σ (onr (fun v58 σ=>
 k1 (a0,a2,a3,()) σ) (pn R))) (
 og (ibin .eql v32 (iv 5)) fun v60=>
 apick v60 (
 og (fldA 2 f8) fun v62=>
 og (lod v62 σ) fun v63=>
 acall TP fn_impl_compiler_block [a0,v63] σ (onr (fun v64 σ=>
 og (bld [(iv 0),(iv 0),(iv 0),(iv 0),(iv 0),(str ⟨#[]⟩),nilS] [(0,1),(1,1),(2,1),(3,1),(4,1),(5,1),(6,1)] [(0,(iv 4)),(1,v64)]) fun v68=>
 acall TP fn_impl_compiler_emit [a0,a2,v68] σ (onr (fun v69 σ=>
 og (idx 1 v30 (iv 0) σ) fun v72=>
 og (lod v72 σ) fun v73=>
 acall TP fn_impl_compiler_core [a0,v73,v64,(.val (.bool true))] σ (onr (fun v75 σ=>
 k1 (a0,a2,a3,()) σ) (pn R))) (pn R))) (pn R))) (
 jn (X:=Tup [0,2,3,8,9,32,76]) (fun x2 σ=>
 apick x2.2.2.2.2.2.2.1 (
 og (idx 1 x2.2.2.2.2.1 (iv 0) σ) fun v81=>
 og (lod v81 σ) fun v82=>
 acall TP fn_impl_compiler_core [x2.1,v82,x2.2.1,(.val (.bool false))] σ (onr (fun v84 σ=>
 og (fldA 0 x2.2.2.2.1) fun v87=>
 og (lod v87 σ) fun v88=>
 og (ibin .sub v88 (iv 7)) fun v89=>
 og (ibin .add v89 (iv 8)) fun v90=>
 og (fldA 4 x2.2.2.2.1) fun v91=>
 og (lod v91 σ) fun v92=>
 og (bld [(iv 0),(iv 0),(iv 0),(iv 0),(iv 0),(str ⟨#[]⟩),nilS] [(0,1),(1,1),(2,1),(3,1),(4,1),(5,1),(6,1)] [(0,v90),(5,v92)]) fun v93=>
 acall TP fn_impl_compiler_emit [x2.1,x2.2.1,v93] σ (onr (fun v94 σ=>
 k1 (x2.1,x2.2.1,x2.2.2.1,()) σ) (pn R))) (pn R))) (
 og (ibin .eql x2.2.2.2.2.2.1 (iv 4)) fun v96=>
 apick v96 (
 acall TP fn_impl_compiler_choice [x2.1,x2.2.2.2.2.1,x2.2.1,x2.2.2.1] σ (onr (fun v101 σ=>
 aret (.tup []) σ R) (pn R))) (
 og (ibin .eql x2.2.2.2.2.2.1 (iv 6)) fun v103=>
 apick v103 (
 og (lenS x2.2.2.2.2.1) fun v105=>
 og (ibin .sub v105 (iv 1)) fun v106=>
 og (slc 1 x2.2.2.2.2.1 none (some v106) none σ) fun v109=>
 og (lenS v109) fun v110=>
 lp (X:=Tup [0,2,3,9,11,109,110,111]) (fun R3 y3 σ=>
 og (ibin .lss y3.2.2.2.2.2.2.2.1 y3.2.2.2.2.2.2.1) fun v112=>
 apick v112 (
 og (idx 1 y3.2.2.2.2.2.1 y3.2.2.2.2.2.2.2.1 σ) fun v113=>
 og (lod v113 σ) fun v114=>
 acall TP fn_impl_compiler_core [y3.1,v114,y3.2.1,(.val (.bool false))] σ (onr (fun v118 σ=>
 og (bld [(iv 0),(iv 0),(iv 0),(iv 0),(iv 0),(str ⟨#[]⟩),nilS] [(0,1),(1,1),(2,1),(3,1),(4,1),(5,1),(6,1)] [(0,(iv 7))]) fun v121=>
 acall TP fn_impl_compiler_emit [y3.1,y3.2.1,v121] σ (onr (fun v122 σ=>
 og (ibin .add y3.2.2.2.2.2.2.2.1 (iv 1)) fun v123=>
 R3 (y3.1,y3.2.1,y3.2.2.1,y3.2.2.2.1,y3.2.2.2.2.1,y3.2.2.2.2.2.1,y3.2.2.2.2.2.2.1,v123,()) σ) (pn R))) (pn R))) (
 og (idx 1 y3.2.2.2.1 y3.2.2.2.2.1 σ) fun v127=>
 og (lod v127 σ) fun v128=>
 acall TP fn_impl_compiler_core [y3.1,v128,y3.2.1,y3.2.2.1] σ (onr (fun v131 σ=>
 aret (.tup []) σ R) (pn R)))) (x2.1,x2.2.1,x2.2.2.1,x2.2.2.2.2.1,v106,v109,v110,(iv 0),()) σ) (
 og (ibin .eql x2.2.2.2.2.2.1 (iv 9)) fun v133=>
 apick v133 (
 og (lenS x2.2.2.2.2.1) fun v135=>
 lp (X:=Tup [0,2,3,9,134,135,136]) (fun R4 y4 σ=>
 og (ibin .lss y4.2.2.2.2.2.2.1 y4.2.2.2.2.2.1) fun v137=>
 apick v137 (
 og (idx 1 y4.2.2.2.2.1 y4.2.2.2.2.2.2.1 σ) fun v138=>
 og (lod v138 σ) fun v139=>
 acall TP fn_impl_compiler_core [y4.1,v139,y4.2.1,(.val (.bool false))] σ (onr (fun v143 σ=>
 og (ibin .add y4.2.2.2.2.2.2.1 (iv 1)) fun v144=>
 R4 (y4.1,y4.2.1,y4.2.2.1,y4.2.2.2.1,y4.2.2.2.2.1,y4.2.2.2.2.2.1,v144,()) σ) (pn R))) (
 jn (X:=Tup [0,2,9,16]) (fun x5 σ=>
 og (lenS x5.2.2.1) fun v150=>
 og (ibin .sub v150 (iv 1)) fun v151=>
 og (bld [(iv 0),(iv 0),(iv 0),(iv 0),(iv 0),(str ⟨#[]⟩),nilS] [(0,1),(1,1),(2,1),(3,1),(4,1),(5,1),(6,1)] [(0,x5.2.2.2.1),(1,v151)]) fun v152=>
 acall TP fn_impl_compiler_emit [x5.1,x5.2.1,v152] σ (onr (fun v153 σ=>
 aret (.tup []) σ R) (pn R))) fun k5=>
 apick y4.2.2.1 (
 k5 (y4.1,y4.2.1,y4.2.2.2.1,(iv 11),()) σ) (
 k5 (y4.1,y4.2.1,y4.2.2.2.1,(iv 10),()) σ))) (x2.1,x2.2.1,x2.2.2.1,x2.2.2.2.2.1,x2.2.2.2.2.1,v135,(iv 0),()) σ) (
 k1 (x2.1,x2.2.1,x2.2.2.1,()) σ))))) fun k2=>
 og (ibin .eql v32 (iv 7)) fun v77=>
 apick v77 (
 k2 (a0,a2,a3,f8,v30,v32,v77,()) σ) (
 og (ibin .eql v32 (iv 8)) fun v78=>
 k2 (a0,a2,a3,f8,v30,v32,v78,()) σ)))))
def x57:Sx:= .ord [0,1,2,3,4,5,6,7,8,9,10,11,12,13,14,15,16] [0,1,3,7,0,31,63,0,128,384,896,0,3968,8064,0,16511,65535] (Q (A 3) (Q (F 0 0) (M 0 (J 6 0 5 (Q (.lodA 6 (Z 0)) (Q (A 8) (Q (F 1 0) (M 0 (J 1 0 10 (M 0 (.new [(iv 0),(iv 0),(iv 0),(iv 0),(str ⟨#[]⟩),nilS] (.wat [] (.sto 6 (Z 0) (Z 6) (.wat [⟨none,(.lod (Z 2)),(Z 1)⟩,⟨none,(.idx 1 (Z 3) (Z 13)),(Z 2)⟩,⟨none,(.lod (Z 4)),(Z 3)⟩] (.jn 7 [0,2,3] (P 2 (Q (.bld [(iv 0),(iv 0),(iv 0),(iv 0),(iv 0),(str ⟨#[]⟩),nilS] [(0,1),(1,1),(2,1),(3,1),(4,1),(5,1),(6,1)] [(0,(Y 12))]) (.call 110 [(Z 1),(Z 2),(Z 0)] (.rets []))) (.rets [])) (.frz 14 (Z 0) (Q (F 0 0) (M 0 (D .eql (Z 0) (Y 1) (P 0 (Q (F 5 3) (M 0 (Q (.bld [(iv 0),(iv 0),(iv 0),(iv 0),(iv 0),(str ⟨#[]⟩),nilS] [(0,1),(1,1),(2,1),(3,1),(4,1),(5,1),(6,1)] [(0,(Y 1)),(6,(Z 0))]) (.call 110 [(Z 21),(Z 19),(Z 0)] (.jump 0 [(Z 22),(Z 20),(Z 19)]))))) (D .eql (Z 1) (Y 2) (P 0 (Q (F 2 4) (M 0 (Q (F 3 6) (M 0 (Q (.bld [(iv 0),(iv 0),(iv 0),(iv 0),(iv 0),(str ⟨#[]⟩),nilS] [(0,1),(1,1),(2,1),(3,1),(4,1),(5,1),(6,1)] [(0,(Y 2)),(1,(Z 2)),(2,(Z 0))]) (.call 110 [(Z 24),(Z 22),(Z 0)] (.jump 0 [(Z 25),(Z 23),(Z 22)]))))))) (D .eql (Z 2) (Y 3) (P 0 (Q (F 4 5) (M 0 (Q (.bld [(iv 0),(iv 0),(iv 0),(iv 0),(iv 0),(str ⟨#[]⟩),nilS] [(0,1),(1,1),(2,1),(3,1),(4,1),(5,1),(6,1)] [(0,(Y 3)),(5,(Z 0))]) (.call 110 [(Z 23),(Z 21),(Z 0)] (.jump 0 [(Z 24),(Z 22),(Z 21)]))))) (D .eql (Z 3) (Y 5) (P 0 (Q (F 2 6) (M 0 (.call 58 [(Z 23),(Z 0)] (Q (.bld [(iv 0),(iv 0),(iv 0),(iv 0),(iv 0),(str ⟨#[]⟩),nilS] [(0,1),(1,1),(2,1),(3,1),(4,1),(5,1),(6,1)] [(0,(Y 4)),(1,(Z 0))]) (.call 110 [(Z 25),(Z 23),(Z 0)] (Q (.idx 1 (Z 13) (Y 0)) (M 0 (.call 57 [(Z 28),(Z 0),(Z 4),(.lit (.val (.bool true)))] (.jump 0 [(Z 29),(Z 27),(Z 26)]))))))))) (.jn 13823 [0,2,3,8,9,32,76] (P 6 (Q (.idx 1 (Z 4) (Y 0)) (M 0 (.call 57 [(Z 2),(Z 0),(Z 3),(.lit (.val (.bool false)))] (Q (F 0 6) (M 0 (D .sub (Z 0) (Y 7) (D .add (Z 0) (Y 8) (Q (F 4 10) (M 0 (Q (.bld [(iv 0),(iv 0),(iv 0),(iv 0),(iv 0),(str ⟨#[]⟩),nilS] [(0,1),(1,1),(2,1),(3,1),(4,1),(5,1),(6,1)] [(0,(Z 2)),(5,(Z 0))]) (.call 110 [(Z 10),(Z 11),(Z 0)] (.jump 0 [(Z 11),(Z 12),(Z 13)])))))))))))) (D .eql (Z 5) (Y 4) (P 0 (.call 111 [(Z 1),(Z 5),(Z 2),(Z 3)] (.rets [])) (D .eql (Z 6) (Y 6) (P 0 (O 6 (D .sub (Z 0) (Y 1) (Q (.slc 1 (Z 8) none (some (Z 0)) none) (O 0 (.lp [0,2,3,9,11,109,110,111] (D .lss (Z 7) (Z 6) (P 0 (J 1 6 8 (M 0 (.call 57 [(Z 3),(Z 0),(Z 4),(.lit (.val (.bool false)))] (Q (.bld [(iv 0),(iv 0),(iv 0),(iv 0),(iv 0),(str ⟨#[]⟩),nilS] [(0,1),(1,1),(2,1),(3,1),(4,1),(5,1),(6,1)] [(0,(Y 7))]) (.call 110 [(Z 5),(Z 6),(Z 0)] (D .add (Z 13) (Y 1) (.jump 0 [(Z 7),(Z 8),(Z 9),(Z 10),(Z 11),(Z 12),(Z 13),(Z 0)]))))))) (J 1 4 5 (M 0 (.call 57 [(Z 3),(Z 0),(Z 4),(Z 5)] (.rets [])))))) [(Z 6),(Z 7),(Z 8),(Z 10),(Z 2),(Z 1),(Z 0),(Y 0)]))))) (D .eql (Z 7) (Y 9) (P 0 (O 7 (.lp [0,2,3,9,134,135,136] (D .lss (Z 6) (Z 5) (P 0 (J 1 5 7 (M 0 (.call 57 [(Z 3),(Z 0),(Z 4),(.lit (.val (.bool false)))] (D .add (Z 10) (Y 1) (.jump 0 [(Z 5),(Z 6),(Z 7),(Z 8),(Z 9),(Z 10),(Z 0)]))))) (.jn 14155767 [0,2,9,16] (O 2 (D .sub (Z 0) (Y 1) (Q (.bld [(iv 0),(iv 0),(iv 0),(iv 0),(iv 0),(str ⟨#[]⟩),nilS] [(0,1),(1,1),(2,1),(3,1),(4,1),(5,1),(6,1)] [(0,(Z 5)),(1,(Z 0))]) (.call 110 [(Z 3),(Z 4),(Z 0)] (.rets []))))) (P 3 (.jump 0 [(Z 1),(Z 2),(Z 4),(Y 11)]) (.jump 0 [(Z 1),(Z 2),(Z 4),(Y 10)]))))) [(Z 4),(Z 5),(Z 6),(Z 8),(Z 8),(Z 0),(Y 0)])) (.jump 0 [(Z 3),(Z 4),(Z 5)])))))))) (D .eql (Z 4) (Y 7) (P 0 (.jump 0 [(Z 22),(Z 20),(Z 19),(Z 7),(Z 9),(Z 5),(Z 0)]) (D .eql (Z 5) (Y 8) (.jump 0 [(Z 23),(Z 21),(Z 20),(Z 8),(Z 10),(Z 6),(Z 0)])))))))))))))))))))))))))))))))
theorem x57_ok:okF TT Tryz.f57 4 x57=true:=by decide+kernel
theorem s_impl_compiler_core_ok (h:s_impl_compiler_core a0 a1 a2 a3 σ R):acall TP fn_impl_compiler_core [a0,a1,a2,a3] σ R:=
 acall_okF (ρ:=[a3,a2,a1,a0]) TT_ok Tryz.func57 rfl x57 x57_ok rfl h
def s_impl_compiler_block (a0 a1:AV) (σ:AH) (R:AEnd→AH→Prop):Prop:=
 og (anil a0) fun v6=>
 og (fldA 2 v6) fun v7=>
 og (lod v7 σ) fun v8=>
 og (lenS v8) fun v9=>
 og (ibin .eql v9 (iv 60)) fun v10=>
 acall TP fn_impl_failIf [v10,(iv 2)] σ (onr (fun v11 σ=>
 og (anil a0) fun v14=>
 og (fldA 2 v14) fun v15=>
 og (lod v15 σ) fun v16=>
 og (bld [(iv 0),nilS] [(0,1),(1,1)] [(0,a1)]) fun v18=>
 bsl 2 [(iv 0),nilS] 1 [(0,v18)] σ fun v19 σ=>
 app 2 v16 v19 σ fun v20 σ=>
 og (anil a0) fun v21=>
 og (fldA 2 v21) fun v22=>
 sto 1 v22 v20 σ fun σ=>
 og (anil a0) fun v24=>
 og (fldA 2 v24) fun v25=>
 og (lod v25 σ) fun v26=>
 og (lenS v26) fun v27=>
 og (ibin .sub v27 (iv 1)) fun v28=>
 aret v28 σ R) (pn R))
def x58:Sx:=Q (A 1) (Q (F 2 0) (M 0 (O 0 (D .eql (Z 0) (Y 60) (.call 94 [(Z 0),(Y 2)] (Q (A 7) (Q (F 2 0) (M 0 (Q (.bld [(iv 0),nilS] [(0,1),(1,1)] [(0,(Z 9))]) (.bsl 2 [(iv 0),nilS] 1 [(0,(Z 0))] (.app 2 (Z 2) (Z 0) (Q (A 13) (Q (F 2 0) (.sto 1 (Z 0) (Z 2) (Q (A 15) (Q (F 2 0) (M 0 (O 0 (D .sub (Z 0) (Y 1) (.ret (Z 0)))))))))))))))))))))
theorem x58_ok:okF TT Tryz.f58 2 x58=true:=by decide+kernel
theorem s_impl_compiler_block_ok (h:s_impl_compiler_block a0 a1 σ R):acall TP fn_impl_compiler_block [a0,a1] σ R:=
 acall_okF (ρ:=[a1,a0]) TT_ok Tryz.func58 rfl x58 x58_ok rfl h
def s_impl_copiedCode (a0:AV) (σ:AH) (R:AEnd→AH→Prop):Prop:=
 bsl 2 [(iv 0),nilS] 0 [] σ fun v9 σ=>
 og (lenS a0) fun v11=>
 lp (X:=Tup [3,10,11,12]) (fun R1 y1 σ=>
 og (ibin .lss y1.2.2.2.1 y1.2.2.1) fun v13=>
 apick v13 (
 og (idx 2 y1.2.1 y1.2.2.2.1 σ) fun v14=>
 og (lodA 2 v14 σ) fun v15=>
 new [(iv 0),nilS] σ fun v5 σ=>
 sto 2 v5 v15 σ fun σ=>
 frz v5 σ fun f5 σ=>
 bsl 7 [(iv 0),(iv 0),(iv 0),(iv 0),(iv 0),(str ⟨#[]⟩),nilS] 0 [] σ fun v16 σ=>
 og (fldA 1 f5) fun v17=>
 og (lod v17 σ) fun v18=>
 og (lenS v18) fun v19=>
 lp (X:=Tup [3,5,6,10,11,12,18,19,20]) (fun R2 y2 σ=>
 og (ibin .lss y2.2.2.2.2.2.2.2.2.1 y2.2.2.2.2.2.2.2.1) fun v21=>
 apick v21 (
 og (idx 7 y2.2.2.2.2.2.2.1 y2.2.2.2.2.2.2.2.2.1 σ) fun v22=>
 og (lodA 7 v22 σ) fun v23=>
 new [(iv 0),(iv 0),(iv 0),(iv 0),(iv 0),(str ⟨#[]⟩),nilS] σ fun v8 σ=>
 sto 7 v8 v23 σ fun σ=>
 og (fldA 6 v8) fun v24=>
 og (lod v24 σ) fun v25=>
 acall TP fn_slices_Clone [v25] σ (onr (fun v26 σ=>
 og (fldA 6 v8) fun v27=>
 sto 1 v27 v26 σ fun σ=>
 frz v8 σ fun f8 σ=>
 og (lodA 7 f8 σ) fun v29=>
 bsl 7 [(iv 0),(iv 0),(iv 0),(iv 0),(iv 0),(str ⟨#[]⟩),nilS] 1 [(0,v29)] σ fun v30 σ=>
 app 7 y2.2.2.1 v30 σ fun v31 σ=>
 og (ibin .add y2.2.2.2.2.2.2.2.2.1 (iv 1)) fun v32=>
 R2 (y2.1,y2.2.1,v31,y2.2.2.2.1,y2.2.2.2.2.1,y2.2.2.2.2.2.1,y2.2.2.2.2.2.2.1,y2.2.2.2.2.2.2.2.1,v32,()) σ) (pn R))) (
 og (fldA 0 y2.2.1) fun v34=>
 og (lod v34 σ) fun v35=>
 og (bld [(iv 0),nilS] [(0,1),(1,1)] [(0,v35),(1,y2.2.2.1)]) fun v37=>
 bsl 2 [(iv 0),nilS] 1 [(0,v37)] σ fun v38 σ=>
 app 2 y2.1 v38 σ fun v39 σ=>
 og (ibin .add y2.2.2.2.2.2.1 (iv 1)) fun v40=>
 R1 (v39,y2.2.2.2.1,y2.2.2.2.2.1,v40,()) σ)) (y1.1,f5,v16,y1.2.1,y1.2.2.1,y1.2.2.2.1,v18,v19,(iv 0),()) σ) (
 aret y1.1 σ R)) (v9,a0,v11,(iv 0),()) σ
def x59:Sx:= .bsl 2 [(iv 0),nilS] 0 [] (O 1 (.lp [3,10,11,12] (D .lss (Z 3) (Z 2) (P 0 (J 2 2 4 (Q (.lodA 2 (Z 0)) (.new [(iv 0),nilS] (.sto 2 (Z 0) (Z 1) (.frz 7 (Z 0) (.bsl 7 [(iv 0),(iv 0),(iv 0),(iv 0),(iv 0),(str ⟨#[]⟩),nilS] 0 [] (Q (F 1 1) (M 0 (O 0 (.lp [3,5,6,10,11,12,18,19,20] (D .lss (Z 8) (Z 7) (P 0 (J 7 7 9 (Q (.lodA 7 (Z 0)) (.new [(iv 0),(iv 0),(iv 0),(iv 0),(iv 0),(str ⟨#[]⟩),nilS] (.sto 7 (Z 0) (Z 1) (Q (F 6 0) (M 0 (.call 112 [(Z 0)] (Q (F 6 3) (.sto 1 (Z 0) (Z 1) (.frz 12 (Z 4) (Q (.lodA 7 (Z 0)) (.bsl 7 [(iv 0),(iv 0),(iv 0),(iv 0),(iv 0),(str ⟨#[]⟩),nilS] 1 [(0,(Z 0))] (.app 7 (Z 13) (Z 0) (D .add (Z 20) (Y 1) (.jump 0 [(Z 13),(Z 14),(Z 1),(Z 16),(Z 17),(Z 18),(Z 19),(Z 20),(Z 0)]))))))))))))))) (Q (F 0 2) (M 0 (Q (.bld [(iv 0),nilS] [(0,1),(1,1)] [(0,(Z 0)),(1,(Z 5))]) (.bsl 2 [(iv 0),nilS] 1 [(0,(Z 0))] (.app 2 (Z 5) (Z 0) (D .add (Z 11) (Y 1) (.jump 1 [(Z 1),(Z 10),(Z 11),(Z 0)]))))))))) [(Z 9),(Z 4),(Z 3),(Z 10),(Z 11),(Z 12),(Z 1),(Z 0),(Y 0)])))))))))) (.ret (Z 1)))) [(Z 1),(Z 2),(Z 0),(Y 0)]))
theorem x59_ok:okF TT Tryz.f59 1 x59=true:=by decide+kernel
theorem s_impl_copiedCode_ok (h:s_impl_copiedCode a0 σ R):acall TP fn_impl_copiedCode [a0] σ R:=
 acall_okF (ρ:=[a0]) TT_ok Tryz.func59 rfl x59 x59_ok rfl h
def s_laws_eqOpS (a0 a1:AV) (σ:AH) (R:AEnd→AH→Prop):Prop:=
 og (lenS a0) fun v7=>
 og (lenS a1) fun v9=>
 og (ibin .neq v7 v9) fun v10=>
 apick v10 (
 aret (.val (.bool false)) σ R) (
 lp (X:=Tup [0,1,5]) (fun R1 y1 σ=>
 og (lenS y1.1) fun v13=>
 og (ibin .lss y1.2.2.1 v13) fun v14=>
 apick v14 (
 og (idx 7 y1.1 y1.2.2.1 σ) fun v19=>
 og (lodA 7 v19 σ) fun v20=>
 og (idx 7 y1.2.1 y1.2.2.1 σ) fun v23=>
 og (lodA 7 v23 σ) fun v24=>
 acall TP fn_laws_eqOp [v20,v24] σ (onr (fun v25 σ=>
 (True)∧
 og (aun .not v25) fun v26=>
 apick v26 (
 aret (.val (.bool false)) σ R) (
 og (ibin .add y1.2.2.1 (iv 1)) fun v16=>
 R1 (y1.1,y1.2.1,v16,()) σ)) (pn R))) (
 aret (.val (.bool true)) σ R)) (a0,a1,(iv 0),()) σ)
def x60:Sx:=O 1 (O 1 (D .neq (Z 1) (Z 0) (P 0 (.ret (.lit (.val (.bool false)))) (.lp [0,1,5] (O 0 (D .lss (Z 3) (Z 0) (P 0 (.ord [0,1,2,3,4,5,6,7,8,9] [0,0,3,7,0,0,48,112,255,511] (J 7 2 4 (Q (.lodA 7 (Z 0)) (J 7 5 6 (Q (.lodA 7 (Z 0)) (.call 113 [(Z 2),(Z 0)] (.wat [] (Q (.aun .not (Z 0)) (P 0 (.ret (.lit (.val (.bool false)))) (D .add (Z 10) (Y 1) (.jump 0 [(Z 9),(Z 10),(Z 0)]))))))))))) (.ret (.lit (.val (.bool true))))))) [(Z 4),(Z 3),(Y 0)]))))
theorem x60_ok:okF TT Tryz.f60 2 x60=true:=by decide+kernel
theorem s_laws_eqOpS_ok (h:s_laws_eqOpS a0 a1 σ R):acall TP fn_laws_eqOpS [a0,a1] σ R:=
 acall_okF (ρ:=[a1,a0]) TT_ok Tryz.func60 rfl x60 x60_ok rfl h
def s_laws_markText (a0:AV) (σ:AH) (R:AEnd→AH→Prop):Prop:=
 og (ibin .leq a0 (iv 0)) fun v5=>
 apick v5 (
 aret (.val (.string ⟨#[109,48]⟩)) σ R) (
 lp (X:=Tup [0,3]) (fun R1 y1 σ=>
 og (ibin .gtr y1.1 (iv 0)) fun v7=>
 apick v7 (
 og (ibin .rem y1.1 (iv 10)) fun v9=>
 og (ibin .add (iv 48) v9) fun v10=>
 og (convI .u8 v10) fun v11=>
 bsl 1 [(.val (.int .u8 0))] 1 [(0,v11)] σ fun v12 σ=>
 aconv TT ty_Lb ty_s v12 σ fun v13 σ=>
 og (sbin .add v13 y1.2.1) fun v15=>
 og (ibin .quo y1.1 (iv 10)) fun v17=>
 R1 (v17,v15,()) σ) (
 og (sbin .add (.val (.string ⟨#[109]⟩)) y1.2.1) fun v19=>
 aret v19 σ R)) (a0,(str ⟨#[]⟩),()) σ)
def x61:Sx:=D .leq (Z 0) (Y 0) (P 0 (.ret (.lit (.val (.string ⟨#[109,48]⟩)))) (.lp [0,3] (D .gtr (Z 0) (Y 0) (P 0 (D .rem (Z 1) (Y 10) (D .add (Y 48) (Z 0) (Q (.conv .u8 (Z 0)) (.bsl 1 [(.val (.int .u8 0))] 1 [(0,(Z 0))] (.cnv 135 9 (Z 0) (Q (.sbin .add (Z 0) (Z 7)) (D .quo (Z 7) (Y 10) (.jump 0 [(Z 0),(Z 1)])))))))) (Q (.sbin .add (.lit (.val (.string ⟨#[109]⟩))) (Z 2)) (.ret (Z 0))))) [(Z 1),(.lit (str ⟨#[]⟩))]))
theorem x61_ok:okF TT Tryz.f61 1 x61=true:=by decide+kernel
theorem s_laws_markText_ok (h:s_laws_markText a0 σ R):acall TP fn_laws_markText [a0] σ R:=
 acall_okF (ρ:=[a0]) TT_ok Tryz.func61 rfl x61 x61_ok rfl h
def s_laws_markDatumS (a0 a1:AV) (σ:AH) (R:AEnd→AH→Prop):Prop:=
 lp (X:=Tup [0,1,5]) (fun R1 y1 σ=>
 og (lenS y1.1) fun v8=>
 og (ibin .lss y1.2.2.1 v8) fun v9=>
 apick v9 (
 og (idx 4 y1.1 y1.2.2.1 σ) fun v15=>
 og (fldA 0 v15) fun v16=>
 sto 1 v16 y1.2.1 σ fun σ=>
 og (ibin .add y1.2.1 (iv 1)) fun v18=>
 og (idx 4 y1.1 y1.2.2.1 σ) fun v22=>
 og (fldA 1 v22) fun v23=>
 sto 1 v23 v18 σ fun σ=>
 og (ibin .add v18 (iv 1)) fun v25=>
 og (idx 4 y1.1 y1.2.2.1 σ) fun v29=>
 og (fldA 2 v29) fun v30=>
 sto 1 v30 v25 σ fun σ=>
 og (ibin .add v25 (iv 1)) fun v32=>
 acall TP fn_laws_markText [v32] σ (onr (fun v36 σ=>
 og (idx 4 y1.1 y1.2.2.1 σ) fun v37=>
 og (fldA 3 v37) fun v38=>
 sto 1 v38 v36 σ fun σ=>
 og (ibin .add v32 (iv 1)) fun v40=>
 og (ibin .add y1.2.2.1 (iv 1)) fun v11=>
 R1 (y1.1,v40,v11,()) σ) (pn R))) (
 aret y1.2.1 σ R)) (a0,a1,(iv 0),()) σ
def x62:Sx:= .lp [0,1,5] (O 0 (D .lss (Z 3) (Z 0) (P 0 (J 4 2 4 (Q (F 0 0) (.sto 1 (Z 0) (Z 5) (D .add (Z 5) (Y 1) (J 4 5 7 (Q (F 1 0) (.sto 1 (Z 0) (Z 2) (D .add (Z 2) (Y 1) (J 4 8 10 (Q (F 2 0) (.sto 1 (Z 0) (Z 2) (D .add (Z 2) (Y 1) (.call 61 [(Z 0)] (J 4 12 14 (Q (F 3 0) (.sto 1 (Z 0) (Z 2) (D .add (Z 3) (Y 1) (D .add (Z 17) (Y 1) (.jump 0 [(Z 16),(Z 1),(Z 0)]))))))))))))))))))) (.ret (Z 3))))) [(Z 1),(Z 0),(Y 0)]
theorem x62_ok:okF TT Tryz.f62 2 x62=true:=by decide+kernel
theorem s_laws_markDatumS_ok (h:s_laws_markDatumS a0 a1 σ R):acall TP fn_laws_markDatumS [a0,a1] σ R:=
 acall_okF (ρ:=[a1,a0]) TT_ok Tryz.func62 rfl x62 x62_ok rfl h
def s_laws_heldDatumS (a0 a1:AV) (σ:AH) (R:AEnd→AH→Prop):Prop:=
 lp (X:=Tup [0,1,5]) (fun R1 y1 σ=>
 og (lenS y1.1) fun v8=>
 og (ibin .lss y1.2.2.1 v8) fun v9=>
 apick v9 (
 og (idx 4 y1.1 y1.2.2.1 σ) fun v14=>
 og (fldA 0 v14) fun v15=>
 og (lod v15 σ) fun v16=>
 og (ibin .neq v16 y1.2.1) fun v18=>
 apick v18 (
 aret (iv (-1)) σ R) (
 og (ibin .add y1.2.1 (iv 1)) fun v20=>
 og (idx 4 y1.1 y1.2.2.1 σ) fun v23=>
 og (fldA 1 v23) fun v24=>
 og (lod v24 σ) fun v25=>
 og (ibin .neq v25 v20) fun v27=>
 apick v27 (
 aret (iv (-1)) σ R) (
 og (ibin .add v20 (iv 1)) fun v29=>
 og (idx 4 y1.1 y1.2.2.1 σ) fun v32=>
 og (fldA 2 v32) fun v33=>
 og (lod v33 σ) fun v34=>
 og (ibin .neq v34 v29) fun v36=>
 apick v36 (
 aret (iv (-1)) σ R) (
 og (ibin .add v29 (iv 1)) fun v38=>
 og (idx 4 y1.1 y1.2.2.1 σ) fun v41=>
 og (fldA 3 v41) fun v42=>
 og (lod v42 σ) fun v43=>
 acall TP fn_laws_markText [v38] σ (onr (fun v45 σ=>
 (lod v42 σ=some v43∧idx 4 y1.1 y1.2.2.1 σ=some v41∧True)∧
 og (sbin .neq v43 v45) fun v46=>
 apick v46 (
 aret (iv (-1)) σ R) (
 og (ibin .add v38 (iv 1)) fun v48=>
 og (ibin .add y1.2.2.1 (iv 1)) fun v11=>
 R1 (y1.1,v48,v11,()) σ)) (pn R)))))) (
 aret y1.2.1 σ R)) (a0,a1,(iv 0),()) σ
def x63:Sx:= .lp [0,1,5] (O 0 (D .lss (Z 3) (Z 0) (P 0 (J 4 2 4 (Q (F 0 0) (M 0 (D .neq (Z 0) (Z 6) (P 0 (.ret (Y (-1))) (D .add (Z 7) (Y 1) (J 4 7 9 (Q (F 1 0) (M 0 (D .neq (Z 0) (Z 3) (P 0 (.ret (Y (-1))) (D .add (Z 4) (Y 1) (J 4 12 14 (Q (F 2 0) (M 0 (D .neq (Z 0) (Z 3) (P 0 (.ret (Y (-1))) (D .add (Z 4) (Y 1) (.ord [0,1,2,3,4,5,6,7] [0,0,3,7,15,0,32,127] (J 4 17 19 (Q (F 3 0) (M 0 (.call 61 [(Z 3)] (.wat [⟨none,(.lod (Z 2)),(Z 1)⟩,⟨none,(.idx 4 (Z 21) (Z 23)),(Z 3)⟩] (Q (.sbin .neq (Z 1) (Z 0)) (P 0 (.ret (Y (-1))) (D .add (Z 5) (Y 1) (D .add (Z 25) (Y 1) (.jump 0 [(Z 24),(Z 1),(Z 0)]))))))))))))))))))))))))))))) (.ret (Z 3))))) [(Z 1),(Z 0),(Y 0)]
theorem x63_ok:okF TT Tryz.f63 2 x63=true:=by decide+kernel
theorem s_laws_heldDatumS_ok (h:s_laws_heldDatumS a0 a1 σ R):acall TP fn_laws_heldDatumS [a0,a1] σ R:=
 acall_okF (ρ:=[a1,a0]) TT_ok Tryz.func63 rfl x63 x63_ok rfl h
def s_spec_l2Tokens (a0:AV) (σ:AH) (R:AEnd→AH→Prop):Prop:=
 bsl 3 [(iv 0),(iv 0),(str ⟨#[]⟩)] 0 [] σ fun v11 σ=>
 acall TP fn_spec_l2Skip [a0,(iv 0)] σ (onr (fun v13 σ=>
 lp (X:=Tup [0,5,6]) (fun R1 y1 σ=>
 og (lenStr y1.1) fun v16=>
 og (ibin .lss y1.2.2.1 v16) fun v17=>
 apick v17 (
 og (idxStr y1.1 y1.2.2.1) fun v21=>
 acall TP fn_spec_l2Mark [v21] σ (onr (fun v22 σ=>
 og (bld [(iv 0),(iv 0),(str ⟨#[]⟩)] [(0,1),(1,1),(2,1)] [(0,v22)]) fun v23=>
 new [(iv 0),(iv 0),(str ⟨#[]⟩)] σ fun v8 σ=>
 sto 3 v8 v23 σ fun σ=>
 og (ibin .add y1.2.2.1 (iv 1)) fun v25=>
 jn (X:=Tup [0,5,6,7,8]) (fun x2 σ=>
 frz x2.2.2.2.2.1 σ fun f8 σ=>
 og (lenS x2.2.1) fun v45=>
 og (ibin .geq v45 (iv 120)) fun v46=>
 apick v46 (
 aret (.tup [nilS,(iv 2),x2.2.2.2.1]) σ R) (
 og (lodA 3 f8 σ) fun v49=>
 bsl 3 [(iv 0),(iv 0),(str ⟨#[]⟩)] 1 [(0,v49)] σ fun v50 σ=>
 app 3 x2.2.1 v50 σ fun v51 σ=>
 acall TP fn_spec_l2Skip [x2.1,x2.2.2.1] σ (onr (fun v54 σ=>
 R1 (x2.1,v51,v54,()) σ) (pn R)))) fun k2=>
 og (fldA 0 v8) fun v26=>
 og (lod v26 σ) fun v27=>
 og (ibin .eql v27 (iv 0)) fun v28=>
 apick v28 (
 acall TP fn_spec_l2End [y1.1,y1.2.2.1] σ (onr (fun v31 σ=>
 og (slcStr y1.1 (some y1.2.2.1) (some v31)) fun v36=>
 acall TP fn_spec_l2Word [v36] σ (onr (fun v37 σ=>
 og (aext v37 0) fun v38=>
 og (aext v37 1) fun v39=>
 new [(iv 0),(iv 0),(str ⟨#[]⟩)] σ fun v9 σ=>
 sto 3 v9 v38 σ fun σ=>
 frz v9 σ fun f9 σ=>
 og (aun .not v39) fun v41=>
 apick v41 (
 aret (.tup [nilS,(iv 5),y1.2.2.1]) σ R) (
 og (lodA 3 f9 σ) fun v43=>
 sto 3 v8 v43 σ fun σ=>
 k2 (y1.1,y1.2.1,v31,y1.2.2.1,v8,()) σ)) (pn R))) (pn R))) (
 k2 (y1.1,y1.2.1,v25,y1.2.2.1,v8,()) σ)) (pn R))) (
 aret (.tup [y1.2.1,(iv 0),(iv 0)]) σ R)) (a0,v11,v13,()) σ) (pn R))
def x64:Sx:= .bsl 3 [(iv 0),(iv 0),(str ⟨#[]⟩)] 0 [] (.call 114 [(Z 1),(Y 0)] (.lp [0,5,6] (Q (.lenStr (Z 0)) (D .lss (Z 3) (Z 0) (P 0 (Q (.idxStr (Z 2) (Z 4)) (.call 115 [(Z 0)] (Q (.bld [(iv 0),(iv 0),(str ⟨#[]⟩)] [(0,1),(1,1),(2,1)] [(0,(Z 0))]) (.new [(iv 0),(iv 0),(str ⟨#[]⟩)] (.sto 3 (Z 0) (Z 1) (D .add (Z 8) (Y 1) (.jn 7727 [0,5,6,7,8] (.frz 0 (Z 4) (O 2 (D .geq (Z 0) (Y 120) (P 0 (.rets [(.lit nilS),(Y 2),(Z 6)]) (Q (.lodA 3 (Z 2)) (.bsl 3 [(iv 0),(iv 0),(str ⟨#[]⟩)] 1 [(0,(Z 0))] (.app 3 (Z 6) (Z 0) (.call 114 [(Z 6),(Z 8)] (.jump 0 [(Z 7),(Z 1),(Z 0)]))))))))) (Q (F 0 1) (M 0 (D .eql (Z 0) (Y 0) (P 0 (.call 116 [(Z 10),(Z 12)] (Q (.slcStr (Z 11) (some (Z 13)) (some (Z 0))) (.call 117 [(Z 0)] (Q (.aext (Z 0) 0) (Q (.aext (Z 1) 1) (.new [(iv 0),(iv 0),(str ⟨#[]⟩)] (.sto 3 (Z 0) (Z 2) (.frz 18 (Z 0) (Q (.aun .not (Z 2)) (P 0 (.rets [(.lit nilS),(Y 5),(Z 20)]) (Q (.lodA 3 (Z 1)) (.sto 3 (Z 13) (Z 0) (.jump 0 [(Z 19),(Z 20),(Z 8),(Z 21),(Z 13)]))))))))))))) (.jump 0 [(Z 10),(Z 11),(Z 3),(Z 12),(Z 4)])))))))))))) (.rets [(Z 3),(Y 0),(Y 0)])))) [(Z 2),(Z 1),(Z 0)]))
theorem x64_ok:okF TT Tryz.f64 1 x64=true:=by decide+kernel
theorem s_spec_l2Tokens_ok (h:s_spec_l2Tokens a0 σ R):acall TP fn_spec_l2Tokens [a0] σ R:=
 acall_okF (ρ:=[a0]) TT_ok Tryz.func64 rfl x64 x64_ok rfl h
def s_spec_l3Token (a0 a1:AV) (σ:AH) (R:AEnd→AH→Prop):Prop:=
 og (anil a1) fun v9=>
 og (fldA 0 v9) fun v10=>
 og (lod v10 σ) fun v11=>
 og (ibin .eql v11 (iv 1)) fun v13=>
 apick v13 (
 acall TP fn_spec_l3Begin [a0,(.val (.bool false))] σ (onr (fun v15 σ=>
 aret v15 σ R) (pn R))) (
 og (ibin .eql v11 (iv 3)) fun v17=>
 apick v17 (
 acall TP fn_spec_l3Begin [a0,(.val (.bool true))] σ (onr (fun v19 σ=>
 aret v19 σ R) (pn R))) (
 og (ibin .eql v11 (iv 2)) fun v21=>
 apick v21 (
 og (anil a0) fun v23=>
 og (fldA 1 v23) fun v24=>
 og (lod v24 σ) fun v25=>
 og (lenS v25) fun v26=>
 og (ibin .eql v26 (iv 0)) fun v28=>
 og (gval v28 false false (some a0)) fun v30=>
 og (gval v28 false false (anil v30)) fun v31=>
 og (gval v28 false false (fldA 2 v31)) fun v32=>
 og (gval v28 false false (lod v32 σ)) fun v33=>
 og (gval v28 false false (some v26)) fun v34=>
 og (gval v28 false false (ibin .sub v34 (iv 1))) fun v35=>
 og (gval v28 false false (idx 1 v33 v35 σ)) fun v36=>
 og (gval v28 false false (lod v36 σ)) fun v37=>
 og (pickV v28 (.val (.bool true)) v37) fun v38=>
 apick v38 (
 aret (iv 1) σ R) (
 og (anil a0) fun v41=>
 og (fldA 1 v41) fun v42=>
 og (lod v42 σ) fun v43=>
 og (ibin .sub v26 (iv 1)) fun v45=>
 og (slc 1 v43 none (some v45) none σ) fun v46=>
 og (anil a0) fun v47=>
 og (fldA 1 v47) fun v48=>
 sto 1 v48 v46 σ fun σ=>
 og (anil a0) fun v51=>
 og (fldA 2 v51) fun v52=>
 og (lod v52 σ) fun v53=>
 og (ibin .sub v26 (iv 1)) fun v55=>
 og (slc 1 v53 none (some v55) none σ) fun v56=>
 og (anil a0) fun v57=>
 og (fldA 2 v57) fun v58=>
 sto 1 v58 v56 σ fun σ=>
 acall TP fn_spec_l3Whole [a0] σ (onr (fun v60 σ=>
 aret (iv 0) σ R) (pn R)))) (
 og (anil a1) fun v62=>
 og (fldA 0 v62) fun v63=>
 og (lod v63 σ) fun v64=>
 og (ibin .sub v64 (iv 3)) fun v65=>
 og (anil a1) fun v67=>
 og (fldA 1 v67) fun v68=>
 og (lod v68 σ) fun v69=>
 og (anil a1) fun v71=>
 og (fldA 2 v71) fun v72=>
 og (lod v72 σ) fun v73=>
 og (bld [(iv 0),(iv 0),(iv 0),(str ⟨#[]⟩)] [(0,1),(1,1),(2,1),(3,1)] [(0,v65),(2,v69),(3,v73)]) fun v74=>
 new [(iv 0),(iv 0),(iv 0),(str ⟨#[]⟩)] σ fun v6 σ=>
 (True)∧
 sto 4 v6 v74 σ fun σ=>
 (True)∧
 frz v6 σ fun f6 σ=>
 og (lodA 4 f6 σ) fun v76=>
 acall TP fn_spec_l3Put [a0,v76] σ (onr (fun v77 σ=>
 og (ibin .neq v77 (iv 0)) fun v79=>
 apick v79 (
 aret v77 σ R) (
 acall TP fn_spec_l3Whole [a0] σ (onr (fun v82 σ=>
 aret (iv 0) σ R) (pn R)))) (pn R)))))
def x65:Sx:=Q (A 0) (Q (F 0 0) (M 0 (D .eql (Z 0) (Y 1) (P 0 (.call 118 [(Z 5),(.lit (.val (.bool false)))] (.ret (Z 0))) (D .eql (Z 1) (Y 3) (P 0 (.call 118 [(Z 6),(.lit (.val (.bool true)))] (.ret (Z 0))) (D .eql (Z 2) (Y 2) (P 0 (Q (A 7) (Q (F 1 0) (M 0 (O 0 (D .eql (Z 0) (Y 0) (G 0 (.ret (Z 12)) (G 1 (A 0) (G 2 (F 2 0) (G 3 (L 0) (G 4 (.ret (Z 5)) (G 5 (B .sub (Z 0) (Y 1)) (G 6 (I 1 2 0) (G 7 (L 0) (Q (.pickV (Z 8) (.lit (.val (.bool true))) (Z 0)) (P 0 (.ret (Y 1)) (Q (A 21) (Q (F 1 0) (M 0 (D .sub (Z 13) (Y 1) (Q (.slc 1 (Z 1) none (some (Z 0)) none) (Q (A 26) (Q (F 1 0) (.sto 1 (Z 0) (Z 2) (Q (A 28) (Q (F 2 0) (M 0 (D .sub (Z 20) (Y 1) (Q (.slc 1 (Z 1) none (some (Z 0)) none) (Q (A 33) (Q (F 2 0) (.sto 1 (Z 0) (Z 2) (.call 119 [(Z 35)] (.ret (Y 0)))))))))))))))))))))))))))))))))) (.ord [0,1,2,3,4,5,6,7,8,9,10,11,12,13,14,15] [0,1,3,7,15,0,32,96,224,0,512,1536,3584,8191,0,32767] (Q (A 6) (Q (F 0 0) (M 0 (D .sub (Z 0) (Y 3) (Q (A 10) (Q (F 1 0) (M 0 (Q (A 13) (Q (F 2 0) (M 0 (Q (.bld [(iv 0),(iv 0),(iv 0),(str ⟨#[]⟩)] [(0,1),(1,1),(2,1),(3,1)] [(0,(Z 6)),(2,(Z 3)),(3,(Z 0))]) (.new [(iv 0),(iv 0),(iv 0),(str ⟨#[]⟩)] (.wat [] (.sto 4 (Z 0) (Z 1) (.wat [] (.frz 19 (Z 0) (Q (.lodA 4 (Z 0)) (.call 120 [(Z 21),(Z 0)] (D .neq (Z 0) (Y 0) (P 0 (.ret (Z 1)) (.call 119 [(Z 23)] (.ret (Y 0))))))))))))))))))))))))))))))))
theorem x65_ok:okF TT Tryz.f65 2 x65=true:=by decide+kernel
theorem s_spec_l3Token_ok (h:s_spec_l3Token a0 a1 σ R):acall TP fn_spec_l3Token [a0,a1] σ R:=
 acall_okF (ρ:=[a1,a0]) TT_ok Tryz.func65 rfl x65 x65_ok rfl h
def s_spec_l3Bare (a0:AV) (σ:AH) (R:AEnd→AH→Prop):Prop:=
 og (anil a0) fun v5=>
 og (fldA 0 v5) fun v6=>
 og (lod v6 σ) fun v7=>
 og (ibin .eql v7 (iv 1)) fun v8=>
 og (gval v8 false false (some a0)) fun v10=>
 og (gval v8 false false (anil v10)) fun v11=>
 og (gval v8 false false (fldA 0 v11)) fun v12=>
 og (gval v8 false false (lod v12 σ)) fun v13=>
 og (gval v8 false false (ibin .eql v13 (iv 2))) fun v14=>
 og (pickV v8 (.val (.bool true)) v14) fun v15=>
 og (anil a0) fun v17=>
 og (fldA 0 v17) fun v18=>
 og (lod v18 σ) fun v19=>
 acall TP fn_spec_l1In [v19,(iv 1),(iv 4)] σ (onr (fun v20 σ=>
 og (gval v20 true false (some v15)) fun v22=>
 og (gval v20 true false (some v22)) fun v23=>
 og (gval v23 false true (some a0)) fun v24=>
 og (gval v23 false true (anil v24)) fun v25=>
 og (gval v23 false true (fldA 2 v25)) fun v26=>
 og (gval v23 false true (lod v26 σ)) fun v27=>
 og (gval v23 false true (ibin .eql v27 (iv 0))) fun v28=>
 og (gval v20 true false (pickV v23 (.val (.bool true)) v28)) fun v29=>
 og (pickV v20 v29 (.val (.bool false))) fun v30=>
 og (gval v30 true false (some a0)) fun v32=>
 og (gval v30 true false (anil v32)) fun v33=>
 og (gval v30 true false (fldA 0 v33)) fun v34=>
 og (gval v30 true false (lod v34 σ)) fun v35=>
 og (gval v30 true false (ibin .eql v35 (iv 3))) fun v36=>
 og (gval v30 true false (some v36)) fun v37=>
 og (gval v37 false true (some a0)) fun v38=>
 og (gval v37 false true (anil v38)) fun v39=>
 og (gval v37 false true (fldA 3 v39)) fun v40=>
 og (gval v37 false true (lod v40 σ)) fun v41=>
 og (gval v37 false true (sbin .eql v41 (str ⟨#[]⟩))) fun v42=>
 og (gval v30 true false (pickV v37 (.val (.bool true)) v42)) fun v43=>
 og (pickV v30 v43 (.val (.bool false))) fun v44=>
 aret v44 σ R) (pn R))
def x66:Sx:=Q (A 0) (Q (F 0 0) (M 0 (D .eql (Z 0) (Y 1) (G 0 (.ret (Z 4)) (G 1 (A 0) (G 2 (F 0 0) (G 3 (L 0) (G 4 (B .eql (Z 0) (Y 2)) (Q (.pickV (Z 5) (.lit (.val (.bool true))) (Z 0)) (Q (A 10) (Q (F 0 0) (M 0 (.call 68 [(Z 0),(Y 1),(Y 4)] (H 0 (.ret (Z 4)) (H 1 (.ret (Z 0)) (.gog (Z 0) false true (.ret (Z 16)) (.gog (Z 1) false true (A 0) (.gog (Z 2) false true (F 2 0) (.gog (Z 3) false true (L 0) (.gog (Z 4) false true (B .eql (Z 0) (Y 0)) (H 7 (.pickV (Z 5) (.lit (.val (.bool true))) (Z 0)) (Q (.pickV (Z 8) (Z 0) (.lit (.val (.bool false)))) (H 0 (.ret (Z 23)) (H 1 (A 0) (H 2 (F 0 0) (H 3 (L 0) (H 4 (B .eql (Z 0) (Y 3)) (H 5 (.ret (Z 0)) (.gog (Z 0) false true (.ret (Z 29)) (.gog (Z 1) false true (A 0) (.gog (Z 2) false true (F 3 0) (.gog (Z 3) false true (L 0) (.gog (Z 4) false true (.sbin .eql (Z 0) (.lit (str ⟨#[]⟩))) (H 11 (.pickV (Z 5) (.lit (.val (.bool true))) (Z 0)) (Q (.pickV (Z 12) (Z 0) (.lit (.val (.bool false)))) (.ret (Z 0)))))))))))))))))))))))))))))))))))))
theorem x66_ok:okF TT Tryz.f66 1 x66=true:=by decide+kernel
theorem s_spec_l3Bare_ok (h:s_spec_l3Bare a0 σ R):acall TP fn_spec_l3Bare [a0] σ R:=
 acall_okF (ρ:=[a0]) TT_ok Tryz.func66 rfl x66 x66_ok rfl h
def s_spec_l1Num (a0:AV) (σ:AH) (R:AEnd→AH→Prop):Prop:=
 acall TP fn_spec_l1In [a0,(iv (-1000000000)),(iv 1000000000)] σ (onr (fun v4 σ=>
 aret v4 σ R) (pn R))
def x67:Sx:= .call 68 [(Z 0),(Y (-1000000000)),(Y 1000000000)] (.ret (Z 0))
theorem x67_ok:okF TT Tryz.f67 1 x67=true:=by decide+kernel
theorem s_spec_l1Num_ok (h:s_spec_l1Num a0 σ R):acall TP fn_spec_l1Num [a0] σ R:=
 acall_okF (ρ:=[a0]) TT_ok Tryz.func67 rfl x67 x67_ok rfl h
def s_spec_l1In (a0 a1 a2:AV) (σ:AH) (R:AEnd→AH→Prop):Prop:=
 og (ibin .geq a0 a1) fun v9=>
 og (gval v9 true false (some a0)) fun v11=>
 og (gval v9 true false (some a2)) fun v12=>
 og (gval v9 true false (ibin .leq v11 v12)) fun v13=>
 og (pickV v9 v13 (.val (.bool false))) fun v14=>
 aret v14 σ R
def x68:Sx:=D .geq (Z 2) (Z 1) (H 0 (.ret (Z 3)) (H 1 (.ret (Z 2)) (H 2 (B .leq (Z 1) (Z 0)) (Q (.pickV (Z 3) (Z 0) (.lit (.val (.bool false)))) (.ret (Z 0))))))
theorem x68_ok:okF TT Tryz.f68 3 x68=true:=by decide+kernel
theorem s_spec_l1In_ok (h:s_spec_l1In a0 a1 a2 σ R):acall TP fn_spec_l1In [a0,a1,a2] σ R:=
 acall_okF (ρ:=[a2,a1,a0]) TT_ok Tryz.func68 rfl x68 x68_ok rfl h
def s_spec_l2Sym (a0:AV) (σ:AH) (R:AEnd→AH→Prop):Prop:=
 lp (X:=Tup [0,3]) (fun R1 y1 σ=>
 og (lenStr y1.1) fun v6=>
 og (ibin .lss y1.2.1 v6) fun v7=>
 apick v7 (
 og (idxStr y1.1 y1.2.1) fun v12=>
 acall TP fn_spec_l2Byte [v12] σ (onr (fun v13 σ=>
 og (aun .not v13) fun v14=>
 apick v14 (
 aret (.val (.bool false)) σ R) (
 og (ibin .add y1.2.1 (iv 1)) fun v9=>
 R1 (y1.1,v9,()) σ)) (pn R))) (
 og (lenStr y1.1) fun v16=>
 acall TP fn_spec_l1In [v16,(iv 1),(iv 12)] σ (onr (fun v17 σ=>
 aret v17 σ R) (pn R)))) (a0,(iv 0),()) σ
def x69:Sx:= .lp [0,3] (Q (.lenStr (Z 0)) (D .lss (Z 2) (Z 0) (P 0 (Q (.idxStr (Z 2) (Z 3)) (.call 121 [(Z 0)] (Q (.aun .not (Z 0)) (P 0 (.ret (.lit (.val (.bool false)))) (D .add (Z 6) (Y 1) (.jump 0 [(Z 6),(Z 0)])))))) (Q (.lenStr (Z 2)) (.call 68 [(Z 0),(Y 1),(Y 12)] (.ret (Z 0))))))) [(Z 0),(Y 0)]
theorem x69_ok:okF TT Tryz.f69 1 x69=true:=by decide+kernel
theorem s_spec_l2Sym_ok (h:s_spec_l2Sym a0 σ R):acall TP fn_spec_l2Sym [a0] σ R:=
 acall_okF (ρ:=[a0]) TT_ok Tryz.func69 rfl x69 x69_ok rfl h
def s_spec_l3Line (a0 a1:AV) (σ:AH) (R:AEnd→AH→Prop):Prop:=
 og (ibin .sub a1 (iv 1)) fun v7=>
 lp (X:=Tup [0,1,5]) (fun R1 y1 σ=>
 og (ibin .geq y1.2.2.1 (iv 0)) fun v9=>
 apick v9 (
 og (idx 4 y1.1 y1.2.1 σ) fun v18=>
 og (fldA 1 v18) fun v19=>
 og (lod v19 σ) fun v20=>
 og (ibin .eql y1.2.2.1 v20) fun v21=>
 apick v21 (
 og (idx 4 y1.1 y1.2.2.1 σ) fun v24=>
 og (fldA 0 v24) fun v25=>
 og (lod v25 σ) fun v26=>
 og (ibin .eql v26 (iv 4)) fun v27=>
 aret v27 σ R) (
 og (idx 4 y1.1 y1.2.2.1 σ) fun v12=>
 og (fldA 1 v12) fun v13=>
 og (lod v13 σ) fun v14=>
 R1 (y1.1,y1.2.1,v14,()) σ)) (
 aret (.val (.bool false)) σ R)) (a0,a1,v7,()) σ
def x70:Sx:=D .sub (Z 0) (Y 1) (.lp [0,1,5] (D .geq (Z 2) (Y 0) (P 0 (J 4 1 2 (Q (F 1 0) (M 0 (D .eql (Z 6) (Z 0) (P 0 (J 4 5 7 (Q (F 0 0) (M 0 (D .eql (Z 0) (Y 4) (.ret (Z 0)))))) (J 4 5 7 (Q (F 1 0) (M 0 (.jump 0 [(Z 8),(Z 9),(Z 0)]))))))))) (.ret (.lit (.val (.bool false)))))) [(Z 2),(Z 1),(Z 0)])
theorem x70_ok:okF TT Tryz.f70 2 x70=true:=by decide+kernel
theorem s_spec_l3Line_ok (h:s_spec_l3Line a0 a1 σ R):acall TP fn_spec_l3Line [a0,a1] σ R:=
 acall_okF (ρ:=[a1,a0]) TT_ok Tryz.func70 rfl x70 x70_ok rfl h
def s_spec_l3Deep (a0 a1:AV) (σ:AH) (R:AEnd→AH→Prop):Prop:=
 lp (X:=Tup [0,1,5]) (fun R1 y1 σ=>
 og (ibin .geq y1.2.1 (iv 0)) fun v7=>
 og (gval v7 true false (some y1.2.2.1)) fun v9=>
 og (gval v7 true false (ibin .lss v9 (iv 100))) fun v10=>
 og (pickV v7 v10 (.val (.bool false))) fun v11=>
 apick v11 (
 og (ibin .add y1.2.2.1 (iv 1)) fun v13=>
 og (idx 4 y1.1 y1.2.1 σ) fun v16=>
 og (fldA 1 v16) fun v17=>
 og (lod v17 σ) fun v18=>
 R1 (y1.1,v18,v13,()) σ) (
 aret y1.2.2.1 σ R)) (a0,a1,(iv 0),()) σ
def x71:Sx:= .lp [0,1,5] (D .geq (Z 1) (Y 0) (H 0 (.ret (Z 3)) (H 1 (B .lss (Z 0) (Y 100)) (Q (.pickV (Z 2) (Z 0) (.lit (.val (.bool false)))) (P 0 (D .add (Z 6) (Y 1) (J 4 5 6 (Q (F 1 0) (M 0 (.jump 0 [(Z 8),(Z 0),(Z 3)]))))) (.ret (Z 6))))))) [(Z 1),(Z 0),(Y 0)]
theorem x71_ok:okF TT Tryz.f71 2 x71=true:=by decide+kernel
theorem s_spec_l3Deep_ok (h:s_spec_l3Deep a0 a1 σ R):acall TP fn_spec_l3Deep [a0,a1] σ R:=
 acall_okF (ρ:=[a1,a0]) TT_ok Tryz.func71 rfl x71 x71_ok rfl h
def s_spec_l4Put (a0 a1:AV) (σ:AH) (R:AEnd→AH→Prop):Prop:=
 abox a1 σ fun v3 σ=>
 frz v3 σ fun f3 σ=>
 og (anil a0) fun v7=>
 og (fldA 1 v7) fun v8=>
 og (lod v8 σ) fun v9=>
 og (lodA 6 f3 σ) fun v10=>
 og (bslR 6 [(iv 0),(iv 0),(iv 0),(iv 0),(str ⟨#[]⟩),nilS] 1 [(0,v10)]) fun v11=>
 app 6 v9 v11 σ fun v12 σ=>
 (True)∧
 og (anil a0) fun v13=>
 og (fldA 1 v13) fun v14=>
 sto 1 v14 v12 σ fun σ=>
 (True)∧
 og (anil a0) fun v16=>
 og (fldA 1 v16) fun v17=>
 og (lod v17 σ) fun v18=>
 og (lenS v18) fun v19=>
 og (ibin .sub v19 (iv 1)) fun v20=>
 aret v20 σ R
def x72:Sx:= .box (Z 0) (.frz 2 (Z 0) (.ord [0,1,2,3,4,5,6,7,8,9,10] [0,0,2,6,14,0,32,126,255,511,1023] (Q (A 3) (Q (F 1 0) (M 0 (Q (.lodA 6 (Z 3)) (Q (.bslR 6 [(iv 0),(iv 0),(iv 0),(iv 0),(str ⟨#[]⟩),nilS] 1 [(0,(Z 0))]) (.app 6 (Z 2) (Z 0) (.wat [] (Q (A 9) (Q (F 1 0) (.sto 1 (Z 0) (Z 2) (.wat [] (Q (A 11) (Q (F 1 0) (M 0 (O 0 (D .sub (Z 0) (Y 1) (.ret (Z 0))))))))))))))))))))
theorem x72_ok:okF TT Tryz.f72 2 x72=true:=by decide+kernel
theorem s_spec_l4Put_ok (h:s_spec_l4Put a0 a1 σ R):acall TP fn_spec_l4Put [a0,a1] σ R:=
 acall_okF (ρ:=[a1,a0]) TT_ok Tryz.func72 rfl x72 x72_ok rfl h
def s_spec_l3Sub (a0 a1:AV) (σ:AH) (R:AEnd→AH→Prop):Prop:=
 acall TP fn_spec_l3Deep [a0,a1] σ (onr (fun v11 σ=>
 bsl 4 [(iv 0),(iv 0),(iv 0),(str ⟨#[]⟩)] 0 [] σ fun v12 σ=>
 lp (X:=Tup [0,1,5,6,7]) (fun R1 y1 σ=>
 jn (X:=Tup [0,1,5,6,7,29]) (fun x2 σ=>
 apick x2.2.2.2.2.2.1 (
 og (idx 4 x2.1 x2.2.2.2.2.1 σ) fun v34=>
 og (lodA 4 v34 σ) fun v35=>
 new [(iv 0),(iv 0),(iv 0),(str ⟨#[]⟩)] σ fun v8 σ=>
 sto 4 v8 v35 σ fun σ=>
 og (fldA 1 v8) fun v36=>
 og (lod v36 σ) fun v37=>
 og (ibin .sub v37 x2.2.1) fun v39=>
 og (fldA 1 v8) fun v40=>
 sto 1 v40 v39 σ fun σ=>
 jn (X:=Tup [0,1,5,6,7,8]) (fun x3 σ=>
 frz x3.2.2.2.2.2.1 σ fun f8 σ=>
 og (lodA 4 f8 σ) fun v46=>
 bsl 4 [(iv 0),(iv 0),(iv 0),(str ⟨#[]⟩)] 1 [(0,v46)] σ fun v47 σ=>
 app 4 x3.2.2.2.1 v47 σ fun v48 σ=>
 og (ibin .add x3.2.2.2.2.1 (iv 1)) fun v31=>
 R1 (x3.1,x3.2.1,x3.2.2.1,v48,v31,()) σ) fun k3=>
 og (ibin .eql x2.2.2.2.2.1 x2.2.1) fun v43=>
 apick v43 (
 og (fldA 1 v8) fun v44=>
 sto 1 v44 (iv (-1)) σ fun σ=>
 k3 (x2.1,x2.2.1,x2.2.2.1,x2.2.2.2.1,x2.2.2.2.2.1,v8,()) σ) (
 k3 (x2.1,x2.2.1,x2.2.2.1,x2.2.2.2.1,x2.2.2.2.2.1,v8,()) σ)) (
 aret x2.2.2.2.1 σ R)) fun k2=>
 og (lenS y1.1) fun v16=>
 og (ibin .lss y1.2.2.2.2.1 v16) fun v17=>
 og (gval v17 true false (some y1.2.2.2.2.1)) fun v19=>
 og (gval v17 true false (some y1.2.1)) fun v20=>
 og (gval v17 true false (ibin .eql v19 v20)) fun v21=>
 og (gval v17 true false (some v21)) fun v22=>
 og (gval v22 false true (some y1.1)) fun v23=>
 og (gval v22 false true (some y1.2.2.2.2.1)) fun v24=>
 gpick v22 (
 og (gval v17 true false (some (.val (.bool true)))) fun v28=>
 og (pickV v17 v28 (.val (.bool false))) fun v29=>
 k2 (y1.1,y1.2.1,y1.2.2.1,y1.2.2.2.1,y1.2.2.2.2.1,v29,()) σ) (
 acall TP fn_spec_l3Deep [v23,v24] σ (onr (fun v25 σ=>
 og (ibin .gtr v25 y1.2.2.1) fun v27=>
 og (gval v17 true false (some v27)) fun v28=>
 og (pickV v17 v28 (.val (.bool false))) fun v29=>
 k2 (y1.1,y1.2.1,y1.2.2.1,y1.2.2.2.1,y1.2.2.2.2.1,v29,()) σ) (pn R))) (
 og (gval v17 true false (pickV (.tup []) (.val (.bool true)) (.tup []))) fun v28=>
 og (pickV v17 v28 (.val (.bool false))) fun v29=>
 k2 (y1.1,y1.2.1,y1.2.2.1,y1.2.2.2.1,y1.2.2.2.2.1,v29,()) σ)) (a0,a1,v11,v12,a1,()) σ) (pn R))
def x73:Sx:= .call 71 [(Z 1),(Z 0)] (.bsl 4 [(iv 0),(iv 0),(iv 0),(str ⟨#[]⟩)] 0 [] (.lp [0,1,5,6,7] (.jn 977 [0,1,5,6,7,29] (P 5 (J 4 0 4 (Q (.lodA 4 (Z 0)) (.new [(iv 0),(iv 0),(iv 0),(str ⟨#[]⟩)] (.sto 4 (Z 0) (Z 1) (Q (F 1 0) (M 0 (D .sub (Z 0) (Z 6) (Q (F 1 3) (.sto 1 (Z 0) (Z 1) (.jn 15655 [0,1,5,6,7,8] (.frz 0 (Z 5) (Q (.lodA 4 (Z 0)) (.bsl 4 [(iv 0),(iv 0),(iv 0),(str ⟨#[]⟩)] 1 [(0,(Z 0))] (.app 4 (Z 6) (Z 0) (D .add (Z 8) (Y 1) (.jump 0 [(Z 5),(Z 6),(Z 7),(Z 1),(Z 0)])))))) (D .eql (Z 11) (Z 8) (P 0 (Q (F 1 5) (.sto 1 (Z 0) (Y (-1)) (.jump 0 [(Z 9),(Z 10),(Z 11),(Z 12),(Z 13),(Z 6)]))) (.jump 0 [(Z 8),(Z 9),(Z 10),(Z 11),(Z 12),(Z 5)]))))))))))))) (.ret (Z 3))) (O 0 (D .lss (Z 5) (Z 0) (H 0 (.ret (Z 6)) (H 1 (.ret (Z 4)) (H 2 (B .eql (Z 1) (Z 0)) (H 3 (.ret (Z 0)) (.gog (Z 0) false true (.ret (Z 6)) (.gog (Z 1) false true (.ret (Z 11)) (.gpick (Z 2) (H 6 (.ret (.lit (.val (.bool true)))) (Q (.pickV (Z 7) (Z 0) (.lit (.val (.bool false)))) (.jump 0 [(Z 10),(Z 11),(Z 12),(Z 13),(Z 14),(Z 0)]))) (.call 71 [(Z 1),(Z 0)] (D .gtr (Z 0) (Z 11) (H 8 (.ret (Z 0)) (Q (.pickV (Z 9) (Z 0) (.lit (.val (.bool false)))) (.jump 0 [(Z 12),(Z 13),(Z 14),(Z 15),(Z 16),(Z 0)]))))) (H 6 (.pickV (.lit (.tup [])) (.lit (.val (.bool true))) (.lit (.tup []))) (Q (.pickV (Z 7) (Z 0) (.lit (.val (.bool false)))) (.jump 0 [(Z 10),(Z 11),(Z 12),(Z 13),(Z 14),(Z 0)]))))))))))))) [(Z 3),(Z 2),(Z 1),(Z 0),(Z 2)]))
theorem x73_ok:okF TT Tryz.f73 2 x73=true:=by decide+kernel
theorem s_spec_l3Sub_ok (h:s_spec_l3Sub a0 a1 σ R):acall TP fn_spec_l3Sub [a0,a1] σ R:=
 acall_okF (ρ:=[a1,a0]) TT_ok Tryz.func73 rfl x73 x73_ok rfl h
def s_spec_IsKeyword (a0:AV) (σ:AH) (R:AEnd→AH→Prop):Prop:=
 bsl 1 [(str ⟨#[]⟩)] 7 [(0,(.val (.string ⟨#[113,117,111,116,101]⟩))),(1,(.val (.string ⟨#[105,102]⟩))),(2,(.val (.string ⟨#[108,97,109,98,100,97]⟩))),(3,(.val (.string ⟨#[108,101,116]⟩))),(4,(.val (.string ⟨#[98,101,103,105,110]⟩))),(5,(.val (.string ⟨#[100,101,102,105,110,101]⟩))),(6,(.val (.string ⟨#[115,101,116,33]⟩)))] σ fun v5 σ=>
 frz v5 σ fun f5 σ=>
 lp (X:=Tup [0,3,4]) (fun R1 y1 σ=>
 og (lenS y1.2.1) fun v8=>
 og (ibin .lss y1.2.2.1 v8) fun v9=>
 apick v9 (
 og (idx 1 y1.2.1 y1.2.2.1 σ) fun v14=>
 og (lod v14 σ) fun v15=>
 og (sbin .eql v15 y1.1) fun v17=>
 apick v17 (
 aret (.val (.bool true)) σ R) (
 og (ibin .add y1.2.2.1 (iv 1)) fun v11=>
 R1 (y1.1,y1.2.1,v11,()) σ)) (
 aret (.val (.bool false)) σ R)) (a0,f5,(iv 0),()) σ
def x74:Sx:= .bsl 1 [(str ⟨#[]⟩)] 7 [(0,(.lit (.val (.string ⟨#[113,117,111,116,101]⟩)))),(1,(.lit (.val (.string ⟨#[105,102]⟩)))),(2,(.lit (.val (.string ⟨#[108,97,109,98,100,97]⟩)))),(3,(.lit (.val (.string ⟨#[108,101,116]⟩)))),(4,(.lit (.val (.string ⟨#[98,101,103,105,110]⟩)))),(5,(.lit (.val (.string ⟨#[100,101,102,105,110,101]⟩)))),(6,(.lit (.val (.string ⟨#[115,101,116,33]⟩))))] (.frz 1 (Z 0) (.lp [0,3,4] (O 1 (D .lss (Z 3) (Z 0) (P 0 (J 1 3 4 (M 0 (Q (.sbin .eql (Z 0) (Z 4)) (P 0 (.ret (.lit (.val (.bool true)))) (D .add (Z 7) (Y 1) (.jump 0 [(Z 6),(Z 7),(Z 0)])))))) (.ret (.lit (.val (.bool false))))))) [(Z 2),(Z 0),(Y 0)]))
theorem x74_ok:okF TT Tryz.f74 1 x74=true:=by decide+kernel
theorem s_spec_IsKeyword_ok (h:s_spec_IsKeyword a0 σ R):acall TP fn_spec_IsKeyword [a0] σ R:=
 acall_okF (ρ:=[a0]) TT_ok Tryz.func74 rfl x74 x74_ok rfl h
def s_spec_l4Find (a0 a1 a2:AV) (σ:AH) (R:AEnd→AH→Prop):Prop:=
 lp (X:=Tup [0,1,2,9]) (fun R1 y1 σ=>
 og (ibin .geq y1.2.1 (iv 0)) fun v13=>
 apick v13 (
 og (anil y1.1) fun v15=>
 og (fldA 2 v15) fun v16=>
 og (lod v16 σ) fun v17=>
 og (idx 2 v17 y1.2.1 σ) fun v19=>
 og (fldA 0 v19) fun v20=>
 og (lod v20 σ) fun v21=>
 lp (X:=Tup [0,1,2,9,10,11]) (fun R2 y2 σ=>
 og (lenS y2.2.2.2.2.1) fun v24=>
 og (ibin .lss y2.2.2.2.2.2.1 v24) fun v25=>
 apick v25 (
 og (idx 1 y2.2.2.2.2.1 y2.2.2.2.2.2.1 σ) fun v30=>
 og (lod v30 σ) fun v31=>
 og (sbin .eql v31 y2.2.2.1) fun v33=>
 apick v33 (
 aret (.tup [y2.2.2.2.1,y2.2.2.2.2.2.1,(.val (.bool true))]) σ R) (
 og (ibin .add y2.2.2.2.2.2.1 (iv 1)) fun v27=>
 R2 (y2.1,y2.2.1,y2.2.2.1,y2.2.2.2.1,y2.2.2.2.2.1,v27,()) σ)) (
 og (ibin .add y2.2.2.2.1 (iv 1)) fun v37=>
 og (anil y2.1) fun v39=>
 og (fldA 2 v39) fun v40=>
 og (lod v40 σ) fun v41=>
 og (idx 2 v41 y2.2.1 σ) fun v43=>
 og (fldA 1 v43) fun v44=>
 og (lod v44 σ) fun v45=>
 R1 (y2.1,v45,y2.2.2.1,v37,()) σ)) (y1.1,y1.2.1,y1.2.2.1,y1.2.2.2.1,v21,(iv 0),()) σ) (
 aret (.tup [(iv 0),(iv 0),(.val (.bool false))]) σ R)) (a0,a1,a2,(iv 0),()) σ
def x75:Sx:= .lp [0,1,2,9] (D .geq (Z 1) (Y 0) (P 0 (Q (A 1) (Q (F 2 0) (M 0 (J 2 0 5 (Q (F 0 0) (M 0 (.lp [0,1,2,9,10,11] (O 4 (D .lss (Z 6) (Z 0) (P 0 (J 1 6 7 (M 0 (Q (.sbin .eql (Z 0) (Z 6)) (P 0 (.rets [(Z 8),(Z 10),(.lit (.val (.bool true)))]) (D .add (Z 10) (Y 1) (.jump 0 [(Z 6),(Z 7),(Z 8),(Z 9),(Z 10),(Z 0)])))))) (D .add (Z 5) (Y 1) (Q (A 3) (Q (F 2 0) (M 0 (J 2 0 7 (Q (F 1 0) (M 0 (.jump 1 [(Z 9),(Z 0),(Z 11),(Z 6)]))))))))))) [(Z 7),(Z 8),(Z 9),(Z 10),(Z 0),(Y 0)]))))))) (.rets [(Y 0),(Y 0),(.lit (.val (.bool false)))]))) [(Z 2),(Z 1),(Z 0),(Y 0)]
theorem x75_ok:okF TT Tryz.f75 3 x75=true:=by decide+kernel
theorem s_spec_l4Find_ok (h:s_spec_l4Find a0 a1 a2 σ R):acall TP fn_spec_l4Find [a0,a1,a2] σ R:=
 acall_okF (ρ:=[a2,a1,a0]) TT_ok Tryz.func75 rfl x75 x75_ok rfl h
def s_spec_l3Parts (a0 a1:AV) (σ:AH) (R:AEnd→AH→Prop):Prop:=
 bsl 1 [(iv 0)] 0 [] σ fun v7 σ=>
 lp (X:=Tup [0,1,5,6]) (fun R1 y1 σ=>
 og (lenS y1.1) fun v10=>
 og (ibin .lss y1.2.2.2.1 v10) fun v11=>
 apick v11 (
 jn (X:=Tup [0,1,5,6]) (fun x2 σ=>
 og (ibin .add x2.2.2.2.1 (iv 1)) fun v13=>
 R1 (x2.1,x2.2.1,x2.2.2.1,v13,()) σ) fun k2=>
 og (idx 4 y1.1 y1.2.2.2.1 σ) fun v16=>
 og (fldA 1 v16) fun v17=>
 og (lod v17 σ) fun v18=>
 og (ibin .eql v18 y1.2.1) fun v20=>
 apick v20 (
 bsl 1 [(iv 0)] 1 [(0,y1.2.2.2.1)] σ fun v23 σ=>
 app 1 y1.2.2.1 v23 σ fun v24 σ=>
 k2 (y1.1,y1.2.1,v24,y1.2.2.2.1,()) σ) (
 k2 (y1.1,y1.2.1,y1.2.2.1,y1.2.2.2.1,()) σ)) (
 aret y1.2.2.1 σ R)) (a0,a1,v7,(iv 0),()) σ
def x76:Sx:= .bsl 1 [(iv 0)] 0 [] (.lp [0,1,5,6] (O 0 (D .lss (Z 4) (Z 0) (P 0 (.jn 467 [0,1,5,6] (D .add (Z 3) (Y 1) (.jump 0 [(Z 1),(Z 2),(Z 3),(Z 0)])) (J 4 2 5 (Q (F 1 0) (M 0 (D .eql (Z 0) (Z 6) (P 0 (.bsl 1 [(iv 0)] 1 [(0,(Z 9))] (.app 1 (Z 9) (Z 0) (.jump 0 [(Z 8),(Z 9),(Z 0),(Z 11)]))) (.jump 0 [(Z 6),(Z 7),(Z 8),(Z 9)]))))))) (.ret (Z 4))))) [(Z 2),(Z 1),(Z 0),(Y 0)])
theorem x76_ok:okF TT Tryz.f76 2 x76=true:=by decide+kernel
theorem s_spec_l3Parts_ok (h:s_spec_l3Parts a0 a1 σ R):acall TP fn_spec_l3Parts [a0,a1] σ R:=
 acall_okF (ρ:=[a1,a0]) TT_ok Tryz.func76 rfl x76 x76_ok rfl h
def s_spec_l4Form (a0 a1 a2 a3 a4:AV) (σ:AH) (R:AEnd→AH→Prop):Prop:=
 og (sbin .eql a1 (.val (.string ⟨#[113,117,111,116,101]⟩))) fun v13=>
 apick v13 (
 og (lenS a2) fun v15=>
 og (ibin .neq v15 (iv 2)) fun v16=>
 apick v16 (
 aret (iv 1) σ R) (
 og (anil a0) fun v20=>
 og (fldA 0 v20) fun v21=>
 og (lod v21 σ) fun v22=>
 og (idx 1 a2 (iv 1) σ) fun v24=>
 og (lod v24 σ) fun v25=>
 acall TP fn_spec_l3Sub [v22,v25] σ (onr (fun v26 σ=>
 (True)∧
 og (bld [(iv 0),(iv 0),(iv 0),(iv 0),(str ⟨#[]⟩),nilS] [(0,1),(1,1),(2,1),(3,1),(4,1),(5,1)] [(0,(iv 1)),(1,a3),(5,v26)]) fun v27=>
 acall TP fn_spec_l4Put [a0,v27] σ (onr (fun v28 σ=>
 (True)∧
 aret (iv 0) σ R) (pn R))) (pn R)))) (
 og (sbin .eql a1 (.val (.string ⟨#[105,102]⟩))) fun v30=>
 apick v30 (
 og (lenS a2) fun v32=>
 og (ibin .neq v32 (iv 4)) fun v33=>
 apick v33 (
 aret (iv 1) σ R) (
 og (slc 1 a2 (some (iv 1)) none none σ) fun v36=>
 og (bld [(iv 0),(iv 0),(iv 0),(iv 0),(str ⟨#[]⟩),nilS] [(0,1),(1,1),(2,1),(3,1),(4,1),(5,1)] [(0,(iv 4)),(1,a3)]) fun v39=>
 acall TP fn_spec_l4Put [a0,v39] σ (onr (fun v40 σ=>
 (slc 1 a2 (some (iv 1)) none none σ=some v36∧True)∧
 acall TP fn_spec_l4All [a0,v36,v40,a4] σ (onr (fun v42 σ=>
 (True)∧
 aret v42 σ R) (pn R))) (pn R)))) (
 og (sbin .eql a1 (.val (.string ⟨#[98,101,103,105,110]⟩))) fun v44=>
 apick v44 (
 og (lenS a2) fun v46=>
 og (ibin .lss v46 (iv 2)) fun v47=>
 apick v47 (
 aret (iv 1) σ R) (
 og (slc 1 a2 (some (iv 1)) none none σ) fun v50=>
 og (bld [(iv 0),(iv 0),(iv 0),(iv 0),(str ⟨#[]⟩),nilS] [(0,1),(1,1),(2,1),(3,1),(4,1),(5,1)] [(0,(iv 6)),(1,a3)]) fun v53=>
 acall TP fn_spec_l4Put [a0,v53] σ (onr (fun v54 σ=>
 (slc 1 a2 (some (iv 1)) none none σ=some v50∧True)∧
 acall TP fn_spec_l4All [a0,v50,v54,a4] σ (onr (fun v56 σ=>
 (True)∧
 aret v56 σ R) (pn R))) (pn R)))) (
 og (sbin .eql a1 (.val (.string ⟨#[108,97,109,98,100,97]⟩))) fun v58=>
 apick v58 (
 acall TP fn_spec_l4Lambda [a0,a2,a3,a4] σ (onr (fun v63 σ=>
 aret v63 σ R) (pn R))) (
 og (sbin .eql a1 (.val (.string ⟨#[108,101,116]⟩))) fun v65=>
 apick v65 (
 acall TP fn_spec_l4Let [a0,a2,a3,a4] σ (onr (fun v70 σ=>
 aret v70 σ R) (pn R))) (
 og (sbin .eql a1 (.val (.string ⟨#[100,101,102,105,110,101]⟩))) fun v72=>
 apick v72 (
 acall TP fn_spec_l4Assign [a0,a2,a3,a4,(iv 8)] σ (onr (fun v77 σ=>
 aret v77 σ R) (pn R))) (
 acall TP fn_spec_l4Assign [a0,a2,a3,a4,(iv 7)] σ (onr (fun v82 σ=>
 aret v82 σ R) (pn R))))))))
def x77:Sx:=Q (.sbin .eql (Z 3) (.lit (.val (.string ⟨#[113,117,111,116,101]⟩)))) (P 0 (O 3 (D .neq (Z 0) (Y 2) (P 0 (.ret (Y 1)) (.ord [0,1,2,3,4,5,6,7,8,9,10,11] [0,0,0,4,12,28,0,64,192,508,1022,2047] (Q (A 7) (Q (F 0 0) (M 0 (Q (.idx 1 (Z 8) (Y 1)) (M 0 (.call 73 [(Z 2),(Z 0)] (.wat [] (Q (.bld [(iv 0),(iv 0),(iv 0),(iv 0),(str ⟨#[]⟩),nilS] [(0,1),(1,1),(2,1),(3,1),(4,1),(5,1)] [(0,(Y 1)),(1,(Z 10)),(5,(Z 0))]) (.call 72 [(Z 14),(Z 0)] (.wat [] (.ret (Y 0)))))))))))))))) (Q (.sbin .eql (Z 4) (.lit (.val (.string ⟨#[105,102]⟩)))) (P 0 (O 4 (D .neq (Z 0) (Y 4) (P 0 (.ret (Y 1)) (.ord [0,1,2,3,4,5,7,6,8,9] [0,0,2,0,0,16,56,0,255,511] (Q (.slc 1 (Z 6) (some (Y 1)) none none) (Q (.bld [(iv 0),(iv 0),(iv 0),(iv 0),(str ⟨#[]⟩),nilS] [(0,1),(1,1),(2,1),(3,1),(4,1),(5,1)] [(0,(Y 4)),(1,(Z 6))]) (.call 72 [(Z 10),(Z 0)] (.wat [⟨none,(.slc 1 (Z 9) (some (Y 1)) none none),(Z 2)⟩] (.call 78 [(Z 11),(Z 2),(Z 0),(Z 7)] (.wat [] (.ret (Z 0)))))))))))) (Q (.sbin .eql (Z 5) (.lit (.val (.string ⟨#[98,101,103,105,110]⟩)))) (P 0 (O 5 (D .lss (Z 0) (Y 2) (P 0 (.ret (Y 1)) (.ord [0,1,2,3,4,5,7,6,8,9] [0,0,2,0,0,16,56,0,255,511] (Q (.slc 1 (Z 7) (some (Y 1)) none none) (Q (.bld [(iv 0),(iv 0),(iv 0),(iv 0),(str ⟨#[]⟩),nilS] [(0,1),(1,1),(2,1),(3,1),(4,1),(5,1)] [(0,(Y 6)),(1,(Z 7))]) (.call 72 [(Z 11),(Z 0)] (.wat [⟨none,(.slc 1 (Z 10) (some (Y 1)) none none),(Z 2)⟩] (.call 78 [(Z 12),(Z 2),(Z 0),(Z 8)] (.wat [] (.ret (Z 0)))))))))))) (Q (.sbin .eql (Z 6) (.lit (.val (.string ⟨#[108,97,109,98,100,97]⟩)))) (P 0 (.call 122 [(Z 8),(Z 6),(Z 5),(Z 4)] (.ret (Z 0))) (Q (.sbin .eql (Z 7) (.lit (.val (.string ⟨#[108,101,116]⟩)))) (P 0 (.call 123 [(Z 9),(Z 7),(Z 6),(Z 5)] (.ret (Z 0))) (Q (.sbin .eql (Z 8) (.lit (.val (.string ⟨#[100,101,102,105,110,101]⟩)))) (P 0 (.call 124 [(Z 10),(Z 8),(Z 7),(Z 6),(Y 8)] (.ret (Z 0))) (.call 124 [(Z 10),(Z 8),(Z 7),(Z 6),(Y 7)] (.ret (Z 0))))))))))))))
theorem x77_ok:okF TT Tryz.f77 5 x77=true:=by decide+kernel
theorem s_spec_l4Form_ok (h:s_spec_l4Form a0 a1 a2 a3 a4 σ R):acall TP fn_spec_l4Form [a0,a1,a2,a3,a4] σ R:=
 acall_okF (ρ:=[a4,a3,a2,a1,a0]) TT_ok Tryz.func77 rfl x77 x77_ok rfl h
def s_spec_l4All (a0 a1 a2 a3:AV) (σ:AH) (R:AEnd→AH→Prop):Prop:=
 lp (X:=Tup [0,1,2,3,9]) (fun R1 y1 σ=>
 og (lenS y1.2.1) fun v13=>
 og (ibin .lss y1.2.2.2.2.1 v13) fun v14=>
 apick v14 (
 og (idx 1 y1.2.1 y1.2.2.2.2.1 σ) fun v20=>
 og (lod v20 σ) fun v21=>
 acall TP fn_spec_l4Expand [y1.1,v21,y1.2.2.1,y1.2.2.2.1] σ (onr (fun v24 σ=>
 og (ibin .neq v24 (iv 0)) fun v26=>
 apick v26 (
 aret v24 σ R) (
 og (ibin .add y1.2.2.2.2.1 (iv 1)) fun v16=>
 R1 (y1.1,y1.2.1,y1.2.2.1,y1.2.2.2.1,v16,()) σ)) (pn R))) (
 aret (iv 0) σ R)) (a0,a1,a2,a3,(iv 0),()) σ
def x78:Sx:= .lp [0,1,2,3,9] (O 1 (D .lss (Z 5) (Z 0) (P 0 (J 1 3 6 (M 0 (.call 39 [(Z 4),(Z 0),(Z 6),(Z 7)] (D .neq (Z 0) (Y 0) (P 0 (.ret (Z 1)) (D .add (Z 10) (Y 1) (.jump 0 [(Z 7),(Z 8),(Z 9),(Z 10),(Z 0)]))))))) (.ret (Y 0))))) [(Z 3),(Z 2),(Z 1),(Z 0),(Y 0)]
theorem x78_ok:okF TT Tryz.f78 4 x78=true:=by decide+kernel
theorem s_spec_l4All_ok (h:s_spec_l4All a0 a1 a2 a3 σ R):acall TP fn_spec_l4All [a0,a1,a2,a3] σ R:=
 acall_okF (ρ:=[a3,a2,a1,a0]) TT_ok Tryz.func78 rfl x78 x78_ok rfl h
def s_impl_wordToken (a0:AV) (σ:AH) (R:AEnd→AH→Prop):Prop:=
 new [(iv 0),(iv 0),(str ⟨#[]⟩)] σ fun v2 σ=>
 og (sbin .eql a0 (.val (.string ⟨#[35,116]⟩))) fun v7=>
 apick v7 (
 og (bld [(iv 0),(iv 0),(str ⟨#[]⟩)] [(0,1),(1,1),(2,1)] [(0,(iv 5)),(1,(iv 1))]) fun v8=>
 sto 3 v2 v8 σ fun σ=>
 og (lodA 3 v2 σ) fun r2=>
 aret (.tup [r2,(.val (.bool true))]) σ R) (
 og (sbin .eql a0 (.val (.string ⟨#[35,102]⟩))) fun v10=>
 apick v10 (
 og (bld [(iv 0),(iv 0),(str ⟨#[]⟩)] [(0,1),(1,1),(2,1)] [(0,(iv 5))]) fun v11=>
 sto 3 v2 v11 σ fun σ=>
 og (lodA 3 v2 σ) fun r2=>
 aret (.tup [r2,(.val (.bool true))]) σ R) (
 acall TP fn_impl_ParseNum [a0] σ (onr (fun v13 σ=>
 new [(iv 0),(iv 0)] σ fun v4 σ=>
 sto 2 v4 v13 σ fun σ=>
 frz v4 σ fun f4 σ=>
 og (fldA 0 f4) fun v14=>
 og (lod v14 σ) fun v15=>
 og (ibin .eql v15 (iv 0)) fun v16=>
 apick v16 (
 og (fldA 1 f4) fun v17=>
 og (lod v17 σ) fun v18=>
 og (bld [(iv 0),(iv 0),(str ⟨#[]⟩)] [(0,1),(1,1),(2,1)] [(0,(iv 4)),(1,v18)]) fun v19=>
 sto 3 v2 v19 σ fun σ=>
 og (lodA 3 v2 σ) fun r2=>
 aret (.tup [r2,(.val (.bool true))]) σ R) (
 og (bld [(iv 0),(iv 0),(str ⟨#[]⟩)] [(0,1),(1,1),(2,1)] [(0,(iv 6)),(2,a0)]) fun v21=>
 acall TP fn_impl_SymFault [a0] σ (onr (fun v23 σ=>
 og (ibin .eql v23 (iv 0)) fun v24=>
 sto 3 v2 v21 σ fun σ=>
 og (lodA 3 v2 σ) fun r2=>
 aret (.tup [r2,v24]) σ R) (pn R)))) (pn R))))
def x87:Sx:= .new [(iv 0),(iv 0),(str ⟨#[]⟩)] (Q (.sbin .eql (Z 1) (.lit (.val (.string ⟨#[35,116]⟩)))) (P 0 (Q (.bld [(iv 0),(iv 0),(str ⟨#[]⟩)] [(0,1),(1,1),(2,1)] [(0,(Y 5)),(1,(Y 1))]) (.sto 3 (Z 2) (Z 0) (Q (.lodA 3 (Z 2)) (.rets [(Z 0),(.lit (.val (.bool true)))])))) (Q (.sbin .eql (Z 2) (.lit (.val (.string ⟨#[35,102]⟩)))) (P 0 (Q (.bld [(iv 0),(iv 0),(str ⟨#[]⟩)] [(0,1),(1,1),(2,1)] [(0,(Y 5))]) (.sto 3 (Z 3) (Z 0) (Q (.lodA 3 (Z 3)) (.rets [(Z 0),(.lit (.val (.bool true)))])))) (.call 132 [(Z 3)] (.new [(iv 0),(iv 0)] (.sto 2 (Z 0) (Z 1) (.frz 5 (Z 0) (Q (F 0 0) (M 0 (D .eql (Z 0) (Y 0) (P 0 (Q (F 1 3) (M 0 (Q (.bld [(iv 0),(iv 0),(str ⟨#[]⟩)] [(0,1),(1,1),(2,1)] [(0,(Y 4)),(1,(Z 0))]) (.sto 3 (Z 11) (Z 0) (Q (.lodA 3 (Z 11)) (.rets [(Z 0),(.lit (.val (.bool true)))])))))) (Q (.bld [(iv 0),(iv 0),(str ⟨#[]⟩)] [(0,1),(1,1),(2,1)] [(0,(Y 6)),(2,(Z 9))]) (.call 133 [(Z 10)] (D .eql (Z 0) (Y 0) (.sto 3 (Z 11) (Z 2) (Q (.lodA 3 (Z 11)) (.rets [(Z 0),(Z 1)]))))))))))))))))))
theorem x87_ok:okF TT Tryz.f87 1 x87=true:=by decide+kernel
theorem s_impl_wordToken_ok (h:s_impl_wordToken a0 σ R):acall TP fn_impl_wordToken [a0] σ R:=
 acall_okF (ρ:=[a0]) TT_ok Tryz.func87 rfl x87 x87_ok rfl h
def s_impl_dataReader_add (a0 a1 a2:AV) (σ:AH) (R:AEnd→AH→Prop):Prop:=
 abox a1 σ fun v4 σ=>
 og (anil a0) fun v8=>
 og (fldA 0 v8) fun v9=>
 og (lod v9 σ) fun v10=>
 og (lenS v10) fun v11=>
 og (ibin .add v11 (iv 1)) fun v12=>
 og (ibin .add v12 a2) fun v14=>
 og (ibin .gtr v14 (iv 80)) fun v15=>
 og (gval v15 false false (some a0)) fun v17=>
 og (gval v15 false false (anil v17)) fun v18=>
 og (gval v15 false false (fldA 1 v18)) fun v19=>
 og (gval v15 false false (lod v19 σ)) fun v20=>
 og (gval v15 false false (lenS v20)) fun v21=>
 og (gval v15 false false (ibin .add v21 (iv 1))) fun v22=>
 og (gval v15 false false (some a2)) fun v23=>
 og (gval v15 false false (ibin .add v22 v23)) fun v24=>
 og (gval v15 false false (ibin .gtr v24 (iv 12))) fun v25=>
 og (pickV v15 (.val (.bool true)) v25) fun v26=>
 apick v26 (
 aret (.val (.bool false)) σ R) (
 acall TP fn_impl_dataReader_top [a0] σ (onr (fun v29 σ=>
 og (aext v29 0) fun v30=>
 og (aext v29 1) fun v31=>
 og (fldA 1 v4) fun v32=>
 sto 1 v32 v30 σ fun σ=>
 frz v4 σ fun f4 σ=>
 og (anil a0) fun v35=>
 og (fldA 0 v35) fun v36=>
 og (lod v36 σ) fun v37=>
 og (lodA 4 f4 σ) fun v38=>
 og (bslR 4 [(iv 0),(iv 0),(iv 0),(str ⟨#[]⟩)] 1 [(0,v38)]) fun v39=>
 app 4 v37 v39 σ fun v40 σ=>
 (True)∧
 og (anil a0) fun v41=>
 og (fldA 0 v41) fun v42=>
 sto 1 v42 v40 σ fun σ=>
 (True)∧
 aret (.val (.bool true)) σ R) (pn R)))
def x88:Sx:= .box (Z 1) (Q (A 3) (Q (F 0 0) (M 0 (O 0 (D .add (Z 0) (Y 1) (D .add (Z 0) (Z 6) (D .gtr (Z 0) (Y 80) (G 0 (.ret (Z 10)) (G 1 (A 0) (G 2 (F 1 0) (G 3 (L 0) (G 4 (N 0) (G 5 (B .add (Z 0) (Y 1)) (G 6 (.ret (Z 14)) (G 7 (B .add (Z 1) (Z 0)) (G 8 (B .gtr (Z 0) (Y 12)) (Q (.pickV (Z 9) (.lit (.val (.bool true))) (Z 0)) (P 0 (.ret (.lit (.val (.bool false)))) (.call 89 [(Z 20)] (Q (.aext (Z 0) 0) (Q (.aext (Z 1) 1) (Q (F 1 20) (.sto 1 (Z 0) (Z 2) (.frz 3 (Z 21) (.ord [0,1,2,3,4,5,6,7,8,9,10] [0,0,2,6,14,0,32,126,255,511,1023] (Q (A 25) (Q (F 0 0) (M 0 (Q (.lodA 4 (Z 3)) (Q (.bslR 4 [(iv 0),(iv 0),(iv 0),(str ⟨#[]⟩)] 1 [(0,(Z 0))]) (.app 4 (Z 2) (Z 0) (.wat [] (Q (A 31) (Q (F 0 0) (.sto 1 (Z 0) (Z 2) (.wat [] (.ret (.lit (.val (.bool true))))))))))))))))))))))))))))))))))))))))
theorem x88_ok:okF TT Tryz.f88 3 x88=true:=by decide+kernel
theorem s_impl_dataReader_add_ok (h:s_impl_dataReader_add a0 a1 a2 σ R):acall TP fn_impl_dataReader_add [a0,a1,a2] σ R:=
 acall_okF (ρ:=[a2,a1,a0]) TT_ok Tryz.func88 rfl x88 x88_ok rfl h
def s_impl_dataReader_top (a0:AV) (σ:AH) (R:AEnd→AH→Prop):Prop:=
 og (anil a0) fun v6=>
 og (fldA 1 v6) fun v7=>
 og (lod v7 σ) fun v8=>
 og (lenS v8) fun v9=>
 og (ibin .eql v9 (iv 0)) fun v10=>
 apick v10 (
 aret (.tup [(iv (-1)),(.val (.bool false))]) σ R) (
 og (anil a0) fun v12=>
 og (fldA 1 v12) fun v13=>
 og (lod v13 σ) fun v14=>
 og (anil a0) fun v16=>
 og (fldA 1 v16) fun v17=>
 og (lod v17 σ) fun v18=>
 og (lenS v18) fun v19=>
 og (ibin .sub v19 (iv 1)) fun v20=>
 og (idx 1 v14 v20 σ) fun v21=>
 og (lod v21 σ) fun v22=>
 og (ibin .lss v22 (iv 0)) fun v24=>
 apick v24 (
 og (ibin .sub (iv (-1)) v22) fun v26=>
 aret (.tup [v26,(.val (.bool true))]) σ R) (
 aret (.tup [v22,(.val (.bool false))]) σ R))
def x89:Sx:=Q (A 0) (Q (F 1 0) (M 0 (O 0 (D .eql (Z 0) (Y 0) (P 0 (.rets [(Y (-1)),(.lit (.val (.bool false)))]) (.ord [0,1,2,3,4,5,6,7,8,9,10,11,12] [0,1,3,7,0,16,48,112,240,496,1023,2047,4095] (Q (A 5) (Q (F 1 0) (M 0 (Q (A 8) (Q (F 1 0) (M 0 (O 0 (D .sub (Z 0) (Y 1) (J 1 5 0 (M 0 (D .lss (Z 0) (Y 0) (P 0 (D .sub (Y (-1)) (Z 1) (.rets [(Z 0),(.lit (.val (.bool true)))])) (.rets [(Z 1),(.lit (.val (.bool false)))])))))))))))))))))))
theorem x89_ok:okF TT Tryz.f89 1 x89=true:=by decide+kernel
theorem s_impl_dataReader_top_ok (h:s_impl_dataReader_top a0 σ R):acall TP fn_impl_dataReader_top [a0] σ R:=
 acall_okF (ρ:=[a0]) TT_ok Tryz.func89 rfl x89 x89_ok rfl h
def s_impl_dataReader_whole (a0:AV) (σ:AH) (R:AEnd→AH→Prop):Prop:=
 lp (X:=Tup [0]) (fun R1 y1 σ=>
 og (anil y1.1) fun v3=>
 og (fldA 1 v3) fun v4=>
 og (lod v4 σ) fun v5=>
 og (lenS v5) fun v6=>
 og (ibin .gtr v6 (iv 0)) fun v7=>
 og (gval v7 true false (some y1.1)) fun v9=>
 og (gval v7 true false (anil v9)) fun v10=>
 og (gval v7 true false (fldA 1 v10)) fun v11=>
 og (gval v7 true false (lod v11 σ)) fun v12=>
 og (gval v7 true false (some y1.1)) fun v13=>
 og (gval v7 true false (anil v13)) fun v14=>
 og (gval v7 true false (fldA 1 v14)) fun v15=>
 og (gval v7 true false (lod v15 σ)) fun v16=>
 og (gval v7 true false (lenS v16)) fun v17=>
 og (gval v7 true false (ibin .sub v17 (iv 1))) fun v18=>
 og (gval v7 true false (idx 1 v12 v18 σ)) fun v19=>
 og (gval v7 true false (lod v19 σ)) fun v20=>
 og (gval v7 true false (ibin .lss v20 (iv 0))) fun v21=>
 og (pickV v7 v21 (.val (.bool false))) fun v22=>
 apick v22 (
 og (anil y1.1) fun v25=>
 og (fldA 1 v25) fun v26=>
 og (lod v26 σ) fun v27=>
 og (anil y1.1) fun v29=>
 og (fldA 1 v29) fun v30=>
 og (lod v30 σ) fun v31=>
 og (lenS v31) fun v32=>
 og (ibin .sub v32 (iv 1)) fun v33=>
 og (slc 1 v27 none (some v33) none σ) fun v34=>
 og (anil y1.1) fun v35=>
 og (fldA 1 v35) fun v36=>
 sto 1 v36 v34 σ fun σ=>
 (True)∧
 R1 (y1.1,()) σ) (
 aret (.tup []) σ R)) (a0,()) σ
def x90:Sx:= .lp [0] (.ord [0,1,2,3,4,5,6,7,8,9,10,11,12,13,14,15,16,17,18,19,20] [0,1,3,7,15,31,63,127,255,511,1023,127,2175,6271,14463,30847,63615,131071,262143,524287,1048575] (Q (A 0) (Q (F 1 0) (M 0 (O 0 (D .gtr (Z 0) (Y 0) (H 0 (.ret (Z 5)) (H 1 (A 0) (H 2 (F 1 0) (H 3 (L 0) (H 4 (.ret (Z 9)) (H 5 (A 0) (H 6 (F 1 0) (H 7 (L 0) (H 8 (N 0) (H 9 (B .sub (Z 0) (Y 1)) (H 10 (I 1 6 0) (H 11 (L 0) (H 12 (B .lss (Z 0) (Y 0)) (Q (.pickV (Z 13) (Z 0) (.lit (.val (.bool false)))) (P 0 (.ord [0,1,2,3,4,5,6,7,8,9,10,11,12,13,14] [0,0,2,6,14,0,32,96,224,480,992,2046,4095,8191,16383] (Q (A 19) (Q (F 1 0) (M 0 (Q (A 22) (Q (F 1 0) (M 0 (O 0 (D .sub (Z 0) (Y 1) (Q (.slc 1 (Z 5) none (some (Z 0)) none) (Q (A 28) (Q (F 1 0) (.sto 1 (Z 0) (Z 2) (.wat [] (.jump 0 [(Z 30)]))))))))))))))) (.rets [])))))))))))))))))))))) [(Z 0)]
theorem x90_ok:okF TT Tryz.f90 1 x90=true:=by decide+kernel
theorem s_impl_dataReader_whole_ok (h:s_impl_dataReader_whole a0 σ R):acall TP fn_impl_dataReader_whole [a0] σ R:=
 acall_okF (ρ:=[a0]) TT_ok Tryz.func90 rfl x90 x90_ok rfl h
def s_impl_datumFault (a0 a1:AV) (σ:AH) (R:AEnd→AH→Prop):Prop:=
 abox a0 σ fun v2 σ=>
 frz v2 σ fun f2 σ=>
 og (lod f2 σ) fun v7=>
 og (idx 4 v7 a1 σ) fun v9=>
 og (lodA 4 v9 σ) fun v10=>
 new [(iv 0),(iv 0),(iv 0),(str ⟨#[]⟩)] σ fun v5 σ=>
 sto 4 v5 v10 σ fun σ=>
 frz v5 σ fun f5 σ=>
 og (fldA 0 f5) fun v12=>
 og (lod v12 σ) fun v13=>
 acall TP fn_impl_in [v13,(iv 1),(iv 4)] σ (onr (fun v14 σ=>
 og (aun .not v14) fun v15=>
 og (gval v15 false false (fldA 2 f5)) fun v17=>
 og (gval v15 false false (lod v17 σ)) fun v18=>
 og (gval v15 false false (ibin .neq v18 (iv 0))) fun v19=>
 og (gval v15 false false (some v19)) fun v20=>
 og (gval v20 true true (fldA 0 f5)) fun v21=>
 og (gval v20 true true (lod v21 σ)) fun v22=>
 og (gval v20 true true (ibin .neq v22 (iv 1))) fun v23=>
 og (gval v15 false false (pickV v20 v23 (.val (.bool false)))) fun v24=>
 og (gval v15 false false (some v24)) fun v25=>
 og (gval v25 true true (fldA 0 f5)) fun v26=>
 og (gval v25 true true (lod v26 σ)) fun v27=>
 og (gval v25 true true (ibin .neq v27 (iv 2))) fun v28=>
 og (gval v15 false false (pickV v25 v28 (.val (.bool false)))) fun v29=>
 og (pickV v15 (.val (.bool true)) v29) fun v30=>
 og (gval v30 false false (fldA 3 f5)) fun v32=>
 og (gval v30 false false (lod v32 σ)) fun v33=>
 og (gval v30 false false (sbin .neq v33 (str ⟨#[]⟩))) fun v34=>
 og (gval v30 false false (some v34)) fun v35=>
 og (gval v35 true true (fldA 0 f5)) fun v36=>
 og (gval v35 true true (lod v36 σ)) fun v37=>
 og (gval v35 true true (ibin .neq v37 (iv 3))) fun v38=>
 og (gval v30 false false (pickV v35 v38 (.val (.bool false)))) fun v39=>
 og (pickV v30 (.val (.bool true)) v39) fun v40=>
 apick v40 (
 aret (iv 1) σ R) (
 og (fldA 0 f5) fun v41=>
 og (lod v41 σ) fun v42=>
 og (fldA 2 f5) fun v43=>
 og (lod v43 σ) fun v44=>
 og (fldA 3 f5) fun v45=>
 og (lod v45 σ) fun v46=>
 acall TP fn_impl_kindFault [v42,(iv 1),(iv 3),(iv 2),v44,v46] σ (onr (fun v47 σ=>
 og (ibin .neq v47 (iv 0)) fun v49=>
 apick v49 (
 aret v47 σ R) (
 og (ibin .eql a1 (iv 0)) fun v52=>
 apick v52 (
 og (fldA 1 f5) fun v53=>
 og (lod v53 σ) fun v54=>
 og (ibin .neq v54 (iv (-1))) fun v55=>
 apick v55 (
 aret (iv 3) σ R) (
 aret (iv 0) σ R)) (
 og (fldA 1 f5) fun v57=>
 og (lod v57 σ) fun v58=>
 og (ibin .sub a1 (iv 1)) fun v60=>
 acall TP fn_impl_in [v58,(iv 0),v60] σ (onr (fun v61 σ=>
 og (aun .not v61) fun v62=>
 apick v62 (
 aret (iv 3) σ R) (
 jn (X:=Tup [1,2,63]) (fun x1 σ=>
 apick x1.2.2.1 (
 aret (iv 1) σ R) (
 og (lod x1.2.1 σ) fun v81=>
 acall TP fn_impl_deep [v81,x1.1] σ (onr (fun v83 σ=>
 og (ibin .gtr v83 (iv 12)) fun v84=>
 apick v84 (
 aret (iv 2) σ R) (
 aret (iv 0) σ R)) (pn R)))) fun k1=>
 og (lod f2 σ) fun v64=>
 og (fldA 1 f5) fun v65=>
 og (lod v65 σ) fun v66=>
 og (idx 4 v64 v66 σ) fun v67=>
 og (fldA 0 v67) fun v68=>
 og (lod v68 σ) fun v69=>
 og (ibin .neq v69 (iv 4)) fun v70=>
 gpick v70 (
 k1 (a1,f2,(.val (.bool true)),()) σ) (
 og (ibin .sub a1 (iv 1)) fun v74=>
 og (fldA 1 f5) fun v75=>
 og (lod v75 σ) fun v76=>
 acall TP fn_impl_isUp [(.clo (.func fn_impl_datumFault_1) [] [f2]),v74,v76] σ (onr (fun v77 σ=>
 og (aun .not v77) fun v78=>
 k1 (a1,f2,v78,()) σ) (pn R))) (False))) (pn R))))) (pn R)))) (pn R))
def x91:Sx:= .box (Z 1) (.frz 2 (Z 0) (M 0 (J 4 0 3 (Q (.lodA 4 (Z 0)) (.new [(iv 0),(iv 0),(iv 0),(str ⟨#[]⟩)] (.sto 4 (Z 0) (Z 1) (.frz 7 (Z 0) (Q (F 0 0) (M 0 (.call 49 [(Z 0),(Y 1),(Y 4)] (Q (.aun .not (Z 0)) (G 0 (F 2 4) (G 1 (L 0) (G 2 (B .neq (Z 0) (Y 0)) (G 3 (.ret (Z 0)) (.gog (Z 0) true true (F 0 8) (.gog (Z 1) true true (L 0) (.gog (Z 2) true true (B .neq (Z 0) (Y 1)) (G 7 (.pickV (Z 3) (Z 0) (.lit (.val (.bool false)))) (G 8 (.ret (Z 0)) (.gog (Z 0) true true (F 0 13) (.gog (Z 1) true true (L 0) (.gog (Z 2) true true (B .neq (Z 0) (Y 2)) (G 12 (.pickV (Z 3) (Z 0) (.lit (.val (.bool false)))) (Q (.pickV (Z 13) (.lit (.val (.bool true))) (Z 0)) (G 0 (F 3 18) (G 1 (L 0) (G 2 (.sbin .neq (Z 0) (.lit (str ⟨#[]⟩))) (G 3 (.ret (Z 0)) (.gog (Z 0) true true (F 0 22) (.gog (Z 1) true true (L 0) (.gog (Z 2) true true (B .neq (Z 0) (Y 3)) (G 7 (.pickV (Z 3) (Z 0) (.lit (.val (.bool false)))) (Q (.pickV (Z 8) (.lit (.val (.bool true))) (Z 0)) (P 0 (.ret (Y 1)) (Q (F 0 27) (M 0 (Q (F 2 29) (M 0 (Q (F 3 31) (M 0 (.call 134 [(Z 4),(Y 1),(Y 3),(Y 2),(Z 2),(Z 0)] (D .neq (Z 0) (Y 0) (P 0 (.ret (Z 1)) (D .eql (Z 42) (Y 0) (P 0 (Q (F 1 36) (M 0 (D .neq (Z 0) (Y (-1)) (P 0 (.ret (Y 3)) (.ret (Y 0)))))) (Q (F 1 36) (M 0 (D .sub (Z 45) (Y 1) (.call 49 [(Z 1),(Y 0),(Z 0)] (Q (.aun .not (Z 0)) (P 0 (.ret (Y 3)) (.jn 2023 [1,2,63] (P 2 (.ret (Y 1)) (M 1 (.call 136 [(Z 0),(Z 1)] (D .gtr (Z 0) (Y 12) (P 0 (.ret (Y 2)) (.ret (Y 0))))))) (M 46 (Q (F 1 42) (M 0 (J 4 2 0 (Q (F 0 0) (M 0 (D .neq (Z 0) (Y 4) (.gpick (Z 0) (.jump 0 [(Z 55),(Z 53),(.lit (.val (.bool true)))]) (.clo (.func 135) [] [(Z 53)] (D .sub (Z 56) (Y 1) (Q (F 1 50) (M 0 (.call 96 [(Z 3),(Z 2),(Z 0)] (Q (.aun .not (Z 0)) (.jump 0 [(Z 61),(Z 59),(Z 0)]))))))) (.no))))))))))))))))))))))))))))))))))))))))))))))))))))))))))))))
theorem x91_ok:okF TT Tryz.f91 2 x91=true:=by decide+kernel
theorem s_impl_datumFault_ok (h:s_impl_datumFault a0 a1 σ R):acall TP fn_impl_datumFault [a0,a1] σ R:=
 acall_okF (ρ:=[a1,a0]) TT_ok Tryz.func91 rfl x91 x91_ok rfl h
def x92:Sx:= .ord [0,1,2,3] [0,1,0,7] (Q (F 0 0) (M 0 (.sto 1 (Z 4) (.lit nilS) (.wat [⟨none,(.lod (Z 1)),(Z 0)⟩] (.sto 1 (Z 3) (Z 0) (.wat [] (.rets [])))))))
def s_impl_expander_form (a0 a1 a2 a3:AV) (σ:AH) (R:AEnd→AH→Prop):Prop:=
 og (anil a0) fun v15=>
 og (fldA 0 v15) fun v16=>
 og (lod v16 σ) fun v17=>
 og (idx 4 v17 a1 σ) fun v19=>
 og (lodA 4 v19 σ) fun v20=>
 new [(iv 0),(iv 0),(iv 0),(str ⟨#[]⟩)] σ fun v8 σ=>
 sto 4 v8 v20 σ fun σ=>
 frz v8 σ fun f8 σ=>
 og (fldA 0 f8) fun v21=>
 og (lod v21 σ) fun v22=>
 jn (X:=Tup [0,1,2,3,8,22,23]) (fun x1 σ=>
 apick x1.2.2.2.2.2.2.1 (
 og (anil x1.1) fun v29=>
 og (fldA 0 v29) fun v30=>
 og (lod v30 σ) fun v31=>
 acall TP fn_impl_sub [v31,x1.2.1] σ (onr (fun v33 σ=>
 og (bld [(iv 0),(iv 0),(iv 0),(iv 0),(str ⟨#[]⟩),nilS] [(0,1),(1,1),(2,1),(3,1),(4,1),(5,1)] [(0,(iv 1)),(1,x1.2.2.1),(5,v33)]) fun v34=>
 acall TP fn_impl_expander_put [x1.1,v34] σ (onr (fun v35 σ=>
 aret (.tup []) σ R) (pn R))) (pn R))) (
 og (ibin .eql x1.2.2.2.2.2.1 (iv 3)) fun v37=>
 apick v37 (
 og (fldA 3 x1.2.2.2.2.1) fun v38=>
 og (lod v38 σ) fun v39=>
 acall TP fn_impl_IsKeyword [v39] σ (onr (fun v40 σ=>
 acall TP fn_impl_failIf [v40,(iv 1)] σ (onr (fun v41 σ=>
 jn (X:=Tup []) (fun x2 σ=>
 aret (.tup []) σ R) fun k2=>
 og (fldA 3 x1.2.2.2.2.1) fun v44=>
 og (lod v44 σ) fun v45=>
 acall TP fn_impl_find [x1.2.2.2.1,v45] σ (onr (fun v46 σ=>
 og (aext v46 0) fun v47=>
 og (aext v46 1) fun v48=>
 og (aext v46 2) fun v49=>
 apick v49 (
 og (bld [(iv 0),(iv 0),(iv 0),(iv 0),(str ⟨#[]⟩),nilS] [(0,1),(1,1),(2,1),(3,1),(4,1),(5,1)] [(0,(iv 2)),(1,x1.2.2.1),(2,v47),(3,v48)]) fun v55=>
 acall TP fn_impl_expander_put [x1.1,v55] σ (onr (fun v56 σ=>
 k2 (()) σ) (pn R))) (
 og (fldA 3 x1.2.2.2.2.1) fun v59=>
 og (lod v59 σ) fun v60=>
 og (bld [(iv 0),(iv 0),(iv 0),(iv 0),(str ⟨#[]⟩),nilS] [(0,1),(1,1),(2,1),(3,1),(4,1),(5,1)] [(0,(iv 3)),(1,x1.2.2.1),(4,v60)]) fun v61=>
 acall TP fn_impl_expander_put [x1.1,v61] σ (onr (fun v62 σ=>
 k2 (()) σ) (pn R)))) (pn R))) (pn R))) (pn R))) (
 og (anil x1.1) fun v64=>
 og (fldA 0 v64) fun v65=>
 og (lod v65 σ) fun v66=>
 acall TP fn_impl_parts [v66,x1.2.1] σ (onr (fun v68 σ=>
 og (lenS v68) fun v70=>
 og (ibin .eql v70 (iv 0)) fun v71=>
 acall TP fn_impl_failIf [v71,(iv 1)] σ (onr (fun v72 σ=>
 og (anil x1.1) fun v74=>
 og (fldA 0 v74) fun v75=>
 og (lod v75 σ) fun v76=>
 og (idx 1 v68 (iv 0) σ) fun v78=>
 og (lod v78 σ) fun v79=>
 og (idx 4 v76 v79 σ) fun v80=>
 og (lodA 4 v80 σ) fun v81=>
 new [(iv 0),(iv 0),(iv 0),(str ⟨#[]⟩)] σ fun v13 σ=>
 (True)∧
 sto 4 v13 v81 σ fun σ=>
 (True)∧
 jn (X:=Tup [0,2,3,12,13,89]) (fun x3 σ=>
 apick x3.2.2.2.2.2.1 (
 og (fldA 3 x3.2.2.2.2.1) fun v91=>
 og (lod v91 σ) fun v92=>
 og (slc 1 x3.2.2.2.1 (some (iv 1)) none none σ) fun v94=>
 acall TP fn_impl_expander_keyword [x3.1,v92,v94,x3.2.1,x3.2.2.1] σ (onr (fun v97 σ=>
 (True)∧
 aret (.tup []) σ R) (pn R))) (
 og (lenS x3.2.2.2.1) fun v99=>
 og (ibin .gtr v99 (iv 4)) fun v100=>
 acall TP fn_impl_failIf [v100,(iv 2)] σ (onr (fun v101 σ=>
 og (bld [(iv 0),(iv 0),(iv 0),(iv 0),(str ⟨#[]⟩),nilS] [(0,1),(1,1),(2,1),(3,1),(4,1),(5,1)] [(0,(iv 9)),(1,x3.2.1)]) fun v105=>
 acall TP fn_impl_expander_put [x3.1,v105] σ (onr (fun v106 σ=>
 acall TP fn_impl_expander_all [x3.1,v106,x3.2.2.2.1,x3.2.2.1] σ (onr (fun v109 σ=>
 aret (.tup []) σ R) (pn R))) (pn R))) (pn R)))) fun k3=>
 frz v13 σ fun f13 σ=>
 og (fldA 0 f13) fun v82=>
 og (lod v82 σ) fun v83=>
 og (ibin .eql v83 (iv 3)) fun v84=>
 og (gval v84 true false (fldA 3 f13)) fun v86=>
 og (gval v84 true false (lod v86 σ)) fun v87=>
 gpick v84 (
 acall TP fn_impl_IsKeyword [v87] σ (onr (fun v88 σ=>
 k3 (x1.1,x1.2.2.1,x1.2.2.2.1,v68,f13,v88,()) σ) (pn R))) (
 k3 (x1.1,x1.2.2.1,x1.2.2.2.1,v68,f13,(.val (.bool false)),()) σ) (False)) (pn R))) (pn R))))) fun k1=>
 og (ibin .eql v22 (iv 1)) fun v24=>
 apick v24 (
 k1 (a0,a1,a2,a3,f8,v22,v24,()) σ) (
 og (ibin .eql v22 (iv 2)) fun v25=>
 k1 (a0,a1,a2,a3,f8,v22,v25,()) σ)
def x93:Sx:=Q (A 3) (Q (F 0 0) (M 0 (J 4 0 5 (Q (.lodA 4 (Z 0)) (.new [(iv 0),(iv 0),(iv 0),(str ⟨#[]⟩)] (.sto 4 (Z 0) (Z 1) (.frz 9 (Z 0) (Q (F 0 0) (M 0 (.jn 53 [0,1,2,3,8,22,23] (P 6 (Q (A 0) (Q (F 0 0) (M 0 (.call 138 [(Z 0),(Z 4)] (Q (.bld [(iv 0),(iv 0),(iv 0),(iv 0),(str ⟨#[]⟩),nilS] [(0,1),(1,1),(2,1),(3,1),(4,1),(5,1)] [(0,(Y 1)),(1,(Z 6)),(5,(Z 0))]) (.call 137 [(Z 5),(Z 0)] (.rets []))))))) (D .eql (Z 5) (Y 3) (P 0 (Q (F 3 5) (M 0 (.call 139 [(Z 0)] (.call 94 [(Z 0),(Y 1)] (.jn 1723 [] (.rets []) (Q (F 3 9) (M 0 (.call 140 [(Z 10),(Z 0)] (Q (.aext (Z 0) 0) (Q (.aext (Z 1) 1) (Q (.aext (Z 2) 2) (P 0 (Q (.bld [(iv 0),(iv 0),(iv 0),(iv 0),(str ⟨#[]⟩),nilS] [(0,1),(1,1),(2,1),(3,1),(4,1),(5,1)] [(0,(Y 2)),(1,(Z 13)),(2,(Z 2)),(3,(Z 1))]) (.call 137 [(Z 12),(Z 0)] (.jump 0 []))) (Q (F 3 15) (M 0 (Q (.bld [(iv 0),(iv 0),(iv 0),(iv 0),(str ⟨#[]⟩),nilS] [(0,1),(1,1),(2,1),(3,1),(4,1),(5,1)] [(0,(Y 3)),(1,(Z 15)),(4,(Z 0))]) (.call 137 [(Z 14),(Z 0)] (.jump 0 []))))))))))))))))) (Q (A 1) (Q (F 0 0) (M 0 (.call 102 [(Z 0),(Z 5)] (O 0 (D .eql (Z 0) (Y 0) (.call 94 [(Z 0),(Y 1)] (.ord [0,1,2,3,4,5,6,7,8,9,10] [0,1,3,7,0,16,48,127,255,0,1023] (Q (A 8) (Q (F 0 0) (M 0 (Q (.idx 1 (Z 6) (Y 0)) (M 0 (J 4 2 0 (Q (.lodA 4 (Z 0)) (.new [(iv 0),(iv 0),(iv 0),(str ⟨#[]⟩)] (.wat [] (.sto 4 (Z 0) (Z 1) (.wat [] (.jn 251 [0,2,3,12,13,89] (P 5 (.ord [0,1,2,3,4,5,6,7] [0,0,2,0,8,0,0,127] (Q (F 3 4) (M 0 (Q (.slc 1 (Z 5) (some (Y 1)) none none) (.call 141 [(Z 3),(Z 1),(Z 0),(Z 4),(Z 5)] (.wat [] (.rets []))))))) (O 3 (D .gtr (Z 0) (Y 4) (.call 94 [(Z 0),(Y 2)] (Q (.bld [(iv 0),(iv 0),(iv 0),(iv 0),(str ⟨#[]⟩),nilS] [(0,1),(1,1),(2,1),(3,1),(4,1),(5,1)] [(0,(Y 9)),(1,(Z 4))]) (.call 137 [(Z 4),(Z 0)] (.call 142 [(Z 5),(Z 0),(Z 8),(Z 7)] (.rets [])))))))) (.frz 22 (Z 0) (Q (F 0 0) (M 0 (D .eql (Z 0) (Y 3) (H 0 (F 3 3) (H 1 (L 0) (.gpick (Z 2) (.call 139 [(Z 0)] (.jump 0 [(Z 23),(Z 25),(Z 26),(Z 18),(Z 6),(Z 0)])) (.jump 0 [(Z 22),(Z 24),(Z 25),(Z 17),(Z 5),(.lit (.val (.bool false)))]) (.no))))))))))))))))))))))))))))))) (D .eql (Z 0) (Y 1) (P 0 (.jump 0 [(Z 13),(Z 12),(Z 11),(Z 10),(Z 3),(Z 1),(Z 0)]) (D .eql (Z 1) (Y 2) (.jump 0 [(Z 14),(Z 13),(Z 12),(Z 11),(Z 4),(Z 2),(Z 0)]))))))))))))))
theorem x93_ok:okF TT Tryz.f93 4 x93=true:=by decide+kernel
theorem s_impl_expander_form_ok (h:s_impl_expander_form a0 a1 a2 a3 σ R):acall TP fn_impl_expander_form [a0,a1,a2,a3] σ R:=
 acall_okF (ρ:=[a3,a2,a1,a0]) TT_ok Tryz.func93 rfl x93 x93_ok rfl h
def s_impl_failIf (a0 a1:AV) (σ:AH) (R:AEnd→AH→Prop):Prop:=
 apick a0 (
 og (bld [(iv 0)] [(0,1)] [(0,a1)]) fun v6=>
 og (aifc TT ty_RiE v6) fun v7=>
 apanic v7 fun v=>apan v σ R) (
 aret (.tup []) σ R)
def x94:Sx:=P 1 (Q (.bld [(iv 0)] [(0,1)] [(0,(Z 0))]) (.ifc 97 (Z 0) (.pan (Z 0)))) (.rets [])
theorem x94_ok:okF TT Tryz.f94 2 x94=true:=by decide+kernel
theorem s_impl_failIf_ok (h:s_impl_failIf a0 a1 σ R):acall TP fn_impl_failIf [a0,a1] σ R:=
 acall_okF (ρ:=[a1,a0]) TT_ok Tryz.func94 rfl x94 x94_ok rfl h
def s_impl_isUp (a0 a1 a2:AV) (σ:AH) (R:AEnd→AH→Prop):Prop:=
 lp (X:=Tup [0,2,7]) (fun R1 y1 σ=>
 og (ibin .geq y1.2.2.1 (iv 0)) fun v10=>
 apick v10 (
 og (ibin .eql y1.2.2.1 y1.2.1) fun v16=>
 apick v16 (
 aret (.val (.bool true)) σ R) (
 acallv TP y1.1 [y1.2.2.1] σ (onr (fun v13 σ=>
 R1 (y1.1,y1.2.1,v13,()) σ) (pn R)))) (
 aret (.val (.bool false)) σ R)) (a0,a2,a1,()) σ
def x96:Sx:= .lp [0,2,7] (D .geq (Z 2) (Y 0) (P 0 (D .eql (Z 3) (Z 2) (P 0 (.ret (.lit (.val (.bool true)))) (.callv (Z 2) [(Z 4)] (.jump 0 [(Z 3),(Z 4),(Z 0)])))) (.ret (.lit (.val (.bool false)))))) [(Z 2),(Z 0),(Z 1)]
theorem x96_ok:okF TT Tryz.f96 3 x96=true:=by decide+kernel
theorem s_impl_isUp_ok (h:s_impl_isUp a0 a1 a2 σ R):acall TP fn_impl_isUp [a0,a1,a2] σ R:=
 acall_okF (ρ:=[a2,a1,a0]) TT_ok Tryz.func96 rfl x96 x96_ok rfl h
def s_impl_parts (a0 a1:AV) (σ:AH) (R:AEnd→AH→Prop):Prop:=
 bsl 1 [(iv 0)] 0 [] σ fun v8 σ=>
 og (lenS a0) fun v10=>
 lp (X:=Tup [1,5,9,10,11]) (fun R1 y1 σ=>
 og (ibin .lss y1.2.2.2.2.1 y1.2.2.2.1) fun v12=>
 apick v12 (
 jn (X:=Tup [1,5,9,10,11]) (fun x2 σ=>
 og (ibin .add x2.2.2.2.2.1 (iv 1)) fun v24=>
 R1 (x2.1,x2.2.1,x2.2.2.1,x2.2.2.2.1,v24,()) σ) fun k2=>
 og (idx 4 y1.2.2.1 y1.2.2.2.2.1 σ) fun v14=>
 og (lodA 4 v14 σ) fun v15=>
 new [(iv 0),(iv 0),(iv 0),(str ⟨#[]⟩)] σ fun v7 σ=>
 sto 4 v7 v15 σ fun σ=>
 frz v7 σ fun f7 σ=>
 og (fldA 1 f7) fun v16=>
 og (lod v16 σ) fun v17=>
 og (ibin .eql v17 y1.1) fun v19=>
 apick v19 (
 bsl 1 [(iv 0)] 1 [(0,y1.2.2.2.2.1)] σ fun v22 σ=>
 app 1 y1.2.1 v22 σ fun v23 σ=>
 k2 (y1.1,v23,y1.2.2.1,y1.2.2.2.1,y1.2.2.2.2.1,()) σ) (
 k2 (y1.1,y1.2.1,y1.2.2.1,y1.2.2.2.1,y1.2.2.2.2.1,()) σ)) (
 aret y1.2.1 σ R)) (a1,v8,a0,v10,(iv 0),()) σ
def x102:Sx:= .bsl 1 [(iv 0)] 0 [] (O 2 (.lp [1,5,9,10,11] (D .lss (Z 4) (Z 3) (P 0 (.jn 935 [1,5,9,10,11] (D .add (Z 4) (Y 1) (.jump 0 [(Z 1),(Z 2),(Z 3),(Z 4),(Z 0)])) (J 4 3 5 (Q (.lodA 4 (Z 0)) (.new [(iv 0),(iv 0),(iv 0),(str ⟨#[]⟩)] (.sto 4 (Z 0) (Z 1) (.frz 8 (Z 0) (Q (F 1 0) (M 0 (D .eql (Z 0) (Z 7) (P 0 (.bsl 1 [(iv 0)] 1 [(0,(Z 12))] (.app 1 (Z 10) (Z 0) (.jump 0 [(Z 10),(Z 0),(Z 12),(Z 13),(Z 14)]))) (.jump 0 [(Z 8),(Z 9),(Z 10),(Z 11),(Z 12)]))))))))))) (.ret (Z 2)))) [(Z 2),(Z 1),(Z 3),(Z 0),(Y 0)]))
theorem x102_ok:okF TT Tryz.f102 2 x102=true:=by decide+kernel
theorem s_impl_parts_ok (h:s_impl_parts a0 a1 σ R):acall TP fn_impl_parts [a0,a1] σ R:=
 acall_okF (ρ:=[a1,a0]) TT_ok Tryz.func102 rfl x102 x102_ok rfl h
def s_spec_l9Put (a0 a1 a2:AV) (σ:AH) (R:AEnd→AH→Prop):Prop:=
 abox a2 σ fun v5 σ=>
 frz v5 σ fun f5 σ=>
 og (anil a0) fun v8=>
 og (fldA 1 v8) fun v9=>
 og (lod v9 σ) fun v10=>
 og (anil a0) fun v13=>
 og (fldA 1 v13) fun v14=>
 og (lod v14 σ) fun v15=>
 og (idx 2 v15 a1 σ) fun v17=>
 og (fldA 1 v17) fun v18=>
 og (lod v18 σ) fun v19=>
 og (lodA 7 f5 σ) fun v20=>
 og (bslR 7 [(iv 0),(iv 0),(iv 0),(iv 0),(iv 0),(str ⟨#[]⟩),nilS] 1 [(0,v20)]) fun v21=>
 app 7 v19 v21 σ fun v22 σ=>
 (lod v9 σ=some v10∧True)∧
 og (idx 2 v10 a1 σ) fun v23=>
 og (fldA 1 v23) fun v24=>
 sto 1 v24 v22 σ fun σ=>
 (True)∧
 og (anil a0) fun v26=>
 og (fldA 1 v26) fun v27=>
 og (lod v27 σ) fun v28=>
 og (idx 2 v28 a1 σ) fun v30=>
 og (fldA 1 v30) fun v31=>
 og (lod v31 σ) fun v32=>
 og (lenS v32) fun v33=>
 og (ibin .sub v33 (iv 1)) fun v34=>
 aret v34 σ R
def x107:Sx:= .box (Z 0) (.frz 3 (Z 0) (.ord [0,1,2,3,4,5,6,7,8,9,10,11,12,13,14,15,16,17,18] [0,1,3,7,0,0,32,96,224,0,992,2016,4064,0,8192,32736,65535,131071,262143] (Q (A 4) (Q (F 1 0) (M 0 (Q (A 7) (Q (F 1 0) (M 0 (J 2 0 9 (Q (F 1 0) (M 0 (Q (.lodA 7 (Z 9)) (Q (.bslR 7 [(iv 0),(iv 0),(iv 0),(iv 0),(iv 0),(str ⟨#[]⟩),nilS] 1 [(0,(Z 0))]) (.app 7 (Z 2) (Z 0) (.wat [⟨none,(.lod (Z 10)),(Z 9)⟩] (J 2 9 15 (Q (F 1 0) (.sto 1 (Z 0) (Z 2) (.wat [] (Q (A 18) (Q (F 1 0) (M 0 (J 2 0 20 (Q (F 1 0) (M 0 (O 0 (D .sub (Z 0) (Y 1) (.ret (Z 0)))))))))))))))))))))))))))))
theorem x107_ok:okF TT Tryz.f107 3 x107=true:=by decide+kernel
theorem s_spec_l9Put_ok (h:s_spec_l9Put a0 a1 a2 σ R):acall TP fn_spec_l9Put [a0,a1,a2] σ R:=
 acall_okF (ρ:=[a2,a1,a0]) TT_ok Tryz.func107 rfl x107 x107_ok rfl h
def s_spec_l9End (a0 a1 a2:AV) (σ:AH) (R:AEnd→AH→Prop):Prop:=
 apick a2 (
 og (bld [(iv 0),(iv 0),(iv 0),(iv 0),(iv 0),(str ⟨#[]⟩),nilS] [(0,1),(1,1),(2,1),(3,1),(4,1),(5,1),(6,1)] [(0,(iv 12))]) fun v9=>
 acall TP fn_spec_l9Put [a0,a1,v9] σ (onr (fun v10 σ=>
 aret (.tup []) σ R) (pn R))) (
 aret (.tup []) σ R)
def x108:Sx:=P 0 (Q (.bld [(iv 0),(iv 0),(iv 0),(iv 0),(iv 0),(str ⟨#[]⟩),nilS] [(0,1),(1,1),(2,1),(3,1),(4,1),(5,1),(6,1)] [(0,(Y 12))]) (.call 107 [(Z 3),(Z 2),(Z 0)] (.rets []))) (.rets [])
theorem x108_ok:okF TT Tryz.f108 3 x108=true:=by decide+kernel
theorem s_spec_l9End_ok (h:s_spec_l9End a0 a1 a2 σ R):acall TP fn_spec_l9End [a0,a1,a2] σ R:=
 acall_okF (ρ:=[a2,a1,a0]) TT_ok Tryz.func108 rfl x108 x108_ok rfl h
def s_spec_l9If (a0 a1 a2 a3:AV) (σ:AH) (R:AEnd→AH→Prop):Prop:=
 og (idx 1 a1 (iv 0) σ) fun v12=>
 og (lod v12 σ) fun v13=>
 acall TP fn_spec_l9Make [a0,v13,a2,(.val (.bool false))] σ (onr (fun v15 σ=>
 og (bld [(iv 0),(iv 0),(iv 0),(iv 0),(iv 0),(str ⟨#[]⟩),nilS] [(0,1),(1,1),(2,1),(3,1),(4,1),(5,1),(6,1)] [(0,(iv 6))]) fun v18=>
 acall TP fn_spec_l9Put [a0,a2,v18] σ (onr (fun v19 σ=>
 og (idx 1 a1 (iv 1) σ) fun v22=>
 og (lod v22 σ) fun v23=>
 acall TP fn_spec_l9Make [a0,v23,a2,a3] σ (onr (fun v26 σ=>
 jn (X:=Tup [0,1,2,3,8,9]) (fun x1 σ=>
 og (anil x1.1) fun v34=>
 og (fldA 1 v34) fun v35=>
 og (lod v35 σ) fun v36=>
 og (idx 2 v36 x1.2.2.1 σ) fun v38=>
 og (fldA 1 v38) fun v39=>
 og (lod v39 σ) fun v40=>
 og (anil x1.1) fun v43=>
 og (fldA 1 v43) fun v44=>
 og (lod v44 σ) fun v45=>
 og (idx 2 v45 x1.2.2.1 σ) fun v47=>
 og (fldA 1 v47) fun v48=>
 og (lod v48 σ) fun v49=>
 og (lenS v49) fun v50=>
 og (idx 7 v40 x1.2.2.2.2.1 σ) fun v51=>
 og (fldA 1 v51) fun v52=>
 sto 1 v52 v50 σ fun σ=>
 (True)∧
 og (idx 1 x1.2.1 (iv 2) σ) fun v55=>
 og (lod v55 σ) fun v56=>
 acall TP fn_spec_l9Make [x1.1,v56,x1.2.2.1,x1.2.2.2.1] σ (onr (fun v59 σ=>
 og (ibin .geq x1.2.2.2.2.2.1 (iv 0)) fun v61=>
 apick v61 (
 og (anil x1.1) fun v63=>
 og (fldA 1 v63) fun v64=>
 og (lod v64 σ) fun v65=>
 og (idx 2 v65 x1.2.2.1 σ) fun v67=>
 og (fldA 1 v67) fun v68=>
 og (lod v68 σ) fun v69=>
 og (anil x1.1) fun v72=>
 og (fldA 1 v72) fun v73=>
 og (lod v73 σ) fun v74=>
 og (idx 2 v74 x1.2.2.1 σ) fun v76=>
 og (fldA 1 v76) fun v77=>
 og (lod v77 σ) fun v78=>
 og (lenS v78) fun v79=>
 og (idx 7 v69 x1.2.2.2.2.2.1 σ) fun v80=>
 og (fldA 1 v80) fun v81=>
 sto 1 v81 v79 σ fun σ=>
 (True)∧
 aret (.tup []) σ R) (
 aret (.tup []) σ R)) (pn R))) fun k1=>
 og (aun .not a3) fun v28=>
 apick v28 (
 og (bld [(iv 0),(iv 0),(iv 0),(iv 0),(iv 0),(str ⟨#[]⟩),nilS] [(0,1),(1,1),(2,1),(3,1),(4,1),(5,1),(6,1)] [(0,(iv 5))]) fun v31=>
 acall TP fn_spec_l9Put [a0,a2,v31] σ (onr (fun v32 σ=>
 k1 (a0,a1,a2,a3,v19,v32,()) σ) (pn R))) (
 k1 (a0,a1,a2,a3,v19,(iv (-1)),()) σ)) (pn R))) (pn R))) (pn R))
def x109:Sx:=Q (.idx 1 (Z 2) (Y 0)) (M 0 (.call 55 [(Z 5),(Z 0),(Z 3),(.lit (.val (.bool false)))] (Q (.bld [(iv 0),(iv 0),(iv 0),(iv 0),(iv 0),(str ⟨#[]⟩),nilS] [(0,1),(1,1),(2,1),(3,1),(4,1),(5,1),(6,1)] [(0,(Y 6))]) (.call 107 [(Z 7),(Z 5),(Z 0)] (Q (.idx 1 (Z 7) (Y 1)) (M 0 (.call 55 [(Z 10),(Z 0),(Z 8),(Z 7)] (.jn 63 [0,1,2,3,8,9] (.ord [0,1,2,3,4,5,6,7,8,9,10,11,12,13,14,15,16,17,18,19,20] [0,1,3,7,0,31,63,127,0,0,512,1536,3584,0,15872,32256,65024,130560,262143,524287,1048575] (Q (A 0) (Q (F 1 0) (M 0 (J 2 0 5 (Q (F 1 0) (M 0 (Q (A 6) (Q (F 1 0) (M 0 (J 2 0 11 (Q (F 1 0) (M 0 (O 0 (J 7 7 17 (Q (F 1 0) (.sto 1 (Z 0) (Z 2) (.wat [] (Q (.idx 1 (Z 16) (Y 2)) (M 0 (.call 55 [(Z 17),(Z 0),(Z 19),(Z 20)] (D .geq (Z 23) (Y 0) (P 0 (.ord [0,1,2,3,4,5,6,7,8,9,10,11,12,13,14,15,16,17,18,19,20] [0,1,3,7,0,31,63,127,0,0,512,1536,3584,0,15872,32256,65024,130560,262143,524287,1048575] (Q (A 19) (Q (F 1 0) (M 0 (J 2 0 24 (Q (F 1 0) (M 0 (Q (A 25) (Q (F 1 0) (M 0 (J 2 0 30 (Q (F 1 0) (M 0 (O 0 (J 7 7 37 (Q (F 1 0) (.sto 1 (Z 0) (Z 2) (.wat [] (.rets []))))))))))))))))))) (.rets [])))))))))))))))))))))))) (Q (.aun .not (Z 8)) (P 0 (Q (.bld [(iv 0),(iv 0),(iv 0),(iv 0),(iv 0),(str ⟨#[]⟩),nilS] [(0,1),(1,1),(2,1),(3,1),(4,1),(5,1),(6,1)] [(0,(Y 5))]) (.call 107 [(Z 13),(Z 11),(Z 0)] (.jump 0 [(Z 14),(Z 13),(Z 12),(Z 11),(Z 6),(Z 0)]))) (.jump 0 [(Z 12),(Z 11),(Z 10),(Z 9),(Z 4),(Y (-1))])))))))))))
theorem x109_ok:okF TT Tryz.f109 4 x109=true:=by decide+kernel
theorem s_spec_l9If_ok (h:s_spec_l9If a0 a1 a2 a3 σ R):acall TP fn_spec_l9If [a0,a1,a2,a3] σ R:=
 acall_okF (ρ:=[a3,a2,a1,a0]) TT_ok Tryz.func109 rfl x109 x109_ok rfl h
def s_impl_compiler_emit (a0 a1 a2:AV) (σ:AH) (R:AEnd→AH→Prop):Prop:=
 abox a2 σ fun v5 σ=>
 frz v5 σ fun f5 σ=>
 og (anil a0) fun v9=>
 og (fldA 2 v9) fun v10=>
 og (lod v10 σ) fun v11=>
 og (idx 2 v11 a1 σ) fun v13=>
 og (fldA 1 v13) fun v14=>
 og (anil v14) fun v16=>
 og (lod v16 σ) fun v17=>
 og (lenS v17) fun v18=>
 og (ibin .eql v18 (iv 200)) fun v19=>
 acall TP fn_impl_failIf [v19,(iv 2)] σ (onr (fun v20 σ=>
 og (anil v14) fun v23=>
 og (lod v23 σ) fun v24=>
 og (lodA 7 f5 σ) fun v25=>
 og (bslR 7 [(iv 0),(iv 0),(iv 0),(iv 0),(iv 0),(str ⟨#[]⟩),nilS] 1 [(0,v25)]) fun v26=>
 app 7 v24 v26 σ fun v27 σ=>
 (True)∧
 og (anil v14) fun v28=>
 sto 1 v28 v27 σ fun σ=>
 (True)∧
 og (anil v14) fun v30=>
 og (lod v30 σ) fun v31=>
 og (lenS v31) fun v32=>
 og (ibin .sub v32 (iv 1)) fun v33=>
 aret v33 σ R) (pn R))
def x110:Sx:= .box (Z 0) (.frz 3 (Z 0) (Q (A 4) (Q (F 2 0) (M 0 (J 2 0 6 (Q (F 1 0) (Q (A 0) (M 0 (O 0 (D .eql (Z 0) (Y 200) (.call 94 [(Z 0),(Y 2)] (.ord [0,1,2,3,4,5,6,7,8] [0,0,2,6,0,16,62,127,255] (Q (A 5) (M 0 (Q (.lodA 7 (Z 12)) (Q (.bslR 7 [(iv 0),(iv 0),(iv 0),(iv 0),(iv 0),(str ⟨#[]⟩),nilS] 1 [(0,(Z 0))]) (.app 7 (Z 2) (Z 0) (.wat [] (Q (A 10) (.sto 1 (Z 0) (Z 1) (.wat [] (Q (A 11) (M 0 (O 0 (D .sub (Z 0) (Y 1) (.ret (Z 0)))))))))))))))))))))))))))
theorem x110_ok:okF TT Tryz.f110 3 x110=true:=by decide+kernel
theorem s_impl_compiler_emit_ok (h:s_impl_compiler_emit a0 a1 a2 σ R):acall TP fn_impl_compiler_emit [a0,a1,a2] σ R:=
 acall_okF (ρ:=[a2,a1,a0]) TT_ok Tryz.func110 rfl x110 x110_ok rfl h
def s_impl_compiler_choice (a0 a1 a2 a3:AV) (σ:AH) (R:AEnd→AH→Prop):Prop:=
 og (idx 1 a1 (iv 0) σ) fun v12=>
 og (lod v12 σ) fun v13=>
 acall TP fn_impl_compiler_core [a0,v13,a2,(.val (.bool false))] σ (onr (fun v15 σ=>
 og (bld [(iv 0),(iv 0),(iv 0),(iv 0),(iv 0),(str ⟨#[]⟩),nilS] [(0,1),(1,1),(2,1),(3,1),(4,1),(5,1),(6,1)] [(0,(iv 6))]) fun v18=>
 acall TP fn_impl_compiler_emit [a0,a2,v18] σ (onr (fun v19 σ=>
 og (idx 1 a1 (iv 1) σ) fun v22=>
 og (lod v22 σ) fun v23=>
 acall TP fn_impl_compiler_core [a0,v23,a2,a3] σ (onr (fun v26 σ=>
 jn (X:=Tup [0,1,2,3,8,9]) (fun x1 σ=>
 og (anil x1.1) fun v34=>
 og (fldA 2 v34) fun v35=>
 og (lod v35 σ) fun v36=>
 og (idx 2 v36 x1.2.2.1 σ) fun v38=>
 og (fldA 1 v38) fun v39=>
 og (lod v39 σ) fun v40=>
 acall TP fn_impl_compiler_here [x1.1,x1.2.2.1] σ (onr (fun v44 σ=>
 (lod v39 σ=some v40∧idx 2 v36 x1.2.2.1 σ=some v38∧lod v35 σ=some v36∧True)∧
 og (idx 7 v40 x1.2.2.2.2.1 σ) fun v45=>
 og (fldA 1 v45) fun v46=>
 sto 1 v46 v44 σ fun σ=>
 (True)∧
 og (idx 1 x1.2.1 (iv 2) σ) fun v49=>
 og (lod v49 σ) fun v50=>
 acall TP fn_impl_compiler_core [x1.1,v50,x1.2.2.1,x1.2.2.2.1] σ (onr (fun v53 σ=>
 og (aun .not x1.2.2.2.1) fun v55=>
 apick v55 (
 og (anil x1.1) fun v57=>
 og (fldA 2 v57) fun v58=>
 og (lod v58 σ) fun v59=>
 og (idx 2 v59 x1.2.2.1 σ) fun v61=>
 og (fldA 1 v61) fun v62=>
 og (lod v62 σ) fun v63=>
 acall TP fn_impl_compiler_here [x1.1,x1.2.2.1] σ (onr (fun v67 σ=>
 (lod v62 σ=some v63∧idx 2 v59 x1.2.2.1 σ=some v61∧lod v58 σ=some v59∧True)∧
 og (idx 7 v63 x1.2.2.2.2.2.1 σ) fun v68=>
 og (fldA 1 v68) fun v69=>
 sto 1 v69 v67 σ fun σ=>
 (True)∧
 aret (.tup []) σ R) (pn R))) (
 aret (.tup []) σ R)) (pn R))) (pn R))) fun k1=>
 og (aun .not a3) fun v28=>
 apick v28 (
 og (bld [(iv 0),(iv 0),(iv 0),(iv 0),(iv 0),(str ⟨#[]⟩),nilS] [(0,1),(1,1),(2,1),(3,1),(4,1),(5,1),(6,1)] [(0,(iv 5))]) fun v31=>
 acall TP fn_impl_compiler_emit [a0,a2,v31] σ (onr (fun v32 σ=>
 k1 (a0,a1,a2,a3,v19,v32,()) σ) (pn R))) (
 k1 (a0,a1,a2,a3,v19,(iv 0),()) σ)) (pn R))) (pn R))) (pn R))
def x111:Sx:=Q (.idx 1 (Z 2) (Y 0)) (M 0 (.call 57 [(Z 5),(Z 0),(Z 3),(.lit (.val (.bool false)))] (Q (.bld [(iv 0),(iv 0),(iv 0),(iv 0),(iv 0),(str ⟨#[]⟩),nilS] [(0,1),(1,1),(2,1),(3,1),(4,1),(5,1),(6,1)] [(0,(Y 6))]) (.call 110 [(Z 7),(Z 5),(Z 0)] (Q (.idx 1 (Z 7) (Y 1)) (M 0 (.call 57 [(Z 10),(Z 0),(Z 8),(Z 7)] (.jn 31 [0,1,2,3,8,9] (.ord [0,1,2,3,4,5,6,7,8,9,10,11,12,13,14] [0,1,3,7,0,31,63,127,0,0,0,1536,4095,8191,16383] (Q (A 0) (Q (F 2 0) (M 0 (J 2 0 5 (Q (F 1 0) (M 0 (.call 146 [(Z 6),(Z 8)] (.wat [⟨none,(.lod (Z 2)),(Z 1)⟩,⟨none,(.idx 2 (Z 4) (Z 9)),(Z 3)⟩,⟨none,(.lod (Z 5)),(Z 4)⟩] (J 7 1 11 (Q (F 1 0) (.sto 1 (Z 0) (Z 2) (.wat [] (Q (.idx 1 (Z 10) (Y 2)) (M 0 (.call 57 [(Z 11),(Z 0),(Z 13),(Z 14)] (Q (.aun .not (Z 15)) (P 0 (.ord [0,1,2,3,4,5,6,7,8,9,10,11,12,13,14] [0,1,3,7,0,31,63,127,0,0,0,1536,4095,8191,16383] (Q (A 13) (Q (F 2 0) (M 0 (J 2 0 18 (Q (F 1 0) (M 0 (.call 146 [(Z 19),(Z 21)] (.wat [⟨none,(.lod (Z 2)),(Z 1)⟩,⟨none,(.idx 2 (Z 4) (Z 22)),(Z 3)⟩,⟨none,(.lod (Z 5)),(Z 4)⟩] (J 7 1 25 (Q (F 1 0) (.sto 1 (Z 0) (Z 2) (.wat [] (.rets [])))))))))))))) (.rets []))))))))))))))))))) (Q (.aun .not (Z 8)) (P 0 (Q (.bld [(iv 0),(iv 0),(iv 0),(iv 0),(iv 0),(str ⟨#[]⟩),nilS] [(0,1),(1,1),(2,1),(3,1),(4,1),(5,1),(6,1)] [(0,(Y 5))]) (.call 110 [(Z 13),(Z 11),(Z 0)] (.jump 0 [(Z 14),(Z 13),(Z 12),(Z 11),(Z 6),(Z 0)]))) (.jump 0 [(Z 12),(Z 11),(Z 10),(Z 9),(Z 4),(Y 0)])))))))))))
theorem x111_ok:okF TT Tryz.f111 4 x111=true:=by decide+kernel
theorem s_impl_compiler_choice_ok (h:s_impl_compiler_choice a0 a1 a2 a3 σ R):acall TP fn_impl_compiler_choice [a0,a1,a2,a3] σ R:=
 acall_okF (ρ:=[a3,a2,a1,a0]) TT_ok Tryz.func111 rfl x111 x111_ok rfl h
def s_slices_Clone (a0:AV) (σ:AH) (R:AEnd→AH→Prop):Prop:=
 abin TT .eql ty_LRiiisE a0 nilS fun v4=>
 apick v4 (
 aret nilS σ R) (
 bsl 4 [(iv 0),(iv 0),(iv 0),(str ⟨#[]⟩)] 0 [] σ fun v5 σ=>
 app 4 v5 a0 σ fun v7 σ=>
 aret v7 σ R)
def x112:Sx:= .cmp .eql 41 (Z 0) (.lit nilS) (P 0 (.ret (.lit nilS)) (.bsl 4 [(iv 0),(iv 0),(iv 0),(str ⟨#[]⟩)] 0 [] (.app 4 (Z 0) (Z 2) (.ret (Z 0)))))
theorem x112_ok:okF TT Tryz.f112 1 x112=true:=by decide+kernel
theorem s_slices_Clone_ok (h:s_slices_Clone a0 σ R):acall TP fn_slices_Clone [a0] σ R:=
 acall_okF (ρ:=[a0]) TT_ok Tryz.func112 rfl x112 x112_ok rfl h
end Go.Proofs.YtbppopcpgcgkkaaGreatDoor.E
