import Derived.Test.YtbapalgndjiamaaGreatDoorSH9
/- What functions come to. Printed by mkg.py. -/
set_option maxRecDepth 1000000
namespace Go.Proofs.YtbapalgndjiamaaGreatDoor.E
open Go Go.RowKit
set_option linter.unusedVariables false
set_option linter.unusedSectionVars false
variable [Lam]
def s_laws_FnHeights (a0 : AV) (σ : AH) (R : AEnd → AH → Prop) : Prop :=
 acall TP fn_laws_lwBig [a0] σ (onr (fun v9 σ =>
 apick v9 (
 aret (.val (.bool true)) σ R) (
 acall TP fn_spec_DrawHeightsOf [a0] σ (onr (fun v11 σ =>
 new [(.val (.int .i64 0)), (.val (.slice none 0 0))] σ fun v3 σ =>
 sto 2 v3 v11 σ fun σ =>
 frz v3 σ fun f3 σ =>
 og (lodA 2 f3 σ) fun v12 =>
 acall TP fn_impl_HeightsOf [v12] σ (onr (fun v13 σ =>
 new [(.val (.int .i64 0)), (.val (.slice none 0 0))] σ fun v4 σ =>
 sto 2 v4 v13 σ fun σ =>
 frz v4 σ fun f4 σ =>
 og (fldA 0 f4) fun v14 =>
 og (lod v14 σ) fun v15 =>
 og (ibin .neq v15 (.val (.int .i64 0))) fun v16 =>
 apick v16 (
 og (lodA 2 f3 σ) fun v17 =>
 og (fldA 0 f4) fun v20 =>
 og (lod v20 σ) fun v21 =>
 acall TP fn_spec_HeightsOf [v17] σ (onr (fun v18 σ =>
 (lod v20 σ = some v21 ∧ True) ∧
 og (fldV 0 v18) fun v19 =>
 og (ibin .eql v19 v21) fun v22 =>
 aret v22 σ R) (fun v σ => apan v σ R))) (
 lp (X := Tup [3, 4, 5]) (fun R1 y1 σ =>
 og (fldA 1 y1.1) fun v24 =>
 og (lod v24 σ) fun v25 =>
 og (lenS v25) fun v26 =>
 og (ibin .lss y1.2.2.1 v26) fun v27 =>
 apick v27 (
 og (fldA 1 y1.1) fun v30 =>
 og (lod v30 σ) fun v31 =>
 og (idx 7 v31 y1.2.2.1 σ) fun v33 =>
 og (fldA 0 v33) fun v34 =>
 og (lod v34 σ) fun v35 =>
 og (ibin .eql v35 (.val (.int .i64 12))) fun v36 =>
 og (gval v36 true false (fldA 1 y1.2.1)) fun v38 =>
 og (gval v36 true false (lod v38 σ)) fun v39 =>
 og (gval v36 true false (some y1.2.2.1)) fun v40 =>
 og (gval v36 true false (idx 1 v39 v40 σ)) fun v41 =>
 og (gval v36 true false (lod v41 σ)) fun v42 =>
 og (gval v36 true false (ibin .geq v42 (.val (.int .i64 0)))) fun v43 =>
 og (pickV v36 v43 (.val (.bool false))) fun v44 =>
 og (gval v44 true false (fldA 1 y1.2.1)) fun v46 =>
 og (gval v44 true false (lod v46 σ)) fun v47 =>
 og (gval v44 true false (some y1.2.2.1)) fun v48 =>
 og (gval v44 true false (idx 1 v47 v48 σ)) fun v49 =>
 og (gval v44 true false (lod v49 σ)) fun v50 =>
 og (gval v44 true false (ibin .neq v50 (.val (.int .i64 1)))) fun v51 =>
 og (pickV v44 v51 (.val (.bool false))) fun v52 =>
 og (gval v52 false false (fldA 1 y1.2.1)) fun v54 =>
 og (gval v52 false false (lod v54 σ)) fun v55 =>
 og (gval v52 false false (some y1.2.2.1)) fun v56 =>
 og (gval v52 false false (idx 1 v55 v56 σ)) fun v57 =>
 og (gval v52 false false (lod v57 σ)) fun v58 =>
 og (gval v52 false false (ibin .lss v58 (.val (.int .i64 (-1))))) fun v59 =>
 og (pickV v52 (.val (.bool true)) v59) fun v60 =>
 apick v60 (
 aret (.val (.bool false)) σ R) (
 og (ibin .add y1.2.2.1 (.val (.int .i64 1))) fun v29 =>
 R1 (y1.1, y1.2.1, v29, ()) σ)) (
 og (lodA 2 y1.1 σ) fun v61 =>
 acall TP fn_impl_TargetsIn [v61] σ (onr (fun v62 σ =>
 new [(.val (.int .i64 0)), (.val (.slice none 0 0))] σ fun v6 σ =>
 sto 2 v6 v62 σ fun σ =>
 frz v6 σ fun f6 σ =>
 lp (X := Tup [3, 4, 6, 7]) (fun R2 y2 σ =>
 og (fldA 1 y2.2.2.1) fun v64 =>
 og (lod v64 σ) fun v65 =>
 og (lenS v65) fun v66 =>
 og (ibin .lss y2.2.2.2.1 v66) fun v67 =>
 apick v67 (
 og (fldA 1 y2.2.2.1) fun v70 =>
 og (lod v70 σ) fun v71 =>
 og (idx 1 v71 y2.2.2.2.1 σ) fun v73 =>
 og (lod v73 σ) fun v74 =>
 og (ibin .lss v74 (.val (.int .i64 0))) fun v75 =>
 og (gval v75 false false (fldA 1 y2.2.2.1)) fun v77 =>
 og (gval v75 false false (lod v77 σ)) fun v78 =>
 og (gval v75 false false (some y2.2.2.2.1)) fun v79 =>
 og (gval v75 false false (idx 1 v78 v79 σ)) fun v80 =>
 og (gval v75 false false (lod v80 σ)) fun v81 =>
 og (gval v75 false false (fldA 1 y2.1)) fun v82 =>
 og (gval v75 false false (lod v82 σ)) fun v83 =>
 og (gval v75 false false (lenS v83)) fun v84 =>
 og (gval v75 false false (ibin .geq v81 v84)) fun v85 =>
 og (pickV v75 (.val (.bool true)) v85) fun v86 =>
 apick v86 (
 aret (.val (.bool false)) σ R) (
 og (ibin .add y2.2.2.2.1 (.val (.int .i64 1))) fun v69 =>
 R2 (y2.1, y2.2.1, y2.2.2.1, v69, ()) σ)) (
 jn (X := Tup [2]) (fun x3 σ =>
 aret x3.1 σ R) fun k3 =>
 og (fldA 1 y2.2.1) fun v87 =>
 og (lod v87 σ) fun v88 =>
 og (lenS v88) fun v89 =>
 og (fldA 1 y2.1) fun v90 =>
 og (lod v90 σ) fun v91 =>
 og (lenS v91) fun v92 =>
 og (ibin .eql v89 v92) fun v93 =>
 og (gval v93 true false (fldA 1 y2.2.1)) fun v95 =>
 og (gval v93 true false (lod v95 σ)) fun v96 =>
 og (gval v93 true false (idx 1 v96 (.val (.int .i64 0)) σ)) fun v97 =>
 og (gval v93 true false (lod v97 σ)) fun v98 =>
 og (gval v93 true false (ibin .eql v98 (.val (.int .i64 0)))) fun v99 =>
 og (pickV v93 v99 (.val (.bool false))) fun v100 =>
 og (gval v100 true false (fldA 0 y2.2.2.1)) fun v102 =>
 og (gval v100 true false (lod v102 σ)) fun v103 =>
 og (gval v100 true false (ibin .eql v103 (.val (.int .i64 0)))) fun v104 =>
 og (pickV v100 v104 (.val (.bool false))) fun v105 =>
 og (gval v105 true false (fldA 1 y2.2.1)) fun v107 =>
 og (gval v105 true false (lod v107 σ)) fun v108 =>
 og (gval v105 true false (lodA 2 y2.1 σ)) fun v109 =>
 gpick v105 (
 acall TP fn_spec_HeightsOf [v109] σ (onr (fun v110 σ =>
 (lod v107 σ = some v108 ∧ True) ∧
 og (fldV 1 v110) fun v111 =>
 acall TP fn_laws_lwNums [v108, v111] σ (onr (fun v112 σ =>
 (True) ∧
 k3 (v112, ()) σ) (fun v σ => apan v σ R))) (fun v σ => apan v σ R))) (
 k3 ((.val (.bool false)), ()) σ) (False))) (y1.1, y1.2.1, f6, (.val (.int .i64 0)), ()) σ) (fun v σ => apan v σ R)))) (f3, f4, (.val (.int .i64 0)), ()) σ)) (fun v σ => apan v σ R))) (fun v σ => apan v σ R)))) (fun v σ => apan v σ R))
def x3 : Sx := .call 5 [(.var 0)] (.apick (.var 0) (.ret (.lit (.val (.bool true)))) (.call 6 [(.var 1)] (.new [(iv 0), (.val (.slice none 0 0))] (.sto 2 (.var 0) (.var 1) (.frz 3 (.var 0) (.og (.lodA 2 (.var 0)) (.call 7 [(.var 0)] (.new [(iv 0), (.val (.slice none 0 0))] (.sto 2 (.var 0) (.var 1) (.frz 7 (.var 0) (.og (.fldA 0 (.var 0)) (.og (.lod (.var 0)) (.og (.ibin .neq (.var 0) (.lit (iv 0))) (.apick (.var 0) (.ord [0, 3, 4, 1, 2, 5, 6] [0, 1, 3, 0, 8, 31, 63] (.og (.lodA 2 (.var 7)) (.og (.fldA 0 (.var 4)) (.og (.lod (.var 0)) (.call 8 [(.var 2)] (.wat [⟨none, (.lod (.var 2)), (.var 1)⟩] (.og (.fldV 0 (.var 0)) (.og (.ibin .eql (.var 0) (.var 2)) (.ret (.var 0)))))))))) (.lp [3, 4, 5] (.og (.fldA 1 (.var 0)) (.og (.lod (.var 0)) (.og (.lenS (.var 0)) (.og (.ibin .lss (.var 5) (.var 0)) (.apick (.var 0) (.og (.fldA 1 (.var 4)) (.og (.lod (.var 0)) (.og (.idx 7 (.var 0) (.var 8)) (.og (.fldA 0 (.var 0)) (.og (.lod (.var 0)) (.og (.ibin .eql (.var 0) (.lit (iv 12))) (.gog (.var 0) true false (.fldA 1 (.var 11)) (.gog (.var 1) true false (.lod (.var 0)) (.gog (.var 2) true false (.ret (.var 14)) (.gog (.var 3) true false (.idx 1 (.var 1) (.var 0)) (.gog (.var 4) true false (.lod (.var 0)) (.gog (.var 5) true false (.ibin .geq (.var 0) (.lit (iv 0))) (.og (.pickV (.var 6) (.var 0) (.lit (.val (.bool false)))) (.gog (.var 0) true false (.fldA 1 (.var 18)) (.gog (.var 1) true false (.lod (.var 0)) (.gog (.var 2) true false (.ret (.var 21)) (.gog (.var 3) true false (.idx 1 (.var 1) (.var 0)) (.gog (.var 4) true false (.lod (.var 0)) (.gog (.var 5) true false (.ibin .neq (.var 0) (.lit (iv 1))) (.og (.pickV (.var 6) (.var 0) (.lit (.val (.bool false)))) (.gog (.var 0) false false (.fldA 1 (.var 25)) (.gog (.var 1) false false (.lod (.var 0)) (.gog (.var 2) false false (.ret (.var 28)) (.gog (.var 3) false false (.idx 1 (.var 1) (.var 0)) (.gog (.var 4) false false (.lod (.var 0)) (.gog (.var 5) false false (.ibin .lss (.var 0) (.lit (iv (-1)))) (.og (.pickV (.var 6) (.lit (.val (.bool true))) (.var 0)) (.apick (.var 0) (.ret (.lit (.val (.bool false)))) (.og (.ibin .add (.var 33) (.lit (iv 1))) (.jump 0 [(.var 32), (.var 33), (.var 0)])))))))))))))))))))))))))))))) (.og (.lodA 2 (.var 4)) (.call 9 [(.var 0)] (.new [(iv 0), (.val (.slice none 0 0))] (.sto 2 (.var 0) (.var 1) (.frz 9 (.var 0) (.lp [3, 4, 6, 7] (.og (.fldA 1 (.var 2)) (.og (.lod (.var 0)) (.og (.lenS (.var 0)) (.og (.ibin .lss (.var 6) (.var 0)) (.apick (.var 0) (.ord [0, 1, 2, 3, 4, 5, 6, 7, 8, 9, 10, 11, 12, 13, 14, 15, 16] [0, 1, 0, 7, 15, 31, 63, 127, 255, 127, 1023, 2047, 127, 4223, 12415, 32767, 65535] (.og (.fldA 1 (.var 6)) (.og (.lod (.var 0)) (.og (.idx 1 (.var 0) (.var 9)) (.og (.lod (.var 0)) (.og (.ibin .lss (.var 0) (.lit (iv 0))) (.gog (.var 0) false false (.fldA 1 (.var 11)) (.gog (.var 1) false false (.lod (.var 0)) (.gog (.var 2) false false (.ret (.var 14)) (.gog (.var 3) false false (.idx 1 (.var 1) (.var 0)) (.gog (.var 4) false false (.lod (.var 0)) (.gog (.var 5) false false (.fldA 1 (.var 14)) (.gog (.var 6) false false (.lod (.var 0)) (.gog (.var 7) false false (.lenS (.var 0)) (.gog (.var 8) false false (.ibin .geq (.var 3) (.var 0)) (.og (.pickV (.var 9) (.lit (.val (.bool true))) (.var 0)) (.apick (.var 0) (.ret (.lit (.val (.bool false)))) (.og (.ibin .add (.var 22) (.lit (iv 1))) (.jump 0 [(.var 20), (.var 21), (.var 22), (.var 0)]))))))))))))))))))) (.jn 1023 [2] (.ret (.var 0)) (.ord [0, 1, 2, 3, 4, 5, 6, 7, 8, 9, 10, 11, 12, 13, 14, 15, 16, 17, 18, 19, 20, 21, 22, 23, 24, 25, 26, 27] [0, 1, 3, 0, 8, 24, 63, 127, 255, 511, 1023, 2047, 4095, 8191, 16383, 32767, 65535, 131071, 262143, 524287, 1048575, 2097151, 1048575, 5242879, 13631487, 33554431, 67108863, 134217727] (.og (.fldA 1 (.var 5)) (.og (.lod (.var 0)) (.og (.lenS (.var 0)) (.og (.fldA 1 (.var 7)) (.og (.lod (.var 0)) (.og (.lenS (.var 0)) (.og (.ibin .eql (.var 3) (.var 0)) (.gog (.var 0) true false (.fldA 1 (.var 12)) (.gog (.var 1) true false (.lod (.var 0)) (.gog (.var 2) true false (.idx 1 (.var 0) (.lit (iv 0))) (.gog (.var 3) true false (.lod (.var 0)) (.gog (.var 4) true false (.ibin .eql (.var 0) (.lit (iv 0))) (.og (.pickV (.var 5) (.var 0) (.lit (.val (.bool false)))) (.gog (.var 0) true false (.fldA 0 (.var 19)) (.gog (.var 1) true false (.lod (.var 0)) (.gog (.var 2) true false (.ibin .eql (.var 0) (.lit (iv 0))) (.og (.pickV (.var 3) (.var 0) (.lit (.val (.bool false)))) (.gog (.var 0) true false (.fldA 1 (.var 22)) (.gog (.var 1) true false (.lod (.var 0)) (.gog (.var 2) true false (.lodA 2 (.var 23)) (.gpick (.var 3) (.call 8 [(.var 0)] (.wat [⟨none, (.lod (.var 3)), (.var 2)⟩] (.og (.fldV 1 (.var 0)) (.call 10 [(.var 3), (.var 0)] (.wat [] (.jump 0 [(.var 0)])))))) (.jump 0 [(.lit (.val (.bool false)))]) (.no))))))))))))))))))))))))))))) [(.var 8), (.var 9), (.var 0), (.lit (iv 0))]))))))))))) [(.var 7), (.var 3), (.lit (iv 0))])))))))))))))))
theorem x3_ok : okF TT Tryz.f3 1 x3 = true := by decide +kernel
theorem s_laws_FnHeights_ok {a0 : AV} {σ : AH} {R : AEnd → AH → Prop} (h : s_laws_FnHeights a0 σ R) : acall TP fn_laws_FnHeights [a0] σ R :=
 acall_okF (ρ := [a0]) TT_ok Tryz.func3 rfl x3 x3_ok rfl h
def s_laws_lwBig (a0 : AV) (σ : AH) (R : AEnd → AH → Prop) : Prop :=
 og (lenS a0) fun v4 =>
 og (ibin .gtr v4 (.val (.int .i64 1048576))) fun v5 =>
 aret v5 σ R
def x5 : Sx := .og (.lenS (.var 0)) (.og (.ibin .gtr (.var 0) (.lit (iv 1048576))) (.ret (.var 0)))
theorem x5_ok : okF TT Tryz.f5 1 x5 = true := by decide +kernel
theorem s_laws_lwBig_ok {a0 : AV} {σ : AH} {R : AEnd → AH → Prop} (h : s_laws_lwBig a0 σ R) : acall TP fn_laws_lwBig [a0] σ R :=
 acall_okF (ρ := [a0]) TT_ok Tryz.func5 rfl x5 x5_ok rfl h
def s_spec_DrawHeightsOf (a0 : AV) (σ : AH) (R : AEnd → AH → Prop) : Prop :=
 new [(.val (.int .i64 0)), (.val (.slice none 0 0))] σ fun v2 σ =>
 acall TP fn_spec_l1Source [a0] σ (onr (fun v6 σ =>
 acall TP fn_spec_l9Bent [v6] σ (onr (fun v8 σ =>
 og (lenS v8) fun v12 =>
 acall TP fn_spec_l1Next [v6, v12] σ (onr (fun v13 σ =>
 og (idx 2 v8 v13 σ) fun v14 =>
 og (lodA 2 v14 σ) fun v15 =>
 sto 2 v2 v15 σ fun σ =>
 og (lodA 2 v2 σ) fun r2 =>
 aret r2 σ R) (fun v σ => apan v σ R))) (fun v σ => apan v σ R))) (fun v σ => apan v σ R))
def x6 : Sx := .new [(iv 0), (.val (.slice none 0 0))] (.call 15 [(.var 1)] (.call 16 [(.var 0)] (.og (.lenS (.var 0)) (.call 17 [(.var 2), (.var 0)] (.og (.idx 2 (.var 2) (.var 0)) (.og (.lodA 2 (.var 0)) (.sto 2 (.var 6) (.var 0) (.og (.lodA 2 (.var 6)) (.ret (.var 0))))))))))
theorem x6_ok : okF TT Tryz.f6 1 x6 = true := by decide +kernel
theorem s_spec_DrawHeightsOf_ok {a0 : AV} {σ : AH} {R : AEnd → AH → Prop} (h : s_spec_DrawHeightsOf a0 σ R) : acall TP fn_spec_DrawHeightsOf [a0] σ R :=
 acall_okF (ρ := [a0]) TT_ok Tryz.func6 rfl x6 x6_ok rfl h
def s_impl_HeightsOf (a0 : AV) (σ : AH) (R : AEnd → AH → Prop) : Prop :=
 abox a0 σ fun v1 σ =>
 new [(.val (.int .i64 0)), (.val (.slice none 0 0))] σ fun v2 σ =>
 frz v1 σ fun f1 σ =>
 og (lodA 2 f1 σ) fun v6 =>
 acall TP fn_impl_blockFault [v6] σ (onr (fun v7 σ =>
 og (ibin .neq v7 (.val (.int .i64 0))) fun v9 =>
 apick v9 (
 og (bld [(.val (.int .i64 0)), (.val (.slice none 0 0))] [(0, 1), (1, 1)] [(0, v7)]) fun v11 =>
 sto 2 v2 v11 σ fun σ =>
 og (lodA 2 v2 σ) fun r2 =>
 aret r2 σ R) (
 og (lodA 2 f1 σ) fun v13 =>
 acall TP fn_impl_heightsOf [v13] σ (onr (fun v14 σ =>
 og (aext v14 0) fun v15 =>
 og (aext v14 1) fun v16 =>
 og (aun .not v16) fun v18 =>
 apick v18 (
 og (bld [(.val (.int .i64 0)), (.val (.slice none 0 0))] [(0, 1), (1, 1)] [(0, (.val (.int .i64 1)))]) fun v19 =>
 sto 2 v2 v19 σ fun σ =>
 og (lodA 2 v2 σ) fun r2 =>
 aret r2 σ R) (
 og (bld [(.val (.int .i64 0)), (.val (.slice none 0 0))] [(0, 1), (1, 1)] [(1, v15)]) fun v21 =>
 sto 2 v2 v21 σ fun σ =>
 og (lodA 2 v2 σ) fun r2 =>
 aret r2 σ R)) (fun v σ => apan v σ R)))) (fun v σ => apan v σ R))
def x7 : Sx := .box (.var 0) (.new [(iv 0), (.val (.slice none 0 0))] (.frz 1 (.var 1) (.og (.lodA 2 (.var 0)) (.call 18 [(.var 0)] (.og (.ibin .neq (.var 0) (.lit (iv 0))) (.apick (.var 0) (.og (.bld [(iv 0), (.val (.slice none 0 0))] [(0, 1), (1, 1)] [(0, (.var 1))]) (.sto 2 (.var 5) (.var 0) (.og (.lodA 2 (.var 5)) (.ret (.var 0))))) (.og (.lodA 2 (.var 3)) (.call 19 [(.var 0)] (.og (.aext (.var 0) 0) (.og (.aext (.var 1) 1) (.og (.aun .not (.var 0)) (.apick (.var 0) (.og (.bld [(iv 0), (.val (.slice none 0 0))] [(0, 1), (1, 1)] [(0, (.lit (iv 1)))]) (.sto 2 (.var 10) (.var 0) (.og (.lodA 2 (.var 10)) (.ret (.var 0))))) (.og (.bld [(iv 0), (.val (.slice none 0 0))] [(0, 1), (1, 1)] [(1, (.var 2))]) (.sto 2 (.var 10) (.var 0) (.og (.lodA 2 (.var 10)) (.ret (.var 0)))))))))))))))))
theorem x7_ok : okF TT Tryz.f7 1 x7 = true := by decide +kernel
theorem s_impl_HeightsOf_ok {a0 : AV} {σ : AH} {R : AEnd → AH → Prop} (h : s_impl_HeightsOf a0 σ R) : acall TP fn_impl_HeightsOf [a0] σ R :=
 acall_okF (ρ := [a0]) TT_ok Tryz.func7 rfl x7 x7_ok rfl h
def s_spec_HeightsOf (a0 : AV) (σ : AH) (R : AEnd → AH → Prop) : Prop :=
 abox a0 σ fun v1 σ =>
 new [(.val (.int .i64 0)), (.val (.slice none 0 0))] σ fun v2 σ =>
 frz v1 σ fun f1 σ =>
 acall TP fn_spec_l10Heights [f1] σ (onr (fun v6 σ =>
 og (aext v6 0) fun v7 =>
 og (aext v6 1) fun v8 =>
 og (bld [(.val (.int .i64 0)), (.val (.slice none 0 0))] [(0, 1), (1, 1)] [(0, v8), (1, v7)]) fun v11 =>
 sto 2 v2 v11 σ fun σ =>
 og (lodA 2 v2 σ) fun r2 =>
 aret r2 σ R) (fun v σ => apan v σ R))
def x8 : Sx := .box (.var 0) (.new [(iv 0), (.val (.slice none 0 0))] (.frz 1 (.var 1) (.call 20 [(.var 0)] (.og (.aext (.var 0) 0) (.og (.aext (.var 1) 1) (.og (.bld [(iv 0), (.val (.slice none 0 0))] [(0, 1), (1, 1)] [(0, (.var 0)), (1, (.var 1))]) (.sto 2 (.var 5) (.var 0) (.og (.lodA 2 (.var 5)) (.ret (.var 0))))))))))
theorem x8_ok : okF TT Tryz.f8 1 x8 = true := by decide +kernel
theorem s_spec_HeightsOf_ok {a0 : AV} {σ : AH} {R : AEnd → AH → Prop} (h : s_spec_HeightsOf a0 σ R) : acall TP fn_spec_HeightsOf [a0] σ R :=
 acall_okF (ρ := [a0]) TT_ok Tryz.func8 rfl x8 x8_ok rfl h
def s_impl_TargetsIn (a0 : AV) (σ : AH) (R : AEnd → AH → Prop) : Prop :=
 abox a0 σ fun v1 σ =>
 new [(.val (.int .i64 0)), (.val (.slice none 0 0))] σ fun v2 σ =>
 frz v1 σ fun f1 σ =>
 og (lodA 2 f1 σ) fun v4 =>
 acall TP fn_impl_blockFault [v4] σ (onr (fun v5 σ =>
 og (ibin .neq v5 (.val (.int .i64 0))) fun v7 =>
 apick v7 (
 og (bld [(.val (.int .i64 0)), (.val (.slice none 0 0))] [(0, 1), (1, 1)] [(0, v5)]) fun v9 =>
 sto 2 v2 v9 σ fun σ =>
 og (lodA 2 v2 σ) fun r2 =>
 aret r2 σ R) (
 og (lodA 2 f1 σ) fun v10 =>
 acall TP fn_impl_targets [v10] σ (onr (fun v11 σ =>
 og (bld [(.val (.int .i64 0)), (.val (.slice none 0 0))] [(0, 1), (1, 1)] [(1, v11)]) fun v12 =>
 sto 2 v2 v12 σ fun σ =>
 og (lodA 2 v2 σ) fun r2 =>
 aret r2 σ R) (fun v σ => apan v σ R)))) (fun v σ => apan v σ R))
def x9 : Sx := .box (.var 0) (.new [(iv 0), (.val (.slice none 0 0))] (.frz 1 (.var 1) (.og (.lodA 2 (.var 0)) (.call 18 [(.var 0)] (.og (.ibin .neq (.var 0) (.lit (iv 0))) (.apick (.var 0) (.og (.bld [(iv 0), (.val (.slice none 0 0))] [(0, 1), (1, 1)] [(0, (.var 1))]) (.sto 2 (.var 5) (.var 0) (.og (.lodA 2 (.var 5)) (.ret (.var 0))))) (.og (.lodA 2 (.var 3)) (.call 21 [(.var 0)] (.og (.bld [(iv 0), (.val (.slice none 0 0))] [(0, 1), (1, 1)] [(1, (.var 0))]) (.sto 2 (.var 7) (.var 0) (.og (.lodA 2 (.var 7)) (.ret (.var 0)))))))))))))
theorem x9_ok : okF TT Tryz.f9 1 x9 = true := by decide +kernel
theorem s_impl_TargetsIn_ok {a0 : AV} {σ : AH} {R : AEnd → AH → Prop} (h : s_impl_TargetsIn a0 σ R) : acall TP fn_impl_TargetsIn [a0] σ R :=
 acall_okF (ρ := [a0]) TT_ok Tryz.func9 rfl x9 x9_ok rfl h
def s_laws_lwNums (a0 a1 : AV) (σ : AH) (R : AEnd → AH → Prop) : Prop :=
 og (lenS a0) fun v7 =>
 og (lenS a1) fun v9 =>
 og (ibin .neq v7 v9) fun v10 =>
 apick v10 (
 aret (.val (.bool false)) σ R) (
 lp (X := Tup [0, 1, 5]) (fun R1 y1 σ =>
 og (lenS y1.1) fun v13 =>
 og (ibin .lss y1.2.2.1 v13) fun v14 =>
 apick v14 (
 og (idx 1 y1.1 y1.2.2.1 σ) fun v19 =>
 og (lod v19 σ) fun v20 =>
 og (idx 1 y1.2.1 y1.2.2.1 σ) fun v23 =>
 og (lod v23 σ) fun v24 =>
 og (ibin .neq v20 v24) fun v25 =>
 apick v25 (
 aret (.val (.bool false)) σ R) (
 og (ibin .add y1.2.2.1 (.val (.int .i64 1))) fun v16 =>
 R1 (y1.1, y1.2.1, v16, ()) σ)) (
 aret (.val (.bool true)) σ R)) (a0, a1, (.val (.int .i64 0)), ()) σ)
def x10 : Sx := .og (.lenS (.var 1)) (.og (.lenS (.var 1)) (.og (.ibin .neq (.var 1) (.var 0)) (.apick (.var 0) (.ret (.lit (.val (.bool false)))) (.lp [0, 1, 5] (.og (.lenS (.var 0)) (.og (.ibin .lss (.var 3) (.var 0)) (.apick (.var 0) (.ord [0, 1, 2, 3, 4, 5, 6, 7, 8] [0, 0, 3, 7, 0, 0, 48, 112, 255] (.og (.idx 1 (.var 2) (.var 4)) (.og (.lod (.var 0)) (.og (.idx 1 (.var 5) (.var 6)) (.og (.lod (.var 0)) (.og (.ibin .neq (.var 2) (.var 0)) (.apick (.var 0) (.ret (.lit (.val (.bool false)))) (.og (.ibin .add (.var 9) (.lit (iv 1))) (.jump 0 [(.var 8), (.var 9), (.var 0)]))))))))) (.ret (.lit (.val (.bool true))))))) [(.var 4), (.var 3), (.lit (iv 0))]))))
theorem x10_ok : okF TT Tryz.f10 2 x10 = true := by decide +kernel
theorem s_laws_lwNums_ok {a0 a1 : AV} {σ : AH} {R : AEnd → AH → Prop} (h : s_laws_lwNums a0 a1 σ R) : acall TP fn_laws_lwNums [a0, a1] σ R :=
 acall_okF (ρ := [a1, a0]) TT_ok Tryz.func10 rfl x10 x10_ok rfl h
def s_impl_OpFault (a0 : AV) (σ : AH) (R : AEnd → AH → Prop) : Prop :=
 abox a0 σ fun v1 σ =>
 frz v1 σ fun f1 σ =>
 og (fldA 1 f1) fun v5 =>
 og (lod v5 σ) fun v6 =>
 og (fldA 2 f1) fun v7 =>
 og (lod v7 σ) fun v8 =>
 og (fldA 3 f1) fun v9 =>
 og (lod v9 σ) fun v10 =>
 og (fldA 4 f1) fun v11 =>
 og (lod v11 σ) fun v12 =>
 bsl 1 [(.val (.int .i64 0))] 4 [(0, v6), (1, v8), (2, v10), (3, v12)] σ fun v13 σ =>
 frz v13 σ fun f13 σ =>
 jn (X := Tup [1, 3, 14]) (fun x1 σ =>
 apick x1.2.2.1 (
 aret (.val (.int .i64 1)) σ R) (
 acall TP fn_slices_ContainsFunc [x1.2.1, (.clo (.func fn_impl_OpFault_2) [] [])] σ (onr (fun v53 σ =>
 og (gval v53 false false (fldA 0 x1.1)) fun v55 =>
 og (gval v53 false false (lod v55 σ)) fun v56 =>
 og (gval v53 false false (ibin .eql v56 (.val (.int .i64 10)))) fun v57 =>
 og (gval v53 false false (some v57)) fun v58 =>
 og (gval v58 false true (fldA 0 x1.1)) fun v59 =>
 og (gval v58 false true (lod v59 σ)) fun v60 =>
 og (gval v58 false true (ibin .eql v60 (.val (.int .i64 11)))) fun v61 =>
 og (gval v53 false false (pickV v58 (.val (.bool true)) v61)) fun v62 =>
 og (gval v53 false false (some v62)) fun v63 =>
 og (gval v63 true true (fldA 1 x1.1)) fun v64 =>
 og (gval v63 true true (lod v64 σ)) fun v65 =>
 og (gval v63 true true (ibin .gtr v65 (.val (.int .i64 3)))) fun v66 =>
 og (gval v53 false false (pickV v63 v66 (.val (.bool false)))) fun v67 =>
 og (pickV v53 (.val (.bool true)) v67) fun v68 =>
 apick v68 (
 aret (.val (.int .i64 3)) σ R) (
 og (fldA 0 x1.1) fun v70 =>
 og (lod v70 σ) fun v71 =>
 acall TP fn_impl_opNamed [v71] σ (onr (fun v72 σ =>
 apick v72 (
 og (fldA 5 x1.1) fun v73 =>
 og (lod v73 σ) fun v74 =>
 acall TP fn_impl_SymFault [v74] σ (onr (fun v75 σ =>
 aret v75 σ R) (fun v σ => apan v σ R))) (
 og (fldA 0 x1.1) fun v77 =>
 og (lod v77 σ) fun v78 =>
 acall TP fn_impl_opData [v78] σ (onr (fun v79 σ =>
 apick v79 (
 og (fldA 6 x1.1) fun v80 =>
 og (lod v80 σ) fun v81 =>
 acall TP fn_impl_DataFault [v81] σ (onr (fun v82 σ =>
 aret v82 σ R) (fun v σ => apan v σ R))) (
 aret (.val (.int .i64 0)) σ R)) (fun v σ => apan v σ R)))) (fun v σ => apan v σ R)))) (fun v σ => apan v σ R)))) fun k1 =>
 og (fldA 0 f1) fun v15 =>
 og (lod v15 σ) fun v16 =>
 acall TP fn_impl_in [v16, (.val (.int .i64 1)), (.val (.int .i64 16))] σ (onr (fun v17 σ =>
 og (aun .not v17) fun v18 =>
 og (gval v18 false false (some f13)) fun v20 =>
 og (gval v18 false false (fldA 0 f1)) fun v21 =>
 og (gval v18 false false (lod v21 σ)) fun v22 =>
 gpick v18 (
 k1 (f1, f13, (.val (.bool true)), ()) σ) (
 acall TP fn_impl_opNums [v22] σ (onr (fun v23 σ =>
 og (slc 1 v20 (some v23) none none σ) fun v24 =>
 acall TP fn_slices_ContainsFunc [v24, (.clo (.func fn_impl_OpFault_1) [] [])] σ (onr (fun v26 σ =>
 og (gval v26 false false (fldA 5 f1)) fun v29 =>
 og (gval v26 false false (lod v29 σ)) fun v30 =>
 og (gval v26 false false (sbin .neq v30 (.val (.string ⟨#[]⟩)))) fun v31 =>
 og (gval v26 false false (some v31)) fun v32 =>
 og (gval v32 true true (fldA 0 f1)) fun v33 =>
 og (gval v32 true true (lod v33 σ)) fun v34 =>
 gpick v32 (
 acall TP fn_impl_opNamed [v34] σ (onr (fun v35 σ =>
 og (aun .not v35) fun v36 =>
 og (gval v26 false false (some v36)) fun v37 =>
 og (pickV v26 (.val (.bool true)) v37) fun v38 =>
 og (gval v38 false false (fldA 6 f1)) fun v40 =>
 og (gval v38 false false (lod v40 σ)) fun v41 =>
 og (gval v38 false false (lenS v41)) fun v42 =>
 og (gval v38 false false (ibin .gtr v42 (.val (.int .i64 0)))) fun v43 =>
 og (gval v38 false false (some v43)) fun v44 =>
 og (gval v44 true true (fldA 0 f1)) fun v45 =>
 og (gval v44 true true (lod v45 σ)) fun v46 =>
 gpick v44 (
 acall TP fn_impl_opData [v46] σ (onr (fun v47 σ =>
 og (aun .not v47) fun v48 =>
 og (gval v38 false false (some v48)) fun v49 =>
 og (pickV v38 (.val (.bool true)) v49) fun v50 =>
 k1 (f1, f13, v50, ()) σ) (fun v σ => apan v σ R))) (
 og (gval v38 false false (some (.val (.bool false)))) fun v49 =>
 og (pickV v38 (.val (.bool true)) v49) fun v50 =>
 k1 (f1, f13, v50, ()) σ) (
 og (gval v38 false false (pickV (.tup []) (.tup []) (.val (.bool false)))) fun v49 =>
 og (pickV v38 (.val (.bool true)) v49) fun v50 =>
 k1 (f1, f13, v50, ()) σ)) (fun v σ => apan v σ R))) (
 og (gval v26 false false (some (.val (.bool false)))) fun v37 =>
 og (pickV v26 (.val (.bool true)) v37) fun v38 =>
 og (gval v38 false false (fldA 6 f1)) fun v40 =>
 og (gval v38 false false (lod v40 σ)) fun v41 =>
 og (gval v38 false false (lenS v41)) fun v42 =>
 og (gval v38 false false (ibin .gtr v42 (.val (.int .i64 0)))) fun v43 =>
 og (gval v38 false false (some v43)) fun v44 =>
 og (gval v44 true true (fldA 0 f1)) fun v45 =>
 og (gval v44 true true (lod v45 σ)) fun v46 =>
 gpick v44 (
 acall TP fn_impl_opData [v46] σ (onr (fun v47 σ =>
 og (aun .not v47) fun v48 =>
 og (gval v38 false false (some v48)) fun v49 =>
 og (pickV v38 (.val (.bool true)) v49) fun v50 =>
 k1 (f1, f13, v50, ()) σ) (fun v σ => apan v σ R))) (
 og (gval v38 false false (some (.val (.bool false)))) fun v49 =>
 og (pickV v38 (.val (.bool true)) v49) fun v50 =>
 k1 (f1, f13, v50, ()) σ) (
 og (gval v38 false false (pickV (.tup []) (.tup []) (.val (.bool false)))) fun v49 =>
 og (pickV v38 (.val (.bool true)) v49) fun v50 =>
 k1 (f1, f13, v50, ()) σ)) (
 og (gval v26 false false (pickV (.tup []) (.tup []) (.val (.bool false)))) fun v37 =>
 og (pickV v26 (.val (.bool true)) v37) fun v38 =>
 og (gval v38 false false (fldA 6 f1)) fun v40 =>
 og (gval v38 false false (lod v40 σ)) fun v41 =>
 og (gval v38 false false (lenS v41)) fun v42 =>
 og (gval v38 false false (ibin .gtr v42 (.val (.int .i64 0)))) fun v43 =>
 og (gval v38 false false (some v43)) fun v44 =>
 og (gval v44 true true (fldA 0 f1)) fun v45 =>
 og (gval v44 true true (lod v45 σ)) fun v46 =>
 gpick v44 (
 acall TP fn_impl_opData [v46] σ (onr (fun v47 σ =>
 og (aun .not v47) fun v48 =>
 og (gval v38 false false (some v48)) fun v49 =>
 og (pickV v38 (.val (.bool true)) v49) fun v50 =>
 k1 (f1, f13, v50, ()) σ) (fun v σ => apan v σ R))) (
 og (gval v38 false false (some (.val (.bool false)))) fun v49 =>
 og (pickV v38 (.val (.bool true)) v49) fun v50 =>
 k1 (f1, f13, v50, ()) σ) (
 og (gval v38 false false (pickV (.tup []) (.tup []) (.val (.bool false)))) fun v49 =>
 og (pickV v38 (.val (.bool true)) v49) fun v50 =>
 k1 (f1, f13, v50, ()) σ))) (fun v σ => apan v σ R))) (fun v σ => apan v σ R))) (False)) (fun v σ => apan v σ R))
def x14 : Sx := .box (.var 0) (.frz 1 (.var 0) (.og (.fldA 1 (.var 0)) (.og (.lod (.var 0)) (.og (.fldA 2 (.var 2)) (.og (.lod (.var 0)) (.og (.fldA 3 (.var 4)) (.og (.lod (.var 0)) (.og (.fldA 4 (.var 6)) (.og (.lod (.var 0)) (.bsl 1 [(iv 0)] 4 [(0, (.var 6)), (1, (.var 4)), (2, (.var 2)), (3, (.var 0))] (.frz 11 (.var 0) (.jn 121 [1, 3, 14] (.apick (.var 2) (.ret (.lit (iv 1))) (.call 28 [(.var 1), (.lit (.clo (.func fn_impl_OpFault_2) [] []))] (.gog (.var 0) false false (.fldA 0 (.var 1)) (.gog (.var 1) false false (.lod (.var 0)) (.gog (.var 2) false false (.ibin .eql (.var 0) (.lit (iv 10))) (.gog (.var 3) false false (.ret (.var 0)) (.gog (.var 0) false true (.fldA 0 (.var 5)) (.gog (.var 1) false true (.lod (.var 0)) (.gog (.var 2) false true (.ibin .eql (.var 0) (.lit (iv 11))) (.gog (.var 7) false false (.pickV (.var 3) (.lit (.val (.bool true))) (.var 0)) (.gog (.var 8) false false (.ret (.var 0)) (.gog (.var 0) true true (.fldA 1 (.var 10)) (.gog (.var 1) true true (.lod (.var 0)) (.gog (.var 2) true true (.ibin .gtr (.var 0) (.lit (iv 3))) (.gog (.var 12) false false (.pickV (.var 3) (.var 0) (.lit (.val (.bool false)))) (.og (.pickV (.var 13) (.lit (.val (.bool true))) (.var 0)) (.apick (.var 0) (.ret (.lit (iv 3))) (.og (.fldA 0 (.var 15)) (.og (.lod (.var 0)) (.call 30 [(.var 0)] (.apick (.var 0) (.og (.fldA 5 (.var 18)) (.og (.lod (.var 0)) (.call 33 [(.var 0)] (.ret (.var 0))))) (.og (.fldA 0 (.var 18)) (.og (.lod (.var 0)) (.call 31 [(.var 0)] (.apick (.var 0) (.og (.fldA 6 (.var 21)) (.og (.lod (.var 0)) (.call 34 [(.var 0)] (.ret (.var 0))))) (.ret (.lit (iv 0)))))))))))))))))))))))))))) (.og (.fldA 0 (.var 10)) (.og (.lod (.var 0)) (.call 23 [(.var 0), (.lit (iv 1)), (.lit (iv 16))] (.og (.aun .not (.var 0)) (.gog (.var 0) false false (.ret (.var 4)) (.gog (.var 1) false false (.fldA 0 (.var 15)) (.gog (.var 2) false false (.lod (.var 0)) (.gpick (.var 3) (.jump 0 [(.var 17), (.var 7), (.lit (.val (.bool true)))]) (.call 29 [(.var 0)] (.og (.slc 1 (.var 3) (some (.var 0)) none none) (.call 28 [(.var 0), (.lit (.clo (.func fn_impl_OpFault_1) [] []))] (.gog (.var 0) false false (.fldA 5 (.var 20)) (.gog (.var 1) false false (.lod (.var 0)) (.gog (.var 2) false false (.sbin .neq (.var 0) (.lit (.val (.string ⟨#[]⟩)))) (.gog (.var 3) false false (.ret (.var 0)) (.gog (.var 0) true true (.fldA 0 (.var 24)) (.gog (.var 1) true true (.lod (.var 0)) (.gpick (.var 2) (.call 30 [(.var 0)] (.og (.aun .not (.var 0)) (.gog (.var 8) false false (.ret (.var 0)) (.og (.pickV (.var 9) (.lit (.val (.bool true))) (.var 0)) (.gog (.var 0) false false (.fldA 6 (.var 30)) (.gog (.var 1) false false (.lod (.var 0)) (.gog (.var 2) false false (.lenS (.var 0)) (.gog (.var 3) false false (.ibin .gtr (.var 0) (.lit (iv 0))) (.gog (.var 4) false false (.ret (.var 0)) (.gog (.var 0) true true (.fldA 0 (.var 35)) (.gog (.var 1) true true (.lod (.var 0)) (.gpick (.var 2) (.call 31 [(.var 0)] (.og (.aun .not (.var 0)) (.gog (.var 9) false false (.ret (.var 0)) (.og (.pickV (.var 10) (.lit (.val (.bool true))) (.var 0)) (.jump 0 [(.var 41), (.var 31), (.var 0)]))))) (.gog (.var 7) false false (.ret (.lit (.val (.bool false)))) (.og (.pickV (.var 8) (.lit (.val (.bool true))) (.var 0)) (.jump 0 [(.var 39), (.var 29), (.var 0)]))) (.gog (.var 7) false false (.pickV (.lit (.tup [])) (.lit (.tup [])) (.lit (.val (.bool false)))) (.og (.pickV (.var 8) (.lit (.val (.bool true))) (.var 0)) (.jump 0 [(.var 39), (.var 29), (.var 0)]))))))))))))))) (.gog (.var 6) false false (.ret (.lit (.val (.bool false)))) (.og (.pickV (.var 7) (.lit (.val (.bool true))) (.var 0)) (.gog (.var 0) false false (.fldA 6 (.var 28)) (.gog (.var 1) false false (.lod (.var 0)) (.gog (.var 2) false false (.lenS (.var 0)) (.gog (.var 3) false false (.ibin .gtr (.var 0) (.lit (iv 0))) (.gog (.var 4) false false (.ret (.var 0)) (.gog (.var 0) true true (.fldA 0 (.var 33)) (.gog (.var 1) true true (.lod (.var 0)) (.gpick (.var 2) (.call 31 [(.var 0)] (.og (.aun .not (.var 0)) (.gog (.var 9) false false (.ret (.var 0)) (.og (.pickV (.var 10) (.lit (.val (.bool true))) (.var 0)) (.jump 0 [(.var 39), (.var 29), (.var 0)]))))) (.gog (.var 7) false false (.ret (.lit (.val (.bool false)))) (.og (.pickV (.var 8) (.lit (.val (.bool true))) (.var 0)) (.jump 0 [(.var 37), (.var 27), (.var 0)]))) (.gog (.var 7) false false (.pickV (.lit (.tup [])) (.lit (.tup [])) (.lit (.val (.bool false)))) (.og (.pickV (.var 8) (.lit (.val (.bool true))) (.var 0)) (.jump 0 [(.var 37), (.var 27), (.var 0)]))))))))))))) (.gog (.var 6) false false (.pickV (.lit (.tup [])) (.lit (.tup [])) (.lit (.val (.bool false)))) (.og (.pickV (.var 7) (.lit (.val (.bool true))) (.var 0)) (.gog (.var 0) false false (.fldA 6 (.var 28)) (.gog (.var 1) false false (.lod (.var 0)) (.gog (.var 2) false false (.lenS (.var 0)) (.gog (.var 3) false false (.ibin .gtr (.var 0) (.lit (iv 0))) (.gog (.var 4) false false (.ret (.var 0)) (.gog (.var 0) true true (.fldA 0 (.var 33)) (.gog (.var 1) true true (.lod (.var 0)) (.gpick (.var 2) (.call 31 [(.var 0)] (.og (.aun .not (.var 0)) (.gog (.var 9) false false (.ret (.var 0)) (.og (.pickV (.var 10) (.lit (.val (.bool true))) (.var 0)) (.jump 0 [(.var 39), (.var 29), (.var 0)]))))) (.gog (.var 7) false false (.ret (.lit (.val (.bool false)))) (.og (.pickV (.var 8) (.lit (.val (.bool true))) (.var 0)) (.jump 0 [(.var 37), (.var 27), (.var 0)]))) (.gog (.var 7) false false (.pickV (.lit (.tup [])) (.lit (.tup [])) (.lit (.val (.bool false)))) (.og (.pickV (.var 8) (.lit (.val (.bool true))) (.var 0)) (.jump 0 [(.var 37), (.var 27), (.var 0)]))))))))))))))))))))))) (.no)))))))))))))))))))))
theorem x14_ok : okF TT Tryz.f14 1 x14 = true := by decide +kernel
theorem s_impl_OpFault_ok {a0 : AV} {σ : AH} {R : AEnd → AH → Prop} (h : s_impl_OpFault a0 σ R) : acall TP fn_impl_OpFault [a0] σ R :=
 acall_okF (ρ := [a0]) TT_ok Tryz.func14 rfl x14 x14_ok rfl h
def s_spec_l1Source (a0 : AV) (σ : AH) (R : AEnd → AH → Prop) : Prop :=
 og (bld [(.val (.slice none 0 0)), (.val (.int .i64 0))] [(0, 1), (1, 1)] [(0, a0)]) fun v4 =>
 abox v4 σ fun v5 σ =>
 aret v5 σ R
def x15 : Sx := .og (.bld [(.val (.slice none 0 0)), (iv 0)] [(0, 1), (1, 1)] [(0, (.var 0))]) (.box (.var 0) (.ret (.var 0)))
theorem x15_ok : okF TT Tryz.f15 1 x15 = true := by decide +kernel
theorem s_spec_l1Source_ok {a0 : AV} {σ : AH} {R : AEnd → AH → Prop} (h : s_spec_l1Source a0 σ R) : acall TP fn_spec_l1Source [a0] σ R :=
 acall_okF (ρ := [a0]) TT_ok Tryz.func15 rfl x15 x15_ok rfl h
def s_spec_l9Bent (a0 : AV) (σ : AH) (R : AEnd → AH → Prop) : Prop :=
 acall TP fn_spec_l9Draw [a0] σ (onr (fun v8 σ =>
 og (lenS v8) fun v11 =>
 acall TP fn_spec_l1Next [a0, v11] σ (onr (fun v12 σ =>
 og (idx 2 v8 v12 σ) fun v16 =>
 og (fldA 1 v16) fun v17 =>
 og (lod v17 σ) fun v18 =>
 og (lenS v18) fun v19 =>
 acall TP fn_spec_l1Next [a0, v19] σ (onr (fun v20 σ =>
 og (idx 2 v8 v12 σ) fun v23 =>
 og (fldA 1 v23) fun v24 =>
 og (lod v24 σ) fun v25 =>
 og (idx 7 v25 v20 σ) fun v27 =>
 jn (X := Tup [3]) (fun x1 σ =>
 aret x1.1 σ R) fun k1 =>
 acall TP fn_spec_l1Next [a0, (.val (.int .i64 14))] σ (onr (fun v29 σ =>
 og (ibin .eql v29 (.val (.int .i64 0))) fun v31 =>
 apick v31 (
 bsl 1 [(.val (.int .i64 0))] 6 [(0, (.val (.int .i64 0))), (1, (.val (.int .i64 17))), (2, (.val (.int .i64 5))), (3, (.val (.int .i64 7))), (4, (.val (.int .i64 12))), (5, (.val (.int .i64 16)))] σ fun v34 σ =>
 acall TP fn_spec_l1Pick [a0, v34] σ (onr (fun v35 σ =>
 og (anil v27) fun v36 =>
 og (fldA 0 v36) fun v37 =>
 sto 1 v37 v35 σ fun σ =>
 k1 (v8, ()) σ) (fun v σ => apan v σ R))) (
 og (ibin .eql v29 (.val (.int .i64 1))) fun v39 =>
 apick v39 (
 bsl 1 [(.val (.int .i64 0))] 5 [(0, (.val (.int .i64 (-1)))), (1, (.val (.int .i64 0))), (2, (.val (.int .i64 1))), (3, (.val (.int .i64 9))), (4, (.val (.int .i64 1000)))] σ fun v42 σ =>
 acall TP fn_spec_l1Pick [a0, v42] σ (onr (fun v43 σ =>
 og (anil v27) fun v44 =>
 og (fldA 1 v44) fun v45 =>
 sto 1 v45 v43 σ fun σ =>
 k1 (v8, ()) σ) (fun v σ => apan v σ R))) (
 og (ibin .eql v29 (.val (.int .i64 2))) fun v47 =>
 apick v47 (
 bsl 1 [(.val (.int .i64 0))] 3 [(0, (.val (.int .i64 (-1)))), (1, (.val (.int .i64 1))), (2, (.val (.int .i64 4)))] σ fun v50 σ =>
 acall TP fn_spec_l1Pick [a0, v50] σ (onr (fun v51 σ =>
 og (anil v27) fun v52 =>
 og (fldA 2 v52) fun v53 =>
 sto 1 v53 v51 σ fun σ =>
 k1 (v8, ()) σ) (fun v σ => apan v σ R))) (
 og (ibin .eql v29 (.val (.int .i64 3))) fun v55 =>
 apick v55 (
 bsl 1 [(.val (.string ⟨#[]⟩))] 3 [(0, (.val (.string ⟨#[]⟩))), (1, (.val (.string ⟨#[65]⟩))), (2, (.val (.string ⟨#[103]⟩)))] σ fun v57 σ =>
 acall TP fn_spec_l1Next [a0, (.val (.int .i64 3))] σ (onr (fun v59 σ =>
 og (idx 1 v57 v59 σ) fun v60 =>
 og (lod v60 σ) fun v61 =>
 og (anil v27) fun v62 =>
 og (fldA 5 v62) fun v63 =>
 sto 1 v63 v61 σ fun σ =>
 k1 (v8, ()) σ) (fun v σ => apan v σ R))) (
 og (ibin .eql v29 (.val (.int .i64 4))) fun v65 =>
 apick v65 (
 acall TP fn_spec_l3Bent [a0] σ (onr (fun v68 σ =>
 og (anil v27) fun v69 =>
 og (fldA 6 v69) fun v70 =>
 sto 1 v70 v68 σ fun σ =>
 k1 (v8, ()) σ) (fun v σ => apan v σ R))) (
 og (ibin .eql v29 (.val (.int .i64 5))) fun v72 =>
 apick v72 (
 bsl 1 [(.val (.int .i64 0))] 3 [(0, (.val (.int .i64 1))), (1, (.val (.int .i64 4))), (2, (.val (.int .i64 (-1))))] σ fun v76 σ =>
 acall TP fn_spec_l1Pick [a0, v76] σ (onr (fun v77 σ =>
 og (idx 2 v8 v12 σ) fun v78 =>
 og (fldA 0 v78) fun v79 =>
 sto 1 v79 v77 σ fun σ =>
 k1 (v8, ()) σ) (fun v σ => apan v σ R))) (
 og (ibin .eql v29 (.val (.int .i64 6))) fun v81 =>
 apick v81 (
 og (idx 2 v8 v12 σ) fun v86 =>
 og (fldA 1 v86) fun v87 =>
 og (lod v87 σ) fun v88 =>
 og (slc 7 v88 none (some v20) none σ) fun v90 =>
 og (idx 2 v8 v12 σ) fun v91 =>
 og (fldA 1 v91) fun v92 =>
 sto 1 v92 v90 σ fun σ =>
 k1 (v8, ()) σ) (
 k1 (v8, ()) σ)))))))) (fun v σ => apan v σ R))) (fun v σ => apan v σ R))) (fun v σ => apan v σ R))) (fun v σ => apan v σ R))
def x16 : Sx := .call 35 [(.var 0)] (.og (.lenS (.var 0)) (.call 17 [(.var 2), (.var 0)] (.og (.idx 2 (.var 2) (.var 0)) (.og (.fldA 1 (.var 0)) (.og (.lod (.var 0)) (.og (.lenS (.var 0)) (.call 17 [(.var 7), (.var 0)] (.og (.idx 2 (.var 7) (.var 5)) (.og (.fldA 1 (.var 0)) (.og (.lod (.var 0)) (.og (.idx 7 (.var 0) (.var 3)) (.jn 127 [3] (.ret (.var 0)) (.call 17 [(.var 12), (.lit (iv 14))] (.og (.ibin .eql (.var 0) (.lit (iv 0))) (.apick (.var 0) (.bsl 1 [(iv 0)] 6 [(0, (.lit (iv 0))), (1, (.lit (iv 17))), (2, (.lit (iv 5))), (3, (.lit (iv 7))), (4, (.lit (iv 12))), (5, (.lit (iv 16)))] (.call 36 [(.var 15), (.var 0)] (.og (.anil (.var 4)) (.og (.fldA 0 (.var 0)) (.sto 1 (.var 0) (.var 2) (.jump 0 [(.var 17)])))))) (.og (.ibin .eql (.var 1) (.lit (iv 1))) (.apick (.var 0) (.bsl 1 [(iv 0)] 5 [(0, (.lit (iv (-1)))), (1, (.lit (iv 0))), (2, (.lit (iv 1))), (3, (.lit (iv 9))), (4, (.lit (iv 1000)))] (.call 36 [(.var 16), (.var 0)] (.og (.anil (.var 5)) (.og (.fldA 1 (.var 0)) (.sto 1 (.var 0) (.var 2) (.jump 0 [(.var 18)])))))) (.og (.ibin .eql (.var 2) (.lit (iv 2))) (.apick (.var 0) (.bsl 1 [(iv 0)] 3 [(0, (.lit (iv (-1)))), (1, (.lit (iv 1))), (2, (.lit (iv 4)))] (.call 36 [(.var 17), (.var 0)] (.og (.anil (.var 6)) (.og (.fldA 2 (.var 0)) (.sto 1 (.var 0) (.var 2) (.jump 0 [(.var 19)])))))) (.og (.ibin .eql (.var 3) (.lit (iv 3))) (.apick (.var 0) (.bsl 1 [(.val (.string ⟨#[]⟩))] 3 [(0, (.lit (.val (.string ⟨#[]⟩)))), (1, (.lit (.val (.string ⟨#[65]⟩)))), (2, (.lit (.val (.string ⟨#[103]⟩))))] (.call 17 [(.var 18), (.lit (iv 3))] (.og (.idx 1 (.var 1) (.var 0)) (.og (.lod (.var 0)) (.og (.anil (.var 9)) (.og (.fldA 5 (.var 0)) (.sto 1 (.var 0) (.var 2) (.jump 0 [(.var 22)])))))))) (.og (.ibin .eql (.var 4) (.lit (iv 4))) (.apick (.var 0) (.call 37 [(.var 18)] (.og (.anil (.var 7)) (.og (.fldA 6 (.var 0)) (.sto 1 (.var 0) (.var 2) (.jump 0 [(.var 20)]))))) (.og (.ibin .eql (.var 5) (.lit (iv 5))) (.apick (.var 0) (.bsl 1 [(iv 0)] 3 [(0, (.lit (iv 1))), (1, (.lit (iv 4))), (2, (.lit (iv (-1))))] (.call 36 [(.var 20), (.var 0)] (.og (.idx 2 (.var 20) (.var 18)) (.og (.fldA 0 (.var 0)) (.sto 1 (.var 0) (.var 2) (.jump 0 [(.var 22)])))))) (.og (.ibin .eql (.var 6) (.lit (iv 6))) (.apick (.var 0) (.og (.idx 2 (.var 19) (.var 17)) (.og (.fldA 1 (.var 0)) (.og (.lod (.var 0)) (.og (.slc 7 (.var 0) none (some (.var 15)) none) (.og (.idx 2 (.var 23) (.var 21)) (.og (.fldA 1 (.var 0)) (.sto 1 (.var 0) (.var 2) (.jump 0 [(.var 25)])))))))) (.jump 0 [(.var 19)]))))))))))))))))))))))))))))
theorem x16_ok : okF TT Tryz.f16 1 x16 = true := by decide +kernel
theorem s_spec_l9Bent_ok {a0 : AV} {σ : AH} {R : AEnd → AH → Prop} (h : s_spec_l9Bent a0 σ R) : acall TP fn_spec_l9Bent [a0] σ R :=
 acall_okF (ρ := [a0]) TT_ok Tryz.func16 rfl x16 x16_ok rfl h
def s_spec_l1Next (a0 a1 : AV) (σ : AH) (R : AEnd → AH → Prop) : Prop :=
 og (anil a0) fun v10 =>
 og (fldA 1 v10) fun v11 =>
 og (lod v11 σ) fun v12 =>
 og (ibin .add v12 (.val (.int .i64 1))) fun v13 =>
 og (anil a0) fun v14 =>
 og (fldA 1 v14) fun v15 =>
 sto 1 v15 v13 σ fun σ =>
 og (ibin .lss a1 (.val (.int .i64 1))) fun v17 =>
 apick v17 (
 aret (.val (.int .i64 0)) σ R) (
 og (anil a0) fun v19 =>
 og (fldA 1 v19) fun v20 =>
 og (lod v20 σ) fun v21 =>
 og (ibin .sub v21 (.val (.int .i64 1))) fun v22 =>
 og (anil a0) fun v24 =>
 og (fldA 0 v24) fun v25 =>
 og (lod v25 σ) fun v26 =>
 og (lenS v26) fun v27 =>
 og (ibin .eql v27 (.val (.int .i64 0))) fun v29 =>
 apick v29 (
 og (ibin .mul v22 (.val (.int .i64 7))) fun v31 =>
 og (ibin .rem v31 a1) fun v33 =>
 aret v33 σ R) (
 og (anil a0) fun v35 =>
 og (fldA 0 v35) fun v36 =>
 og (lod v36 σ) fun v37 =>
 og (ibin .rem v22 v27) fun v40 =>
 og (idx 1 v37 v40 σ) fun v41 =>
 og (lod v41 σ) fun v42 =>
 og (convI .i64 v42) fun v43 =>
 og (ibin .quo v22 v27) fun v46 =>
 og (ibin .mul v46 (.val (.int .i64 37))) fun v47 =>
 og (ibin .add v43 v47) fun v48 =>
 jn (X := Tup [1, 7]) (fun x1 σ =>
 og (ibin .rem x1.2.1 x1.1) fun v70 =>
 aret v70 σ R) fun k1 =>
 og (ibin .gtr a1 (.val (.int .i64 200))) fun v50 =>
 apick v50 (
 og (ibin .mul v48 (.val (.int .i64 251))) fun v52 =>
 og (anil a0) fun v54 =>
 og (fldA 0 v54) fun v55 =>
 og (lod v55 σ) fun v56 =>
 og (ibin .add v22 (.val (.int .i64 1))) fun v58 =>
 og (ibin .rem v58 v27) fun v60 =>
 og (idx 1 v56 v60 σ) fun v61 =>
 og (lod v61 σ) fun v62 =>
 og (convI .i64 v62) fun v63 =>
 og (ibin .mul v63 (.val (.int .i64 13))) fun v64 =>
 og (ibin .add v52 v64) fun v65 =>
 og (ibin .add v65 v22) fun v67 =>
 k1 (a1, v67, ()) σ) (
 k1 (a1, v48, ()) σ)))
def x17 : Sx := .og (.anil (.var 1)) (.og (.fldA 1 (.var 0)) (.og (.lod (.var 0)) (.og (.ibin .add (.var 0) (.lit (iv 1))) (.og (.anil (.var 5)) (.og (.fldA 1 (.var 0)) (.sto 1 (.var 0) (.var 2) (.og (.ibin .lss (.var 6) (.lit (iv 1))) (.apick (.var 0) (.ret (.lit (iv 0))) (.og (.anil (.var 8)) (.og (.fldA 1 (.var 0)) (.og (.lod (.var 0)) (.og (.ibin .sub (.var 0) (.lit (iv 1))) (.og (.anil (.var 12)) (.og (.fldA 0 (.var 0)) (.og (.lod (.var 0)) (.og (.lenS (.var 0)) (.og (.ibin .eql (.var 0) (.lit (iv 0))) (.apick (.var 0) (.og (.ibin .mul (.var 5) (.lit (iv 7))) (.og (.ibin .rem (.var 0) (.var 17)) (.ret (.var 0)))) (.ord [0, 1, 2, 3, 4, 5, 6, 7, 8, 9, 10, 11, 12, 13, 14, 15] [0, 1, 3, 7, 0, 0, 48, 127, 255, 511, 0, 0, 3072, 7168, 16383, 32767] (.og (.anil (.var 17)) (.og (.fldA 0 (.var 0)) (.og (.lod (.var 0)) (.og (.ibin .rem (.var 8) (.var 4)) (.og (.idx 1 (.var 1) (.var 0)) (.og (.lod (.var 0)) (.og (.conv .i64 (.var 0)) (.og (.ibin .quo (.var 12) (.var 8)) (.og (.ibin .mul (.var 0) (.lit (iv 37))) (.og (.ibin .add (.var 2) (.var 0)) (.jn 511 [1, 7] (.og (.ibin .rem (.var 1) (.var 0)) (.ret (.var 0))) (.og (.ibin .gtr (.var 26) (.lit (iv 200))) (.apick (.var 0) (.ord [0, 1, 2, 3, 4, 5, 6, 7, 8, 9, 10, 11, 12, 13, 14, 15, 16, 17] [0, 1, 0, 4, 12, 28, 0, 64, 0, 448, 1020, 2044, 4092, 8188, 16383, 0, 65535, 131071] (.og (.ibin .mul (.var 1) (.lit (iv 251))) (.og (.anil (.var 29)) (.og (.fldA 0 (.var 0)) (.og (.lod (.var 0)) (.og (.ibin .add (.var 20) (.lit (iv 1))) (.og (.ibin .rem (.var 0) (.var 17)) (.og (.idx 1 (.var 2) (.var 0)) (.og (.lod (.var 0)) (.og (.conv .i64 (.var 0)) (.og (.ibin .mul (.var 0) (.lit (iv 13))) (.og (.ibin .add (.var 9) (.var 0)) (.og (.ibin .add (.var 0) (.var 27)) (.jump 0 [(.var 39), (.var 0)])))))))))))))) (.jump 0 [(.var 27), (.var 1)])))))))))))))))))))))))))))))))))
theorem x17_ok : okF TT Tryz.f17 2 x17 = true := by decide +kernel
theorem s_spec_l1Next_ok {a0 a1 : AV} {σ : AH} {R : AEnd → AH → Prop} (h : s_spec_l1Next a0 a1 σ R) : acall TP fn_spec_l1Next [a0, a1] σ R :=
 acall_okF (ρ := [a1, a0]) TT_ok Tryz.func17 rfl x17 x17_ok rfl h
def s_impl_blockFault (a0 : AV) (σ : AH) (R : AEnd → AH → Prop) : Prop :=
 abox a0 σ fun v1 σ =>
 frz v1 σ fun f1 σ =>
 og (fldA 0 f1) fun v7 =>
 og (lod v7 σ) fun v8 =>
 acall TP fn_impl_in [v8, (.val (.int .i64 0)), (.val (.int .i64 3))] σ (onr (fun v9 σ =>
 og (aun .not v9) fun v10 =>
 apick v10 (
 aret (.val (.int .i64 3)) σ R) (
 og (fldA 1 f1) fun v12 =>
 og (lod v12 σ) fun v13 =>
 og (lenS v13) fun v14 =>
 og (ibin .gtr v14 (.val (.int .i64 200))) fun v15 =>
 apick v15 (
 aret (.val (.int .i64 2)) σ R) (
 og (fldA 1 f1) fun v16 =>
 og (lod v16 σ) fun v17 =>
 og (lenS v17) fun v18 =>
 lp (X := Tup [17, 18, 19]) (fun R1 y1 σ =>
 og (ibin .lss y1.2.2.1 y1.2.1) fun v20 =>
 apick v20 (
 og (idx 7 y1.1 y1.2.2.1 σ) fun v21 =>
 og (lodA 7 v21 σ) fun v22 =>
 new [(.val (.int .i64 0)), (.val (.int .i64 0)), (.val (.int .i64 0)), (.val (.int .i64 0)), (.val (.int .i64 0)), (.val (.string ⟨#[]⟩)), (.val (.slice none 0 0))] σ fun v4 σ =>
 sto 7 v4 v22 σ fun σ =>
 frz v4 σ fun f4 σ =>
 og (lodA 7 f4 σ) fun v23 =>
 acall TP fn_impl_OpFault [v23] σ (onr (fun v24 σ =>
 og (ibin .neq v24 (.val (.int .i64 0))) fun v26 =>
 apick v26 (
 aret v24 σ R) (
 og (ibin .add y1.2.2.1 (.val (.int .i64 1))) fun v28 =>
 R1 (y1.1, y1.2.1, v28, ()) σ)) (fun v σ => apan v σ R))) (
 aret (.val (.int .i64 0)) σ R)) (v17, v18, (.val (.int .i64 0)), ()) σ))) (fun v σ => apan v σ R))
def x18 : Sx := .box (.var 0) (.frz 1 (.var 0) (.og (.fldA 0 (.var 0)) (.og (.lod (.var 0)) (.call 23 [(.var 0), (.lit (iv 0)), (.lit (iv 3))] (.og (.aun .not (.var 0)) (.apick (.var 0) (.ret (.lit (iv 3))) (.og (.fldA 1 (.var 4)) (.og (.lod (.var 0)) (.og (.lenS (.var 0)) (.og (.ibin .gtr (.var 0) (.lit (iv 200))) (.apick (.var 0) (.ret (.lit (iv 2))) (.og (.fldA 1 (.var 8)) (.og (.lod (.var 0)) (.og (.lenS (.var 0)) (.lp [17, 18, 19] (.og (.ibin .lss (.var 2) (.var 1)) (.apick (.var 0) (.og (.idx 7 (.var 1) (.var 3)) (.og (.lodA 7 (.var 0)) (.new [(iv 0), (iv 0), (iv 0), (iv 0), (iv 0), (.val (.string ⟨#[]⟩)), (.val (.slice none 0 0))] (.sto 7 (.var 0) (.var 1) (.frz 6 (.var 0) (.og (.lodA 7 (.var 0)) (.call 14 [(.var 0)] (.og (.ibin .neq (.var 0) (.lit (iv 0))) (.apick (.var 0) (.ret (.var 1)) (.og (.ibin .add (.var 10) (.lit (iv 1))) (.jump 0 [(.var 9), (.var 10), (.var 0)]))))))))))) (.ret (.lit (iv 0))))) [(.var 1), (.var 0), (.lit (iv 0))])))))))))))))))
theorem x18_ok : okF TT Tryz.f18 1 x18 = true := by decide +kernel
theorem s_impl_blockFault_ok {a0 : AV} {σ : AH} {R : AEnd → AH → Prop} (h : s_impl_blockFault a0 σ R) : acall TP fn_impl_blockFault [a0] σ R :=
 acall_okF (ρ := [a0]) TT_ok Tryz.func18 rfl x18 x18_ok rfl h
def s_impl_heightsOf (a0 : AV) (σ : AH) (R : AEnd → AH → Prop) : Prop :=
 abox a0 σ fun v1 σ =>
 frz v1 σ fun f1 σ =>
 og (fldA 1 f1) fun v17 =>
 og (lod v17 σ) fun v18 =>
 og (lenS v18) fun v19 =>
 og (ibin .eql v19 (.val (.int .i64 0))) fun v21 =>
 apick v21 (
 aret (.tup [(.val (.slice none 0 0)), (.val (.bool false))]) σ R) (
 og (lodA 2 f1 σ) fun v22 =>
 acall TP fn_impl_targets [v22] σ (onr (fun v23 σ =>
 og (lenS v23) fun v24 =>
 lp (X := Tup [1, 4, 23, 24, 25]) (fun R1 y1 σ =>
 og (ibin .lss y1.2.2.2.2.1 y1.2.2.2.1) fun v26 =>
 apick v26 (
 og (idx 1 y1.2.2.1 y1.2.2.2.2.1 σ) fun v27 =>
 og (lod v27 σ) fun v28 =>
 og (ibin .geq v28 y1.2.1) fun v31 =>
 apick v31 (
 aret (.tup [(.val (.slice none 0 0)), (.val (.bool false))]) σ R) (
 og (ibin .add y1.2.2.2.2.1 (.val (.int .i64 1))) fun v32 =>
 R1 (y1.1, y1.2.1, y1.2.2.1, y1.2.2.2.1, v32, ()) σ)) (
 amake TT ty_Li y1.2.1 y1.2.1 σ fun v34 σ =>
 og (lenS v34) fun v36 =>
 lp (X := Tup [1, 4, 7, 36, 37]) (fun R2 y2 σ =>
 og (ibin .lss y2.2.2.2.2.1 y2.2.2.2.1) fun v38 =>
 apick v38 (
 og (idx 1 y2.2.2.1 y2.2.2.2.2.1 σ) fun v42 =>
 sto 1 v42 (.val (.int .i64 (-1))) σ fun σ =>
 og (ibin .add y2.2.2.2.2.1 (.val (.int .i64 1))) fun v43 =>
 R2 (y2.1, y2.2.1, y2.2.2.1, y2.2.2.2.1, v43, ()) σ) (
 og (idx 1 y2.2.2.1 (.val (.int .i64 0)) σ) fun v45 =>
 sto 1 v45 (.val (.int .i64 0)) σ fun σ =>
 bsl 1 [(.val (.int .i64 0))] 1 [(0, (.val (.int .i64 0)))] σ fun v46 σ =>
 lp (X := Tup [1, 4, 7, 9]) (fun R3 y3 σ =>
 og (lenS y3.2.2.2.1) fun v48 =>
 og (ibin .gtr v48 (.val (.int .i64 0))) fun v49 =>
 apick v49 (
 og (idx 1 y3.2.2.2.1 (.val (.int .i64 0)) σ) fun v51 =>
 og (lod v51 σ) fun v52 =>
 og (slc 1 y3.2.2.2.1 (some (.val (.int .i64 1))) none none σ) fun v54 =>
 og (fldA 1 y3.1) fun v55 =>
 og (lod v55 σ) fun v56 =>
 og (idx 7 v56 v52 σ) fun v58 =>
 og (lodA 7 v58 σ) fun v59 =>
 new [(.val (.int .i64 0)), (.val (.int .i64 0)), (.val (.int .i64 0)), (.val (.int .i64 0)), (.val (.int .i64 0)), (.val (.string ⟨#[]⟩)), (.val (.slice none 0 0))] σ fun v11 σ =>
 sto 7 v11 v59 σ fun σ =>
 frz v11 σ fun f11 σ =>
 og (idx 1 y3.2.2.1 v52 σ) fun v62 =>
 og (lod v62 σ) fun v63 =>
 og (lodA 7 f11 σ) fun v64 =>
 og (lodA 7 f11 σ) fun v67 =>
 og (bslR 1 [(.val (.int .i64 0))] 0 []) fun v70 =>
 acall TP fn_impl_Op_takes [v64] σ (onr (fun v65 σ =>
 (lodA 7 f11 σ = some v67 ∧ lod v62 σ = some v63 ∧ idx 1 y3.2.2.1 v52 σ = some v62 ∧ True) ∧
 og (ibin .sub v63 v65) fun v66 =>
 acall TP fn_impl_Op_puts [v67] σ (onr (fun v68 σ =>
 (lod v62 σ = some v63 ∧ idx 1 y3.2.2.1 v52 σ = some v62 ∧ True) ∧
 og (ibin .add v66 v68) fun v69 =>
 jn (X := Tup [1, 4, 7, 9, 10, 11, 12, 13, 86]) (fun x4 σ =>
 apick x4.2.2.2.2.2.2.2.2.1 (
 aret (.tup [(.val (.slice none 0 0)), (.val (.bool false))]) σ R) (
 jn (X := Tup [1, 4, 7, 9, 11, 12, 13]) (fun x5 σ =>
 jn (X := Tup [1, 4, 7, 9, 12, 13]) (fun x6 σ =>
 og (lenS x6.2.2.2.2.2.1) fun v104 =>
 lp (X := Tup [1, 4, 7, 9, 12, 103, 104, 105]) (fun R7 y7 σ =>
 og (ibin .lss y7.2.2.2.2.2.2.2.1 y7.2.2.2.2.2.2.1) fun v106 =>
 apick v106 (
 jn (X := Tup [1, 4, 7, 9, 12, 103, 104, 105]) (fun x8 σ =>
 og (ibin .add x8.2.2.2.2.2.2.2.1 (.val (.int .i64 1))) fun v142 =>
 R7 (x8.1, x8.2.1, x8.2.2.1, x8.2.2.2.1, x8.2.2.2.2.1, x8.2.2.2.2.2.1, x8.2.2.2.2.2.2.1, v142, ()) σ) fun k8 =>
 og (idx 1 y7.2.2.2.2.2.1 y7.2.2.2.2.2.2.2.1 σ) fun v107 =>
 og (lod v107 σ) fun v108 =>
 og (ibin .geq v108 y7.2.1) fun v112 =>
 og (gval v112 false false (some y7.2.2.1)) fun v114 =>
 og (gval v112 false false (some v108)) fun v115 =>
 og (gval v112 false false (idx 1 v114 v115 σ)) fun v116 =>
 og (gval v112 false false (lod v116 σ)) fun v117 =>
 og (gval v112 false false (ibin .geq v117 (.val (.int .i64 0)))) fun v118 =>
 og (gval v112 false false (some v118)) fun v119 =>
 og (gval v119 true true (some y7.2.2.1)) fun v120 =>
 og (gval v119 true true (some v108)) fun v121 =>
 og (gval v119 true true (idx 1 v120 v121 σ)) fun v122 =>
 og (gval v119 true true (lod v122 σ)) fun v123 =>
 og (gval v119 true true (some y7.2.2.2.2.1)) fun v124 =>
 og (gval v119 true true (ibin .neq v123 v124)) fun v125 =>
 og (gval v112 false false (pickV v119 v125 (.val (.bool false)))) fun v126 =>
 og (pickV v112 (.val (.bool true)) v126) fun v127 =>
 apick v127 (
 aret (.tup [(.val (.slice none 0 0)), (.val (.bool false))]) σ R) (
 og (idx 1 y7.2.2.1 v108 σ) fun v131 =>
 og (lod v131 σ) fun v132 =>
 og (ibin .lss v132 (.val (.int .i64 0))) fun v133 =>
 apick v133 (
 bsl 1 [(.val (.int .i64 0))] 1 [(0, v108)] σ fun v139 σ =>
 app 1 y7.2.2.2.1 v139 σ fun v140 σ =>
 og (idx 1 y7.2.2.1 v108 σ) fun v141 =>
 sto 1 v141 y7.2.2.2.2.1 σ fun σ =>
 k8 (y7.1, y7.2.1, y7.2.2.1, v140, y7.2.2.2.2.1, y7.2.2.2.2.2.1, y7.2.2.2.2.2.2.1, y7.2.2.2.2.2.2.2.1, ()) σ) (
 k8 (y7.1, y7.2.1, y7.2.2.1, y7.2.2.2.1, y7.2.2.2.2.1, y7.2.2.2.2.2.1, y7.2.2.2.2.2.2.1, y7.2.2.2.2.2.2.2.1, ()) σ))) (
 R3 (y7.1, y7.2.1, y7.2.2.1, y7.2.2.2.1, ()) σ)) (x6.1, x6.2.1, x6.2.2.1, x6.2.2.2.1, x6.2.2.2.2.1, x6.2.2.2.2.2.1, v104, (.val (.int .i64 0)), ()) σ) fun k6 =>
 acall TP fn_impl_Op_target [x5.2.2.2.2.1] σ (onr (fun v94 σ =>
 abin TT .neq ty_pointer71 v94 (.val (.pointer none)) fun v96 =>
 apick v96 (
 og (anil v94) fun v99 =>
 og (lod v99 σ) fun v100 =>
 bsl 1 [(.val (.int .i64 0))] 1 [(0, v100)] σ fun v101 σ =>
 app 1 x5.2.2.2.2.2.2.1 v101 σ fun v102 σ =>
 k6 (x5.1, x5.2.1, x5.2.2.1, x5.2.2.2.1, x5.2.2.2.2.2.1, v102, ()) σ) (
 k6 (x5.1, x5.2.1, x5.2.2.1, x5.2.2.2.1, x5.2.2.2.2.2.1, x5.2.2.2.2.2.2.1, ()) σ)) (fun v σ => apan v σ R))) fun k5 =>
 og (lodA 7 x4.2.2.2.2.2.1 σ) fun v87 =>
 acall TP fn_impl_Op_goesOn [v87] σ (onr (fun v88 σ =>
 apick v88 (
 og (ibin .add x4.2.2.2.2.1 (.val (.int .i64 1))) fun v91 =>
 bsl 1 [(.val (.int .i64 0))] 1 [(0, v91)] σ fun v92 σ =>
 app 1 x4.2.2.2.2.2.2.2.1 v92 σ fun v93 σ =>
 k5 (x4.1, x4.2.1, x4.2.2.1, x4.2.2.2.1, x4.2.2.2.2.2.1, x4.2.2.2.2.2.2.1, v93, ()) σ) (
 k5 (x4.1, x4.2.1, x4.2.2.1, x4.2.2.2.1, x4.2.2.2.2.2.1, x4.2.2.2.2.2.2.1, x4.2.2.2.2.2.2.2.1, ()) σ)) (fun v σ => apan v σ R)))) fun k4 =>
 og (idx 1 y3.2.2.1 v52 σ) fun v73 =>
 og (lod v73 σ) fun v74 =>
 og (lodA 7 f11 σ) fun v75 =>
 acall TP fn_impl_Op_takes [v75] σ (onr (fun v76 σ =>
 (lod v73 σ = some v74 ∧ idx 1 y3.2.2.1 v52 σ = some v73 ∧ True) ∧
 og (ibin .lss v74 v76) fun v77 =>
 og (gval v77 false false (lodA 7 f11 σ)) fun v79 =>
 og (gval v77 false false (some y3.2.2.1)) fun v80 =>
 og (gval v77 false false (some v52)) fun v81 =>
 og (gval v77 false false (idx 1 v80 v81 σ)) fun v82 =>
 og (gval v77 false false (lod v82 σ)) fun v83 =>
 gpick v77 (
 k4 (y3.1, y3.2.1, y3.2.2.1, v54, v52, f11, v69, v70, (.val (.bool true)), ()) σ) (
 acall TP fn_impl_Op_ends [v79, v83] σ (onr (fun v84 σ =>
 (True) ∧
 og (aun .not v84) fun v85 =>
 k4 (y3.1, y3.2.1, y3.2.2.1, v54, v52, f11, v69, v70, v85, ()) σ) (fun v σ => apan v σ R))) (False)) (fun v σ => apan v σ R))) (fun v σ => apan v σ R))) (fun v σ => apan v σ R))) (
 aret (.tup [y3.2.2.1, (.val (.bool true))]) σ R)) (y2.1, y2.2.1, y2.2.2.1, v46, ()) σ)) (y1.1, y1.2.1, v34, v36, (.val (.int .i64 0)), ()) σ)) (f1, v19, v23, v24, (.val (.int .i64 0)), ()) σ) (fun v σ => apan v σ R)))
def x19 : Sx := .box (.var 0) (.frz 1 (.var 0) (.og (.fldA 1 (.var 0)) (.og (.lod (.var 0)) (.og (.lenS (.var 0)) (.og (.ibin .eql (.var 0) (.lit (iv 0))) (.apick (.var 0) (.rets [(.lit (.val (.slice none 0 0))), (.lit (.val (.bool false)))]) (.og (.lodA 2 (.var 4)) (.call 21 [(.var 0)] (.og (.lenS (.var 0)) (.lp [1, 4, 23, 24, 25] (.og (.ibin .lss (.var 4) (.var 3)) (.apick (.var 0) (.og (.idx 1 (.var 3) (.var 5)) (.og (.lod (.var 0)) (.og (.ibin .geq (.var 0) (.var 4)) (.apick (.var 0) (.rets [(.lit (.val (.slice none 0 0))), (.lit (.val (.bool false)))]) (.og (.ibin .add (.var 8) (.lit (iv 1))) (.jump 0 [(.var 5), (.var 6), (.var 7), (.var 8), (.var 0)])))))) (.mks 28 (.var 2) (.var 2) (.og (.lenS (.var 0)) (.lp [1, 4, 7, 36, 37] (.og (.ibin .lss (.var 4) (.var 3)) (.apick (.var 0) (.og (.idx 1 (.var 3) (.var 5)) (.sto 1 (.var 0) (.lit (iv (-1))) (.og (.ibin .add (.var 6) (.lit (iv 1))) (.jump 0 [(.var 3), (.var 4), (.var 5), (.var 6), (.var 0)])))) (.og (.idx 1 (.var 3) (.lit (iv 0))) (.sto 1 (.var 0) (.lit (iv 0)) (.bsl 1 [(iv 0)] 1 [(0, (.lit (iv 0)))] (.lp [1, 4, 7, 9] (.og (.lenS (.var 3)) (.og (.ibin .gtr (.var 0) (.lit (iv 0))) (.apick (.var 0) (.og (.idx 1 (.var 5) (.lit (iv 0))) (.og (.lod (.var 0)) (.og (.slc 1 (.var 7) (some (.lit (iv 1))) none none) (.og (.fldA 1 (.var 5)) (.og (.lod (.var 0)) (.og (.idx 7 (.var 0) (.var 3)) (.og (.lodA 7 (.var 0)) (.new [(iv 0), (iv 0), (iv 0), (iv 0), (iv 0), (.val (.string ⟨#[]⟩)), (.val (.slice none 0 0))] (.sto 7 (.var 0) (.var 1) (.frz 13 (.var 0) (.ord [0, 1, 2, 3, 4, 7, 10, 5, 6, 8, 9, 11, 12] [0, 0, 3, 7, 0, 16, 63, 0, 176, 511, 0, 1023, 4095] (.og (.idx 1 (.var 13) (.var 7)) (.og (.lod (.var 0)) (.og (.lodA 7 (.var 2)) (.og (.lodA 7 (.var 3)) (.og (.bslR 1 [(iv 0)] 0 []) (.call 38 [(.var 2)] (.wat [⟨none, (.lodA 7 (.var 6)), (.var 2)⟩, ⟨none, (.lod (.var 5)), (.var 4)⟩, ⟨none, (.idx 1 (.var 19) (.var 13)), (.var 5)⟩] (.og (.ibin .sub (.var 4) (.var 0)) (.call 39 [(.var 3)] (.wat [⟨none, (.lod (.var 7)), (.var 6)⟩, ⟨none, (.idx 1 (.var 21) (.var 15)), (.var 7)⟩] (.og (.ibin .add (.var 1) (.var 0)) (.jn 1045693 [1, 4, 7, 9, 10, 11, 12, 13, 86] (.apick (.var 8) (.rets [(.lit (.val (.slice none 0 0))), (.lit (.val (.bool false)))]) (.jn 1045695 [1, 4, 7, 9, 11, 12, 13] (.jn 2091391 [1, 4, 7, 9, 12, 13] (.og (.lenS (.var 5)) (.lp [1, 4, 7, 9, 12, 103, 104, 105] (.og (.ibin .lss (.var 7) (.var 6)) (.apick (.var 0) (.jn 133849063 [1, 4, 7, 9, 12, 103, 104, 105] (.og (.ibin .add (.var 7) (.lit (iv 1))) (.jump 0 [(.var 1), (.var 2), (.var 3), (.var 4), (.var 5), (.var 6), (.var 7), (.var 0)])) (.og (.idx 1 (.var 6) (.var 8)) (.og (.lod (.var 0)) (.og (.ibin .geq (.var 0) (.var 4)) (.gog (.var 0) false false (.ret (.var 6)) (.gog (.var 1) false false (.ret (.var 2)) (.gog (.var 2) false false (.idx 1 (.var 1) (.var 0)) (.gog (.var 3) false false (.lod (.var 0)) (.gog (.var 4) false false (.ibin .geq (.var 0) (.lit (iv 0))) (.gog (.var 5) false false (.ret (.var 0)) (.gog (.var 0) true true (.ret (.var 12)) (.gog (.var 1) true true (.ret (.var 8)) (.gog (.var 2) true true (.idx 1 (.var 1) (.var 0)) (.gog (.var 3) true true (.lod (.var 0)) (.gog (.var 4) true true (.ret (.var 18)) (.gog (.var 5) true true (.ibin .neq (.var 1) (.var 0)) (.gog (.var 12) false false (.pickV (.var 6) (.var 0) (.lit (.val (.bool false)))) (.og (.pickV (.var 13) (.lit (.val (.bool true))) (.var 0)) (.apick (.var 0) (.rets [(.lit (.val (.slice none 0 0))), (.lit (.val (.bool false)))]) (.og (.idx 1 (.var 20) (.var 15)) (.og (.lod (.var 0)) (.og (.ibin .lss (.var 0) (.lit (iv 0))) (.apick (.var 0) (.bsl 1 [(iv 0)] 1 [(0, (.var 18))] (.app 1 (.var 25) (.var 0) (.og (.idx 1 (.var 25) (.var 20)) (.sto 1 (.var 0) (.var 28) (.jump 0 [(.var 24), (.var 25), (.var 26), (.var 1), (.var 28), (.var 29), (.var 30), (.var 31)]))))) (.jump 0 [(.var 21), (.var 22), (.var 23), (.var 24), (.var 25), (.var 26), (.var 27), (.var 28)])))))))))))))))))))))))) (.jump 1 [(.var 1), (.var 2), (.var 3), (.var 4)]))) [(.var 1), (.var 2), (.var 3), (.var 4), (.var 5), (.var 6), (.var 0), (.lit (iv 0))])) (.call 42 [(.var 4)] (.cmp .neq 71 (.var 0) (.lit (.val (.pointer none))) (.apick (.var 0) (.og (.anil (.var 1)) (.og (.lod (.var 0)) (.bsl 1 [(iv 0)] 1 [(0, (.var 0))] (.app 1 (.var 11) (.var 0) (.jump 0 [(.var 6), (.var 7), (.var 8), (.var 9), (.var 11), (.var 0)]))))) (.jump 0 [(.var 2), (.var 3), (.var 4), (.var 5), (.var 7), (.var 8)]))))) (.og (.lodA 7 (.var 5)) (.call 41 [(.var 0)] (.apick (.var 0) (.og (.ibin .add (.var 6) (.lit (iv 1))) (.bsl 1 [(iv 0)] 1 [(0, (.var 0))] (.app 1 (.var 11) (.var 0) (.jump 0 [(.var 5), (.var 6), (.var 7), (.var 8), (.var 10), (.var 11), (.var 0)])))) (.jump 0 [(.var 2), (.var 3), (.var 4), (.var 5), (.var 7), (.var 8), (.var 9)])))))) (.ord [0, 1, 2, 3, 4, 5, 6, 7, 8, 9, 10, 11, 12, 13, 14, 15] [0, 0, 3, 7, 0, 16, 63, 127, 255, 255, 255, 1791, 3839, 8191, 16383, 32767] (.og (.idx 1 (.var 22) (.var 16)) (.og (.lod (.var 0)) (.og (.lodA 7 (.var 11)) (.call 38 [(.var 0)] (.wat [⟨none, (.lod (.var 3)), (.var 2)⟩, ⟨none, (.idx 1 (.var 26) (.var 20)), (.var 3)⟩] (.og (.ibin .lss (.var 2) (.var 0)) (.gog (.var 0) false false (.lodA 7 (.var 14)) (.gog (.var 1) false false (.ret (.var 28)) (.gog (.var 2) false false (.ret (.var 23)) (.gog (.var 3) false false (.idx 1 (.var 1) (.var 0)) (.gog (.var 4) false false (.lod (.var 0)) (.gpick (.var 5) (.jump 0 [(.var 30), (.var 31), (.var 32), (.var 25), (.var 26), (.var 19), (.var 10), (.var 14), (.lit (.val (.bool true)))]) (.call 40 [(.var 4), (.var 0)] (.wat [] (.og (.aun .not (.var 0)) (.jump 0 [(.var 32), (.var 33), (.var 34), (.var 27), (.var 28), (.var 21), (.var 12), (.var 16), (.var 0)])))) (.no))))))))))))))))))))))))))))))))))))) (.rets [(.var 4), (.lit (.val (.bool true)))])))) [(.var 3), (.var 4), (.var 5), (.var 0)])))))) [(.var 3), (.var 4), (.var 1), (.var 0), (.lit (iv 0))]))))) [(.var 7), (.var 4), (.var 1), (.var 0), (.lit (iv 0))]))))))))))
theorem x19_ok : okF TT Tryz.f19 1 x19 = true := by decide +kernel
theorem s_impl_heightsOf_ok {a0 : AV} {σ : AH} {R : AEnd → AH → Prop} (h : s_impl_heightsOf a0 σ R) : acall TP fn_impl_heightsOf [a0] σ R :=
 acall_okF (ρ := [a0]) TT_ok Tryz.func19 rfl x19 x19_ok rfl h
def s_spec_l10Heights (a0 : AV) (σ : AH) (R : AEnd → AH → Prop) : Prop :=
 acall TP fn_spec_l9Block [a0] σ (onr (fun v11 σ =>
 og (ibin .neq v11 (.val (.int .i64 0))) fun v13 =>
 apick v13 (
 aret (.tup [(.val (.slice none 0 0)), v11]) σ R) (
 og (anil a0) fun v16 =>
 og (fldA 1 v16) fun v17 =>
 og (lod v17 σ) fun v18 =>
 og (lenS v18) fun v19 =>
 og (ibin .eql v19 (.val (.int .i64 0))) fun v20 =>
 apick v20 (
 aret (.tup [(.val (.slice none 0 0)), (.val (.int .i64 1))]) σ R) (
 lp (X := Tup [0, 5]) (fun R1 y1 σ =>
 og (anil y1.1) fun v23 =>
 og (fldA 1 v23) fun v24 =>
 og (lod v24 σ) fun v25 =>
 og (lenS v25) fun v26 =>
 og (ibin .lss y1.2.1 v26) fun v27 =>
 apick v27 (
 og (anil y1.1) fun v31 =>
 og (fldA 1 v31) fun v32 =>
 og (lod v32 σ) fun v33 =>
 og (idx 7 v33 y1.2.1 σ) fun v35 =>
 og (anil y1.1) fun v38 =>
 og (fldA 1 v38) fun v39 =>
 og (lod v39 σ) fun v40 =>
 og (lenS v40) fun v41 =>
 acall TP fn_spec_l9Target [v35] σ (onr (fun v36 σ =>
 (lod v39 σ = some v40 ∧ True) ∧
 og (ibin .geq v36 v41) fun v42 =>
 apick v42 (
 aret (.tup [(.val (.slice none 0 0)), (.val (.int .i64 1))]) σ R) (
 og (ibin .add y1.2.1 (.val (.int .i64 1))) fun v29 =>
 R1 (y1.1, v29, ()) σ)) (fun v σ => apan v σ R))) (
 bsl 1 [(.val (.int .i64 0))] 1 [(0, (.val (.int .i64 0)))] σ fun v43 σ =>
 lp (X := Tup [0, 6, 7]) (fun R2 y2 σ =>
 og (anil y2.1) fun v46 =>
 og (fldA 1 v46) fun v47 =>
 og (lod v47 σ) fun v48 =>
 og (lenS v48) fun v49 =>
 og (ibin .lss y2.2.2.1 v49) fun v50 =>
 apick v50 (
 bsl 1 [(.val (.int .i64 0))] 1 [(0, (.val (.int .i64 (-1))))] σ fun v54 σ =>
 app 1 y2.2.1 v54 σ fun v55 σ =>
 og (ibin .add y2.2.2.1 (.val (.int .i64 1))) fun v52 =>
 R2 (y2.1, v55, v52, ()) σ) (
 lp (X := Tup [0, 6]) (fun R3 y3 σ =>
 acall TP fn_spec_l10Pass [y3.1, y3.2.1] σ (onr (fun v59 σ =>
 og (aext v59 0) fun v60 =>
 og (aext v59 1) fun v61 =>
 og (aun .not v61) fun v63 =>
 apick v63 (
 aret (.tup [(.val (.slice none 0 0)), (.val (.int .i64 1))]) σ R) (
 og (aun .not v60) fun v65 =>
 apick v65 (
 aret (.tup [y3.2.1, (.val (.int .i64 0))]) σ R) (
 R3 (y3.1, y3.2.1, ()) σ))) (fun v σ => apan v σ R))) (y2.1, y2.2.1, ()) σ)) (y1.1, v43, (.val (.int .i64 1)), ()) σ)) (a0, (.val (.int .i64 0)), ()) σ))) (fun v σ => apan v σ R))
def x20 : Sx := .call 43 [(.var 0)] (.og (.ibin .neq (.var 0) (.lit (iv 0))) (.apick (.var 0) (.rets [(.lit (.val (.slice none 0 0))), (.var 1)]) (.og (.anil (.var 2)) (.og (.fldA 1 (.var 0)) (.og (.lod (.var 0)) (.og (.lenS (.var 0)) (.og (.ibin .eql (.var 0) (.lit (iv 0))) (.apick (.var 0) (.rets [(.lit (.val (.slice none 0 0))), (.lit (iv 1))]) (.lp [0, 5] (.og (.anil (.var 0)) (.og (.fldA 1 (.var 0)) (.og (.lod (.var 0)) (.og (.lenS (.var 0)) (.og (.ibin .lss (.var 5) (.var 0)) (.apick (.var 0) (.ord [0, 1, 2, 3, 4, 5, 7, 8, 9, 10, 11, 6, 12] [0, 1, 3, 7, 0, 31, 63, 0, 128, 384, 896, 1920, 4095] (.og (.anil (.var 5)) (.og (.fldA 1 (.var 0)) (.og (.lod (.var 0)) (.og (.idx 7 (.var 0) (.var 9)) (.og (.anil (.var 9)) (.og (.fldA 1 (.var 0)) (.og (.lod (.var 0)) (.og (.lenS (.var 0)) (.call 44 [(.var 4)] (.wat [⟨none, (.lod (.var 3)), (.var 2)⟩] (.og (.ibin .geq (.var 0) (.var 1)) (.apick (.var 0) (.rets [(.lit (.val (.slice none 0 0))), (.lit (iv 1))]) (.og (.ibin .add (.var 16) (.lit (iv 1))) (.jump 0 [(.var 16), (.var 0)]))))))))))))))) (.bsl 1 [(iv 0)] 1 [(0, (.lit (iv 0)))] (.lp [0, 6, 7] (.og (.anil (.var 0)) (.og (.fldA 1 (.var 0)) (.og (.lod (.var 0)) (.og (.lenS (.var 0)) (.og (.ibin .lss (.var 6) (.var 0)) (.apick (.var 0) (.bsl 1 [(iv 0)] 1 [(0, (.lit (iv (-1))))] (.app 1 (.var 7) (.var 0) (.og (.ibin .add (.var 9) (.lit (iv 1))) (.jump 0 [(.var 8), (.var 1), (.var 0)])))) (.lp [0, 6] (.call 45 [(.var 0), (.var 1)] (.og (.aext (.var 0) 0) (.og (.aext (.var 1) 1) (.og (.aun .not (.var 0)) (.apick (.var 0) (.rets [(.lit (.val (.slice none 0 0))), (.lit (iv 1))]) (.og (.aun .not (.var 2)) (.apick (.var 0) (.rets [(.var 6), (.lit (iv 0))]) (.jump 0 [(.var 5), (.var 6)])))))))) [(.var 5), (.var 6)]))))))) [(.var 6), (.var 0), (.lit (iv 1))])))))))) [(.var 7), (.lit (iv 0))])))))))))
theorem x20_ok : okF TT Tryz.f20 1 x20 = true := by decide +kernel
theorem s_spec_l10Heights_ok {a0 : AV} {σ : AH} {R : AEnd → AH → Prop} (h : s_spec_l10Heights a0 σ R) : acall TP fn_spec_l10Heights [a0] σ R :=
 acall_okF (ρ := [a0]) TT_ok Tryz.func20 rfl x20 x20_ok rfl h
def s_impl_targets (a0 : AV) (σ : AH) (R : AEnd → AH → Prop) : Prop :=
 abox a0 σ fun v1 σ =>
 frz v1 σ fun f1 σ =>
 bsl 1 [(.val (.int .i64 0))] 0 [] σ fun v7 σ =>
 og (fldA 1 f1) fun v8 =>
 og (lod v8 σ) fun v9 =>
 og (lenS v9) fun v10 =>
 lp (X := Tup [3, 9, 10, 11]) (fun R1 y1 σ =>
 og (ibin .lss y1.2.2.2.1 y1.2.2.1) fun v12 =>
 apick v12 (
 jn (X := Tup [3, 9, 10, 11]) (fun x2 σ =>
 og (ibin .add x2.2.2.2.1 (.val (.int .i64 1))) fun v24 =>
 R1 (x2.1, x2.2.1, x2.2.2.1, v24, ()) σ) fun k2 =>
 og (idx 7 y1.2.1 y1.2.2.2.1 σ) fun v13 =>
 og (lodA 7 v13 σ) fun v14 =>
 new [(.val (.int .i64 0)), (.val (.int .i64 0)), (.val (.int .i64 0)), (.val (.int .i64 0)), (.val (.int .i64 0)), (.val (.string ⟨#[]⟩)), (.val (.slice none 0 0))] σ fun v5 σ =>
 sto 7 v5 v14 σ fun σ =>
 frz v5 σ fun f5 σ =>
 acall TP fn_impl_Op_target [f5] σ (onr (fun v15 σ =>
 abin TT .neq ty_pointer71 v15 (.val (.pointer none)) fun v17 =>
 apick v17 (
 og (anil v15) fun v20 =>
 og (lod v20 σ) fun v21 =>
 bsl 1 [(.val (.int .i64 0))] 1 [(0, v21)] σ fun v22 σ =>
 app 1 y1.1 v22 σ fun v23 σ =>
 k2 (v23, y1.2.1, y1.2.2.1, y1.2.2.2.1, ()) σ) (
 k2 (y1.1, y1.2.1, y1.2.2.1, y1.2.2.2.1, ()) σ)) (fun v σ => apan v σ R))) (
 acall TP fn_slices_Sort [y1.1] σ (onr (fun v26 σ =>
 acall TP fn_slices_Compact [y1.1] σ (onr (fun v28 σ =>
 aret v28 σ R) (fun v σ => apan v σ R))) (fun v σ => apan v σ R)))) (v7, v9, v10, (.val (.int .i64 0)), ()) σ
def x21 : Sx := .box (.var 0) (.frz 1 (.var 0) (.bsl 1 [(iv 0)] 0 [] (.og (.fldA 1 (.var 1)) (.og (.lod (.var 0)) (.og (.lenS (.var 0)) (.lp [3, 9, 10, 11] (.og (.ibin .lss (.var 3) (.var 2)) (.apick (.var 0) (.jn 935 [3, 9, 10, 11] (.og (.ibin .add (.var 3) (.lit (iv 1))) (.jump 0 [(.var 1), (.var 2), (.var 3), (.var 0)])) (.og (.idx 7 (.var 2) (.var 4)) (.og (.lodA 7 (.var 0)) (.new [(iv 0), (iv 0), (iv 0), (iv 0), (iv 0), (.val (.string ⟨#[]⟩)), (.val (.slice none 0 0))] (.sto 7 (.var 0) (.var 1) (.frz 7 (.var 0) (.call 42 [(.var 0)] (.cmp .neq 71 (.var 0) (.lit (.val (.pointer none))) (.apick (.var 0) (.og (.anil (.var 1)) (.og (.lod (.var 0)) (.bsl 1 [(iv 0)] 1 [(0, (.var 0))] (.app 1 (.var 10) (.var 0) (.jump 0 [(.var 0), (.var 12), (.var 13), (.var 14)]))))) (.jump 0 [(.var 7), (.var 8), (.var 9), (.var 10)])))))))))) (.call 46 [(.var 1)] (.call 47 [(.var 2)] (.ret (.var 0)))))) [(.var 3), (.var 1), (.var 0), (.lit (iv 0))]))))))
theorem x21_ok : okF TT Tryz.f21 1 x21 = true := by decide +kernel
theorem s_impl_targets_ok {a0 : AV} {σ : AH} {R : AEnd → AH → Prop} (h : s_impl_targets a0 σ R) : acall TP fn_impl_targets [a0] σ R :=
 acall_okF (ρ := [a0]) TT_ok Tryz.func21 rfl x21 x21_ok rfl h
def s_impl_in (a0 a1 a2 : AV) (σ : AH) (R : AEnd → AH → Prop) : Prop :=
 og (ibin .leq a1 a0) fun v9 =>
 og (gval v9 true false (some a0)) fun v11 =>
 og (gval v9 true false (some a2)) fun v12 =>
 og (gval v9 true false (ibin .leq v11 v12)) fun v13 =>
 og (pickV v9 v13 (.val (.bool false))) fun v14 =>
 aret v14 σ R
def x23 : Sx := .og (.ibin .leq (.var 1) (.var 2)) (.gog (.var 0) true false (.ret (.var 3)) (.gog (.var 1) true false (.ret (.var 2)) (.gog (.var 2) true false (.ibin .leq (.var 1) (.var 0)) (.og (.pickV (.var 3) (.var 0) (.lit (.val (.bool false)))) (.ret (.var 0))))))
theorem x23_ok : okF TT Tryz.f23 3 x23 = true := by decide +kernel
theorem s_impl_in_ok {a0 a1 a2 : AV} {σ : AH} {R : AEnd → AH → Prop} (h : s_impl_in a0 a1 a2 σ R) : acall TP fn_impl_in [a0, a1, a2] σ R :=
 acall_okF (ρ := [a2, a1, a0]) TT_ok Tryz.func23 rfl x23 x23_ok rfl h
def s_spec_l1In (a0 a1 a2 : AV) (σ : AH) (R : AEnd → AH → Prop) : Prop :=
 og (ibin .geq a0 a1) fun v9 =>
 og (gval v9 true false (some a0)) fun v11 =>
 og (gval v9 true false (some a2)) fun v12 =>
 og (gval v9 true false (ibin .leq v11 v12)) fun v13 =>
 og (pickV v9 v13 (.val (.bool false))) fun v14 =>
 aret v14 σ R
def x26 : Sx := .og (.ibin .geq (.var 2) (.var 1)) (.gog (.var 0) true false (.ret (.var 3)) (.gog (.var 1) true false (.ret (.var 2)) (.gog (.var 2) true false (.ibin .leq (.var 1) (.var 0)) (.og (.pickV (.var 3) (.var 0) (.lit (.val (.bool false)))) (.ret (.var 0))))))
theorem x26_ok : okF TT Tryz.f26 3 x26 = true := by decide +kernel
theorem s_spec_l1In_ok {a0 a1 a2 : AV} {σ : AH} {R : AEnd → AH → Prop} (h : s_spec_l1In a0 a1 a2 σ R) : acall TP fn_spec_l1In [a0, a1, a2] σ R :=
 acall_okF (ρ := [a2, a1, a0]) TT_ok Tryz.func26 rfl x26 x26_ok rfl h
def s_impl_OpFault_1 (a0 : AV) (σ : AH) (R : AEnd → AH → Prop) : Prop :=
 og (ibin .neq a0 (.val (.int .i64 0))) fun v4 =>
 aret v4 σ R
def x27 : Sx := .og (.ibin .neq (.var 0) (.lit (iv 0))) (.ret (.var 0))
theorem x27_ok : okF TT Tryz.f27 1 x27 = true := by decide +kernel
theorem s_impl_OpFault_1_ok {a0 : AV} {σ : AH} {R : AEnd → AH → Prop} (h : s_impl_OpFault_1 a0 σ R) : acall TP fn_impl_OpFault_1 [a0] σ R :=
 acall_okF (ρ := [a0]) TT_ok Tryz.func27 rfl x27 x27_ok rfl h
def s_slices_ContainsFunc (a0 a1 : AV) (σ : AH) (R : AEnd → AH → Prop) : Prop :=
 acall TP fn_slices_IndexFunc [a0, a1] σ (onr (fun v7 σ =>
 og (ibin .geq v7 (.val (.int .i64 0))) fun v8 =>
 aret v8 σ R) (fun v σ => apan v σ R))
def x28 : Sx := .call 54 [(.var 1), (.var 0)] (.og (.ibin .geq (.var 0) (.lit (iv 0))) (.ret (.var 0)))
theorem x28_ok : okF TT Tryz.f28 2 x28 = true := by decide +kernel
theorem s_slices_ContainsFunc_ok {a0 a1 : AV} {σ : AH} {R : AEnd → AH → Prop} (h : s_slices_ContainsFunc a0 a1 σ R) : acall TP fn_slices_ContainsFunc [a0, a1] σ R :=
 acall_okF (ρ := [a1, a0]) TT_ok Tryz.func28 rfl x28 x28_ok rfl h
def s_impl_opNums (a0 : AV) (σ : AH) (R : AEnd → AH → Prop) : Prop :=
 jn (X := Tup [3, 4]) (fun x1 σ =>
 apick x1.2.1 (
 aret (.val (.int .i64 1)) σ R) (
 jn (X := Tup [3, 10]) (fun x2 σ =>
 apick x2.2.1 (
 aret (.val (.int .i64 2)) σ R) (
 og (ibin .eql x2.1 (.val (.int .i64 16))) fun v14 =>
 apick v14 (
 aret (.val (.int .i64 3)) σ R) (
 og (ibin .eql x2.1 (.val (.int .i64 15))) fun v16 =>
 apick v16 (
 aret (.val (.int .i64 4)) σ R) (
 aret (.val (.int .i64 0)) σ R)))) fun k2 =>
 og (ibin .eql x1.1 (.val (.int .i64 2))) fun v11 =>
 apick v11 (
 k2 (x1.1, v11, ()) σ) (
 og (ibin .eql x1.1 (.val (.int .i64 14))) fun v12 =>
 k2 (x1.1, v12, ()) σ))) fun k1 =>
 og (ibin .eql a0 (.val (.int .i64 4))) fun v5 =>
 apick v5 (
 k1 (a0, v5, ()) σ) (
 og (ibin .eql a0 (.val (.int .i64 5))) fun v6 =>
 apick v6 (
 k1 (a0, v6, ()) σ) (
 og (ibin .eql a0 (.val (.int .i64 6))) fun v7 =>
 apick v7 (
 k1 (a0, v7, ()) σ) (
 og (ibin .eql a0 (.val (.int .i64 10))) fun v8 =>
 apick v8 (
 k1 (a0, v8, ()) σ) (
 og (ibin .eql a0 (.val (.int .i64 11))) fun v9 =>
 k1 (a0, v9, ()) σ))))
def x29 : Sx := .jn 53 [3, 4] (.apick (.var 1) (.ret (.lit (iv 1))) (.jn 215 [3, 10] (.apick (.var 1) (.ret (.lit (iv 2))) (.og (.ibin .eql (.var 0) (.lit (iv 16))) (.apick (.var 0) (.ret (.lit (iv 3))) (.og (.ibin .eql (.var 1) (.lit (iv 15))) (.apick (.var 0) (.ret (.lit (iv 4))) (.ret (.lit (iv 0)))))))) (.og (.ibin .eql (.var 0) (.lit (iv 2))) (.apick (.var 0) (.jump 0 [(.var 1), (.var 0)]) (.og (.ibin .eql (.var 1) (.lit (iv 14))) (.jump 0 [(.var 2), (.var 0)])))))) (.og (.ibin .eql (.var 0) (.lit (iv 4))) (.apick (.var 0) (.jump 0 [(.var 1), (.var 0)]) (.og (.ibin .eql (.var 1) (.lit (iv 5))) (.apick (.var 0) (.jump 0 [(.var 2), (.var 0)]) (.og (.ibin .eql (.var 2) (.lit (iv 6))) (.apick (.var 0) (.jump 0 [(.var 3), (.var 0)]) (.og (.ibin .eql (.var 3) (.lit (iv 10))) (.apick (.var 0) (.jump 0 [(.var 4), (.var 0)]) (.og (.ibin .eql (.var 4) (.lit (iv 11))) (.jump 0 [(.var 5), (.var 0)]))))))))))
theorem x29_ok : okF TT Tryz.f29 1 x29 = true := by decide +kernel
theorem s_impl_opNums_ok {a0 : AV} {σ : AH} {R : AEnd → AH → Prop} (h : s_impl_opNums a0 σ R) : acall TP fn_impl_opNums [a0] σ R :=
 acall_okF (ρ := [a0]) TT_ok Tryz.func29 rfl x29 x29_ok rfl h
def s_impl_opNamed (a0 : AV) (σ : AH) (R : AEnd → AH → Prop) : Prop :=
 og (ibin .eql a0 (.val (.int .i64 3))) fun v4 =>
 og (gval v4 false false (some a0)) fun v6 =>
 og (gval v4 false false (ibin .eql v6 (.val (.int .i64 8)))) fun v7 =>
 og (pickV v4 (.val (.bool true)) v7) fun v8 =>
 og (gval v8 false false (some a0)) fun v10 =>
 og (gval v8 false false (ibin .eql v10 (.val (.int .i64 9)))) fun v11 =>
 og (pickV v8 (.val (.bool true)) v11) fun v12 =>
 aret v12 σ R
def x30 : Sx := .og (.ibin .eql (.var 0) (.lit (iv 3))) (.gog (.var 0) false false (.ret (.var 1)) (.gog (.var 1) false false (.ibin .eql (.var 0) (.lit (iv 8))) (.og (.pickV (.var 2) (.lit (.val (.bool true))) (.var 0)) (.gog (.var 0) false false (.ret (.var 4)) (.gog (.var 1) false false (.ibin .eql (.var 0) (.lit (iv 9))) (.og (.pickV (.var 2) (.lit (.val (.bool true))) (.var 0)) (.ret (.var 0))))))))
theorem x30_ok : okF TT Tryz.f30 1 x30 = true := by decide +kernel
theorem s_impl_opNamed_ok {a0 : AV} {σ : AH} {R : AEnd → AH → Prop} (h : s_impl_opNamed a0 σ R) : acall TP fn_impl_opNamed [a0] σ R :=
 acall_okF (ρ := [a0]) TT_ok Tryz.func30 rfl x30 x30_ok rfl h
def s_impl_opData (a0 : AV) (σ : AH) (R : AEnd → AH → Prop) : Prop :=
 og (ibin .eql a0 (.val (.int .i64 1))) fun v4 =>
 og (gval v4 false false (some a0)) fun v6 =>
 og (gval v4 false false (ibin .eql v6 (.val (.int .i64 13)))) fun v7 =>
 og (pickV v4 (.val (.bool true)) v7) fun v8 =>
 aret v8 σ R
def x31 : Sx := .og (.ibin .eql (.var 0) (.lit (iv 1))) (.gog (.var 0) false false (.ret (.var 1)) (.gog (.var 1) false false (.ibin .eql (.var 0) (.lit (iv 13))) (.og (.pickV (.var 2) (.lit (.val (.bool true))) (.var 0)) (.ret (.var 0)))))
theorem x31_ok : okF TT Tryz.f31 1 x31 = true := by decide +kernel
theorem s_impl_opData_ok {a0 : AV} {σ : AH} {R : AEnd → AH → Prop} (h : s_impl_opData a0 σ R) : acall TP fn_impl_opData [a0] σ R :=
 acall_okF (ρ := [a0]) TT_ok Tryz.func31 rfl x31 x31_ok rfl h
def s_impl_OpFault_2 (a0 : AV) (σ : AH) (R : AEnd → AH → Prop) : Prop :=
 acall TP fn_impl_in [a0, (.val (.int .i64 0)), (.val (.int .i64 999))] σ (onr (fun v4 σ =>
 og (aun .not v4) fun v5 =>
 aret v5 σ R) (fun v σ => apan v σ R))
def x32 : Sx := .call 23 [(.var 0), (.lit (iv 0)), (.lit (iv 999))] (.og (.aun .not (.var 0)) (.ret (.var 0)))
theorem x32_ok : okF TT Tryz.f32 1 x32 = true := by decide +kernel
theorem s_impl_OpFault_2_ok {a0 : AV} {σ : AH} {R : AEnd → AH → Prop} (h : s_impl_OpFault_2 a0 σ R) : acall TP fn_impl_OpFault_2 [a0] σ R :=
 acall_okF (ρ := [a0]) TT_ok Tryz.func32 rfl x32 x32_ok rfl h
def s_impl_SymFault (a0 : AV) (σ : AH) (R : AEnd → AH → Prop) : Prop :=
 jn (X := Tup [11]) (fun x1 σ =>
 apick x1.1 (
 aret (.val (.int .i64 5)) σ R) (
 aret (.val (.int .i64 0)) σ R)) fun k1 =>
 og (lenStr a0) fun v4 =>
 acall TP fn_impl_in [v4, (.val (.int .i64 1)), (.val (.int .i64 12))] σ (onr (fun v5 σ =>
 og (aun .not v5) fun v6 =>
 og (gval v6 false false (some a0)) fun v8 =>
 gpick v6 (
 k1 ((.val (.bool true)), ()) σ) (
 acall TP fn_strings_Trim [v8, (.val (.string ⟨#[97, 98, 99, 100, 101, 102, 103, 104, 105, 106, 107, 108, 109, 110, 111, 112, 113, 114, 115, 116, 117, 118, 119, 120, 121, 122, 43, 45, 42, 47, 60, 61, 63, 33]⟩))] σ (onr (fun v9 σ =>
 og (sbin .neq v9 (.val (.string ⟨#[]⟩))) fun v10 =>
 k1 (v10, ()) σ) (fun v σ => apan v σ R))) (False)) (fun v σ => apan v σ R))
def x33 : Sx := .jn 13 [11] (.apick (.var 0) (.ret (.lit (iv 5))) (.ret (.lit (iv 0)))) (.og (.lenStr (.var 0)) (.call 23 [(.var 0), (.lit (iv 1)), (.lit (iv 12))] (.og (.aun .not (.var 0)) (.gog (.var 0) false false (.ret (.var 3)) (.gpick (.var 1) (.jump 0 [(.lit (.val (.bool true)))]) (.call 55 [(.var 0), (.lit (.val (.string ⟨#[97, 98, 99, 100, 101, 102, 103, 104, 105, 106, 107, 108, 109, 110, 111, 112, 113, 114, 115, 116, 117, 118, 119, 120, 121, 122, 43, 45, 42, 47, 60, 61, 63, 33]⟩)))] (.og (.sbin .neq (.var 0) (.lit (.val (.string ⟨#[]⟩)))) (.jump 0 [(.var 0)]))) (.no))))))
theorem x33_ok : okF TT Tryz.f33 1 x33 = true := by decide +kernel
theorem s_impl_SymFault_ok {a0 : AV} {σ : AH} {R : AEnd → AH → Prop} (h : s_impl_SymFault a0 σ R) : acall TP fn_impl_SymFault [a0] σ R :=
 acall_okF (ρ := [a0]) TT_ok Tryz.func33 rfl x33 x33_ok rfl h
def s_impl_DataFault (a0 : AV) (σ : AH) (R : AEnd → AH → Prop) : Prop :=
 og (lenS a0) fun v6 =>
 acall TP fn_impl_in [v6, (.val (.int .i64 1)), (.val (.int .i64 80))] σ (onr (fun v7 σ =>
 og (aun .not v7) fun v8 =>
 apick v8 (
 aret (.val (.int .i64 2)) σ R) (
 og (lenS a0) fun v10 =>
 lp (X := Tup [0, 10, 11]) (fun R1 y1 σ =>
 og (ibin .lss y1.2.2.1 y1.2.1) fun v12 =>
 apick v12 (
 acall TP fn_impl_datumFault [y1.1, y1.2.2.1] σ (onr (fun v16 σ =>
 og (ibin .neq v16 (.val (.int .i64 0))) fun v18 =>
 apick v18 (
 aret v16 σ R) (
 og (ibin .add y1.2.2.1 (.val (.int .i64 1))) fun v20 =>
 R1 (y1.1, y1.2.1, v20, ()) σ)) (fun v σ => apan v σ R))) (
 aret (.val (.int .i64 0)) σ R)) (a0, v10, (.val (.int .i64 0)), ()) σ)) (fun v σ => apan v σ R))
def x34 : Sx := .og (.lenS (.var 0)) (.call 23 [(.var 0), (.lit (iv 1)), (.lit (iv 80))] (.og (.aun .not (.var 0)) (.apick (.var 0) (.ret (.lit (iv 2))) (.og (.lenS (.var 3)) (.lp [0, 10, 11] (.og (.ibin .lss (.var 2) (.var 1)) (.apick (.var 0) (.call 56 [(.var 1), (.var 3)] (.og (.ibin .neq (.var 0) (.lit (iv 0))) (.apick (.var 0) (.ret (.var 1)) (.og (.ibin .add (.var 5) (.lit (iv 1))) (.jump 0 [(.var 4), (.var 5), (.var 0)]))))) (.ret (.lit (iv 0))))) [(.var 4), (.var 0), (.lit (iv 0))])))))
theorem x34_ok : okF TT Tryz.f34 1 x34 = true := by decide +kernel
theorem s_impl_DataFault_ok {a0 : AV} {σ : AH} {R : AEnd → AH → Prop} (h : s_impl_DataFault a0 σ R) : acall TP fn_impl_DataFault [a0] σ R :=
 acall_okF (ρ := [a0]) TT_ok Tryz.func34 rfl x34 x34_ok rfl h
def s_spec_l9Draw (a0 : AV) (σ : AH) (R : AEnd → AH → Prop) : Prop :=
 acall TP fn_spec_l4Datum [a0] σ (onr (fun v7 σ =>
 acall TP fn_spec_ExpandData [v7] σ (onr (fun v8 σ =>
 new [(.val (.int .i64 0)), (.val (.slice none 0 0))] σ fun v3 σ =>
 sto 2 v3 v8 σ fun σ =>
 frz v3 σ fun f3 σ =>
 og (fldA 0 f3) fun v9 =>
 og (lod v9 σ) fun v10 =>
 og (ibin .neq v10 (.val (.int .i64 0))) fun v11 =>
 apick v11 (
 og (bld [(.val (.int .i64 0)), (.val (.int .i64 0)), (.val (.int .i64 0)), (.val (.int .i64 0)), (.val (.int .i64 0)), (.val (.string ⟨#[]⟩)), (.val (.slice none 0 0))] [(0, 1), (1, 1), (2, 1), (3, 1), (4, 1), (5, 1), (6, 1)] [(0, (.val (.int .i64 12)))]) fun v12 =>
 bsl 7 [(.val (.int .i64 0)), (.val (.int .i64 0)), (.val (.int .i64 0)), (.val (.int .i64 0)), (.val (.int .i64 0)), (.val (.string ⟨#[]⟩)), (.val (.slice none 0 0))] 1 [(0, v12)] σ fun v13 σ =>
 og (bld [(.val (.int .i64 0)), (.val (.slice none 0 0))] [(0, 1), (1, 1)] [(1, v13)]) fun v14 =>
 bsl 2 [(.val (.int .i64 0)), (.val (.slice none 0 0))] 1 [(0, v14)] σ fun v15 σ =>
 aret v15 σ R) (
 og (fldA 1 f3) fun v17 =>
 og (lod v17 σ) fun v18 =>
 acall TP fn_spec_l9Code [v18] σ (onr (fun v19 σ =>
 og (aext v19 0) fun v20 =>
 og (aext v19 1) fun v21 =>
 aret v20 σ R) (fun v σ => apan v σ R)))) (fun v σ => apan v σ R))) (fun v σ => apan v σ R))
def x35 : Sx := .call 58 [(.var 0)] (.call 57 [(.var 0)] (.new [(iv 0), (.val (.slice none 0 0))] (.sto 2 (.var 0) (.var 1) (.frz 3 (.var 0) (.og (.fldA 0 (.var 0)) (.og (.lod (.var 0)) (.og (.ibin .neq (.var 0) (.lit (iv 0))) (.apick (.var 0) (.og (.bld [(iv 0), (iv 0), (iv 0), (iv 0), (iv 0), (.val (.string ⟨#[]⟩)), (.val (.slice none 0 0))] [(0, 1), (1, 1), (2, 1), (3, 1), (4, 1), (5, 1), (6, 1)] [(0, (.lit (iv 12)))]) (.bsl 7 [(iv 0), (iv 0), (iv 0), (iv 0), (iv 0), (.val (.string ⟨#[]⟩)), (.val (.slice none 0 0))] 1 [(0, (.var 0))] (.og (.bld [(iv 0), (.val (.slice none 0 0))] [(0, 1), (1, 1)] [(1, (.var 0))]) (.bsl 2 [(iv 0), (.val (.slice none 0 0))] 1 [(0, (.var 0))] (.ret (.var 0)))))) (.og (.fldA 1 (.var 3)) (.og (.lod (.var 0)) (.call 59 [(.var 0)] (.og (.aext (.var 0) 0) (.og (.aext (.var 1) 1) (.ret (.var 1)))))))))))))))
theorem x35_ok : okF TT Tryz.f35 1 x35 = true := by decide +kernel
theorem s_spec_l9Draw_ok {a0 : AV} {σ : AH} {R : AEnd → AH → Prop} (h : s_spec_l9Draw a0 σ R) : acall TP fn_spec_l9Draw [a0] σ R :=
 acall_okF (ρ := [a0]) TT_ok Tryz.func35 rfl x35 x35_ok rfl h
def s_spec_l1Pick (a0 a1 : AV) (σ : AH) (R : AEnd → AH → Prop) : Prop :=
 og (lenS a1) fun v8 =>
 acall TP fn_spec_l1Next [a0, v8] σ (onr (fun v9 σ =>
 og (idx 1 a1 v9 σ) fun v10 =>
 og (lod v10 σ) fun v11 =>
 aret v11 σ R) (fun v σ => apan v σ R))
def x36 : Sx := .og (.lenS (.var 0)) (.call 17 [(.var 2), (.var 0)] (.og (.idx 1 (.var 2) (.var 0)) (.og (.lod (.var 0)) (.ret (.var 0)))))
theorem x36_ok : okF TT Tryz.f36 2 x36 = true := by decide +kernel
theorem s_spec_l1Pick_ok {a0 a1 : AV} {σ : AH} {R : AEnd → AH → Prop} (h : s_spec_l1Pick a0 a1 σ R) : acall TP fn_spec_l1Pick [a0, a1] σ R :=
 acall_okF (ρ := [a1, a0]) TT_ok Tryz.func36 rfl x36 x36_ok rfl h
def s_spec_l3Bent (a0 : AV) (σ : AH) (R : AEnd → AH → Prop) : Prop :=
 acall TP fn_spec_l3Make [a0, (.val (.slice none 0 0)), (.val (.int .i64 (-1))), (.val (.int .i64 4))] σ (onr (fun v6 σ =>
 og (lenS v6) fun v9 =>
 acall TP fn_spec_l1Next [a0, v9] σ (onr (fun v10 σ =>
 jn (X := Tup [3]) (fun x1 σ =>
 aret x1.1 σ R) fun k1 =>
 acall TP fn_spec_l1Next [a0, (.val (.int .i64 12))] σ (onr (fun v12 σ =>
 og (ibin .eql v12 (.val (.int .i64 0))) fun v14 =>
 apick v14 (
 bsl 1 [(.val (.int .i64 0))] 4 [(0, (.val (.int .i64 0))), (1, (.val (.int .i64 5))), (2, (.val (.int .i64 1))), (3, (.val (.int .i64 4)))] σ fun v18 σ =>
 acall TP fn_spec_l1Pick [a0, v18] σ (onr (fun v19 σ =>
 og (idx 4 v6 v10 σ) fun v20 =>
 og (fldA 0 v20) fun v21 =>
 sto 1 v21 v19 σ fun σ =>
 k1 (v6, ()) σ) (fun v σ => apan v σ R))) (
 og (ibin .eql v12 (.val (.int .i64 1))) fun v23 =>
 apick v23 (
 bsl 1 [(.val (.int .i64 0))] 4 [(0, (.val (.int .i64 (-1)))), (1, (.val (.int .i64 0))), (2, (.val (.int .i64 1))), (3, (.val (.int .i64 90)))] σ fun v27 σ =>
 acall TP fn_spec_l1Pick [a0, v27] σ (onr (fun v28 σ =>
 og (idx 4 v6 v10 σ) fun v29 =>
 og (fldA 1 v29) fun v30 =>
 sto 1 v30 v28 σ fun σ =>
 k1 (v6, ()) σ) (fun v σ => apan v σ R))) (
 og (ibin .eql v12 (.val (.int .i64 2))) fun v32 =>
 apick v32 (
 bsl 1 [(.val (.int .i64 0))] 2 [(0, (.val (.int .i64 2))), (1, (.val (.int .i64 1000000001)))] σ fun v36 σ =>
 acall TP fn_spec_l1Pick [a0, v36] σ (onr (fun v37 σ =>
 og (idx 4 v6 v10 σ) fun v38 =>
 og (fldA 2 v38) fun v39 =>
 sto 1 v39 v37 σ fun σ =>
 k1 (v6, ()) σ) (fun v σ => apan v σ R))) (
 og (ibin .eql v12 (.val (.int .i64 3))) fun v41 =>
 apick v41 (
 bsl 1 [(.val (.string ⟨#[]⟩))] 3 [(0, (.val (.string ⟨#[]⟩))), (1, (.val (.string ⟨#[65]⟩))), (2, (.val (.string ⟨#[120]⟩)))] σ fun v44 σ =>
 acall TP fn_spec_l1Next [a0, (.val (.int .i64 3))] σ (onr (fun v46 σ =>
 og (idx 1 v44 v46 σ) fun v47 =>
 og (lod v47 σ) fun v48 =>
 og (idx 4 v6 v10 σ) fun v49 =>
 og (fldA 3 v49) fun v50 =>
 sto 1 v50 v48 σ fun σ =>
 k1 (v6, ()) σ) (fun v σ => apan v σ R))) (
 og (ibin .eql v12 (.val (.int .i64 4))) fun v52 =>
 apick v52 (
 amake TT ty_LRiiisE (.val (.int .i64 81)) (.val (.int .i64 81)) σ fun v53 σ =>
 k1 (v53, ()) σ) (
 k1 (v6, ()) σ)))))) (fun v σ => apan v σ R))) (fun v σ => apan v σ R))) (fun v σ => apan v σ R))
def x37 : Sx := .call 60 [(.var 0), (.lit (.val (.slice none 0 0))), (.lit (iv (-1))), (.lit (iv 4))] (.og (.lenS (.var 0)) (.call 17 [(.var 2), (.var 0)] (.jn 31 [3] (.ret (.var 0)) (.call 17 [(.var 3), (.lit (iv 12))] (.og (.ibin .eql (.var 0) (.lit (iv 0))) (.apick (.var 0) (.bsl 1 [(iv 0)] 4 [(0, (.lit (iv 0))), (1, (.lit (iv 5))), (2, (.lit (iv 1))), (3, (.lit (iv 4)))] (.call 36 [(.var 6), (.var 0)] (.og (.idx 4 (.var 6) (.var 4)) (.og (.fldA 0 (.var 0)) (.sto 1 (.var 0) (.var 2) (.jump 0 [(.var 8)])))))) (.og (.ibin .eql (.var 1) (.lit (iv 1))) (.apick (.var 0) (.bsl 1 [(iv 0)] 4 [(0, (.lit (iv (-1)))), (1, (.lit (iv 0))), (2, (.lit (iv 1))), (3, (.lit (iv 90)))] (.call 36 [(.var 7), (.var 0)] (.og (.idx 4 (.var 7) (.var 5)) (.og (.fldA 1 (.var 0)) (.sto 1 (.var 0) (.var 2) (.jump 0 [(.var 9)])))))) (.og (.ibin .eql (.var 2) (.lit (iv 2))) (.apick (.var 0) (.bsl 1 [(iv 0)] 2 [(0, (.lit (iv 2))), (1, (.lit (iv 1000000001)))] (.call 36 [(.var 8), (.var 0)] (.og (.idx 4 (.var 8) (.var 6)) (.og (.fldA 2 (.var 0)) (.sto 1 (.var 0) (.var 2) (.jump 0 [(.var 10)])))))) (.og (.ibin .eql (.var 3) (.lit (iv 3))) (.apick (.var 0) (.bsl 1 [(.val (.string ⟨#[]⟩))] 3 [(0, (.lit (.val (.string ⟨#[]⟩)))), (1, (.lit (.val (.string ⟨#[65]⟩)))), (2, (.lit (.val (.string ⟨#[120]⟩))))] (.call 17 [(.var 9), (.lit (iv 3))] (.og (.idx 1 (.var 1) (.var 0)) (.og (.lod (.var 0)) (.og (.idx 4 (.var 11) (.var 9)) (.og (.fldA 3 (.var 0)) (.sto 1 (.var 0) (.var 2) (.jump 0 [(.var 13)])))))))) (.og (.ibin .eql (.var 4) (.lit (iv 4))) (.apick (.var 0) (.mks 32 (.lit (iv 81)) (.lit (iv 81)) (.jump 0 [(.var 0)])) (.jump 0 [(.var 8)])))))))))))))))
theorem x37_ok : okF TT Tryz.f37 1 x37 = true := by decide +kernel
theorem s_spec_l3Bent_ok {a0 : AV} {σ : AH} {R : AEnd → AH → Prop} (h : s_spec_l3Bent a0 σ R) : acall TP fn_spec_l3Bent [a0] σ R :=
 acall_okF (ρ := [a0]) TT_ok Tryz.func37 rfl x37 x37_ok rfl h
def s_impl_Op_takes (a0 : AV) (σ : AH) (R : AEnd → AH → Prop) : Prop :=
 abox a0 σ fun v1 σ =>
 frz v1 σ fun f1 σ =>
 og (fldA 0 f1) fun v3 =>
 og (lod v3 σ) fun v4 =>
 jn (X := Tup [1, 4, 5]) (fun x1 σ =>
 apick x1.2.2.1 (
 aret (.val (.int .i64 1)) σ R) (
 og (ibin .eql x1.2.1 (.val (.int .i64 10))) fun v11 =>
 apick v11 (
 og (fldA 1 x1.1) fun v12 =>
 og (lod v12 σ) fun v13 =>
 og (ibin .add v13 (.val (.int .i64 1))) fun v14 =>
 aret v14 σ R) (
 aret (.val (.int .i64 0)) σ R))) fun k1 =>
 og (ibin .eql v4 (.val (.int .i64 6))) fun v6 =>
 apick v6 (
 k1 (f1, v4, v6, ()) σ) (
 og (ibin .eql v4 (.val (.int .i64 7))) fun v7 =>
 apick v7 (
 k1 (f1, v4, v7, ()) σ) (
 og (ibin .eql v4 (.val (.int .i64 8))) fun v8 =>
 apick v8 (
 k1 (f1, v4, v8, ()) σ) (
 og (ibin .eql v4 (.val (.int .i64 9))) fun v9 =>
 k1 (f1, v4, v9, ()) σ)))
def x38 : Sx := .box (.var 0) (.frz 1 (.var 0) (.og (.fldA 0 (.var 0)) (.og (.lod (.var 0)) (.jn 53 [1, 4, 5] (.apick (.var 2) (.ret (.lit (iv 1))) (.og (.ibin .eql (.var 1) (.lit (iv 10))) (.apick (.var 0) (.og (.fldA 1 (.var 1)) (.og (.lod (.var 0)) (.og (.ibin .add (.var 0) (.lit (iv 1))) (.ret (.var 0))))) (.ret (.lit (iv 0)))))) (.og (.ibin .eql (.var 0) (.lit (iv 6))) (.apick (.var 0) (.jump 0 [(.var 3), (.var 1), (.var 0)]) (.og (.ibin .eql (.var 1) (.lit (iv 7))) (.apick (.var 0) (.jump 0 [(.var 4), (.var 2), (.var 0)]) (.og (.ibin .eql (.var 2) (.lit (iv 8))) (.apick (.var 0) (.jump 0 [(.var 5), (.var 3), (.var 0)]) (.og (.ibin .eql (.var 3) (.lit (iv 9))) (.jump 0 [(.var 6), (.var 4), (.var 0)]))))))))))))
theorem x38_ok : okF TT Tryz.f38 1 x38 = true := by decide +kernel
theorem s_impl_Op_takes_ok {a0 : AV} {σ : AH} {R : AEnd → AH → Prop} (h : s_impl_Op_takes a0 σ R) : acall TP fn_impl_Op_takes [a0] σ R :=
 acall_okF (ρ := [a0]) TT_ok Tryz.func38 rfl x38 x38_ok rfl h
def s_impl_Op_puts (a0 : AV) (σ : AH) (R : AEnd → AH → Prop) : Prop :=
 abox a0 σ fun v1 σ =>
 frz v1 σ fun f1 σ =>
 og (fldA 0 f1) fun v3 =>
 og (lod v3 σ) fun v4 =>
 jn (X := Tup [4, 5]) (fun x1 σ =>
 apick x1.2.1 (
 aret (.val (.int .i64 1)) σ R) (
 og (ibin .eql x1.1 (.val (.int .i64 15))) fun v14 =>
 apick v14 (
 aret (.val (.int .i64 2)) σ R) (
 aret (.val (.int .i64 0)) σ R))) fun k1 =>
 og (ibin .eql v4 (.val (.int .i64 1))) fun v6 =>
 apick v6 (
 k1 (v4, v6, ()) σ) (
 og (ibin .eql v4 (.val (.int .i64 2))) fun v7 =>
 apick v7 (
 k1 (v4, v7, ()) σ) (
 og (ibin .eql v4 (.val (.int .i64 3))) fun v8 =>
 apick v8 (
 k1 (v4, v8, ()) σ) (
 og (ibin .eql v4 (.val (.int .i64 4))) fun v9 =>
 apick v9 (
 k1 (v4, v9, ()) σ) (
 og (ibin .eql v4 (.val (.int .i64 8))) fun v10 =>
 apick v10 (
 k1 (v4, v10, ()) σ) (
 og (ibin .eql v4 (.val (.int .i64 9))) fun v11 =>
 apick v11 (
 k1 (v4, v11, ()) σ) (
 og (ibin .eql v4 (.val (.int .i64 10))) fun v12 =>
 k1 (v4, v12, ()) σ))))))
def x39 : Sx := .box (.var 0) (.frz 1 (.var 0) (.og (.fldA 0 (.var 0)) (.og (.lod (.var 0)) (.jn 53 [4, 5] (.apick (.var 1) (.ret (.lit (iv 1))) (.og (.ibin .eql (.var 0) (.lit (iv 15))) (.apick (.var 0) (.ret (.lit (iv 2))) (.ret (.lit (iv 0)))))) (.og (.ibin .eql (.var 0) (.lit (iv 1))) (.apick (.var 0) (.jump 0 [(.var 1), (.var 0)]) (.og (.ibin .eql (.var 1) (.lit (iv 2))) (.apick (.var 0) (.jump 0 [(.var 2), (.var 0)]) (.og (.ibin .eql (.var 2) (.lit (iv 3))) (.apick (.var 0) (.jump 0 [(.var 3), (.var 0)]) (.og (.ibin .eql (.var 3) (.lit (iv 4))) (.apick (.var 0) (.jump 0 [(.var 4), (.var 0)]) (.og (.ibin .eql (.var 4) (.lit (iv 8))) (.apick (.var 0) (.jump 0 [(.var 5), (.var 0)]) (.og (.ibin .eql (.var 5) (.lit (iv 9))) (.apick (.var 0) (.jump 0 [(.var 6), (.var 0)]) (.og (.ibin .eql (.var 6) (.lit (iv 10))) (.jump 0 [(.var 7), (.var 0)]))))))))))))))))))
theorem x39_ok : okF TT Tryz.f39 1 x39 = true := by decide +kernel
theorem s_impl_Op_puts_ok {a0 : AV} {σ : AH} {R : AEnd → AH → Prop} (h : s_impl_Op_puts a0 σ R) : acall TP fn_impl_Op_puts [a0] σ R :=
 acall_okF (ρ := [a0]) TT_ok Tryz.func39 rfl x39 x39_ok rfl h
def s_impl_Op_ends (a0 a1 : AV) (σ : AH) (R : AEnd → AH → Prop) : Prop :=
 abox a0 σ fun v2 σ =>
 frz v2 σ fun f2 σ =>
 og (fldA 0 f2) fun v5 =>
 og (lod v5 σ) fun v6 =>
 og (ibin .eql v6 (.val (.int .i64 12))) fun v8 =>
 apick v8 (
 og (ibin .eql a1 (.val (.int .i64 1))) fun v10 =>
 aret v10 σ R) (
 og (ibin .eql v6 (.val (.int .i64 11))) fun v12 =>
 apick v12 (
 og (fldA 1 f2) fun v14 =>
 og (lod v14 σ) fun v15 =>
 og (ibin .add v15 (.val (.int .i64 1))) fun v16 =>
 og (ibin .eql a1 v16) fun v17 =>
 aret v17 σ R) (
 jn (X := Tup [1, 18]) (fun x1 σ =>
 apick x1.2.1 (
 og (ibin .eql x1.1 (.val (.int .i64 0))) fun v22 =>
 aret v22 σ R) (
 aret (.val (.bool true)) σ R)) fun k1 =>
 og (ibin .eql v6 (.val (.int .i64 13))) fun v19 =>
 apick v19 (
 k1 (a1, v19, ()) σ) (
 og (ibin .eql v6 (.val (.int .i64 14))) fun v20 =>
 k1 (a1, v20, ()) σ)))
def x40 : Sx := .box (.var 1) (.frz 2 (.var 0) (.og (.fldA 0 (.var 0)) (.og (.lod (.var 0)) (.og (.ibin .eql (.var 0) (.lit (iv 12))) (.apick (.var 0) (.og (.ibin .eql (.var 5) (.lit (iv 1))) (.ret (.var 0))) (.og (.ibin .eql (.var 1) (.lit (iv 11))) (.apick (.var 0) (.og (.fldA 1 (.var 4)) (.og (.lod (.var 0)) (.og (.ibin .add (.var 0) (.lit (iv 1))) (.og (.ibin .eql (.var 9) (.var 0)) (.ret (.var 0)))))) (.jn 863 [1, 18] (.apick (.var 1) (.og (.ibin .eql (.var 0) (.lit (iv 0))) (.ret (.var 0))) (.ret (.lit (.val (.bool true))))) (.og (.ibin .eql (.var 2) (.lit (iv 13))) (.apick (.var 0) (.jump 0 [(.var 7), (.var 0)]) (.og (.ibin .eql (.var 3) (.lit (iv 14))) (.jump 0 [(.var 8), (.var 0)]))))))))))))
theorem x40_ok : okF TT Tryz.f40 2 x40 = true := by decide +kernel
theorem s_impl_Op_ends_ok {a0 a1 : AV} {σ : AH} {R : AEnd → AH → Prop} (h : s_impl_Op_ends a0 a1 σ R) : acall TP fn_impl_Op_ends [a0, a1] σ R :=
 acall_okF (ρ := [a1, a0]) TT_ok Tryz.func40 rfl x40 x40_ok rfl h
def s_impl_Op_goesOn (a0 : AV) (σ : AH) (R : AEnd → AH → Prop) : Prop :=
 abox a0 σ fun v1 σ =>
 frz v1 σ fun f1 σ =>
 og (fldA 0 f1) fun v3 =>
 og (lod v3 σ) fun v4 =>
 jn (X := Tup [5]) (fun x1 σ =>
 apick x1.1 (
 aret (.val (.bool false)) σ R) (
 aret (.val (.bool true)) σ R)) fun k1 =>
 og (ibin .eql v4 (.val (.int .i64 5))) fun v6 =>
 apick v6 (
 k1 (v6, ()) σ) (
 og (ibin .eql v4 (.val (.int .i64 11))) fun v7 =>
 apick v7 (
 k1 (v7, ()) σ) (
 og (ibin .eql v4 (.val (.int .i64 12))) fun v8 =>
 apick v8 (
 k1 (v8, ()) σ) (
 og (ibin .eql v4 (.val (.int .i64 13))) fun v9 =>
 apick v9 (
 k1 (v9, ()) σ) (
 og (ibin .eql v4 (.val (.int .i64 14))) fun v10 =>
 k1 (v10, ()) σ))))
def x41 : Sx := .box (.var 0) (.frz 1 (.var 0) (.og (.fldA 0 (.var 0)) (.og (.lod (.var 0)) (.jn 53 [5] (.apick (.var 0) (.ret (.lit (.val (.bool false)))) (.ret (.lit (.val (.bool true))))) (.og (.ibin .eql (.var 0) (.lit (iv 5))) (.apick (.var 0) (.jump 0 [(.var 0)]) (.og (.ibin .eql (.var 1) (.lit (iv 11))) (.apick (.var 0) (.jump 0 [(.var 0)]) (.og (.ibin .eql (.var 2) (.lit (iv 12))) (.apick (.var 0) (.jump 0 [(.var 0)]) (.og (.ibin .eql (.var 3) (.lit (iv 13))) (.apick (.var 0) (.jump 0 [(.var 0)]) (.og (.ibin .eql (.var 4) (.lit (iv 14))) (.jump 0 [(.var 0)]))))))))))))))
theorem x41_ok : okF TT Tryz.f41 1 x41 = true := by decide +kernel
theorem s_impl_Op_goesOn_ok {a0 : AV} {σ : AH} {R : AEnd → AH → Prop} (h : s_impl_Op_goesOn a0 σ R) : acall TP fn_impl_Op_goesOn [a0] σ R :=
 acall_okF (ρ := [a0]) TT_ok Tryz.func41 rfl x41 x41_ok rfl h
def s_impl_Op_target (a0 : AV) (σ : AH) (R : AEnd → AH → Prop) : Prop :=
 og (anil a0) fun v4 =>
 og (fldA 0 v4) fun v5 =>
 og (lod v5 σ) fun v6 =>
 jn (X := Tup [0, 6, 7]) (fun x1 σ =>
 apick x1.2.2.1 (
 og (anil x1.1) fun v11 =>
 og (fldA 1 v11) fun v12 =>
 aret v12 σ R) (
 og (ibin .eql x1.2.1 (.val (.int .i64 16))) fun v14 =>
 apick v14 (
 og (anil x1.1) fun v16 =>
 og (fldA 3 v16) fun v17 =>
 aret v17 σ R) (
 aret (.val (.pointer none)) σ R))) fun k1 =>
 og (ibin .eql v6 (.val (.int .i64 5))) fun v8 =>
 apick v8 (
 k1 (a0, v6, v8, ()) σ) (
 og (ibin .eql v6 (.val (.int .i64 6))) fun v9 =>
 k1 (a0, v6, v9, ()) σ)
def x42 : Sx := .og (.anil (.var 0)) (.og (.fldA 0 (.var 0)) (.og (.lod (.var 0)) (.jn 53 [0, 6, 7] (.apick (.var 2) (.og (.anil (.var 0)) (.og (.fldA 1 (.var 0)) (.ret (.var 0)))) (.og (.ibin .eql (.var 1) (.lit (iv 16))) (.apick (.var 0) (.og (.anil (.var 1)) (.og (.fldA 3 (.var 0)) (.ret (.var 0)))) (.ret (.lit (.val (.pointer none))))))) (.og (.ibin .eql (.var 0) (.lit (iv 5))) (.apick (.var 0) (.jump 0 [(.var 4), (.var 1), (.var 0)]) (.og (.ibin .eql (.var 1) (.lit (iv 6))) (.jump 0 [(.var 5), (.var 2), (.var 0)])))))))
theorem x42_ok : okF TT Tryz.f42 1 x42 = true := by decide +kernel
theorem s_impl_Op_target_ok {a0 : AV} {σ : AH} {R : AEnd → AH → Prop} (h : s_impl_Op_target a0 σ R) : acall TP fn_impl_Op_target [a0] σ R :=
 acall_okF (ρ := [a0]) TT_ok Tryz.func42 rfl x42 x42_ok rfl h
def s_spec_l9Block (a0 : AV) (σ : AH) (R : AEnd → AH → Prop) : Prop :=
 og (anil a0) fun v6 =>
 og (fldA 0 v6) fun v7 =>
 og (lod v7 σ) fun v8 =>
 acall TP fn_spec_l1In [v8, (.val (.int .i64 0)), (.val (.int .i64 3))] σ (onr (fun v9 σ =>
 og (aun .not v9) fun v10 =>
 apick v10 (
 aret (.val (.int .i64 3)) σ R) (
 og (anil a0) fun v12 =>
 og (fldA 1 v12) fun v13 =>
 og (lod v13 σ) fun v14 =>
 og (lenS v14) fun v15 =>
 og (ibin .gtr v15 (.val (.int .i64 200))) fun v16 =>
 apick v16 (
 aret (.val (.int .i64 2)) σ R) (
 lp (X := Tup [0, 3]) (fun R1 y1 σ =>
 og (anil y1.1) fun v19 =>
 og (fldA 1 v19) fun v20 =>
 og (lod v20 σ) fun v21 =>
 og (lenS v21) fun v22 =>
 og (ibin .lss y1.2.1 v22) fun v23 =>
 apick v23 (
 og (anil y1.1) fun v27 =>
 og (fldA 1 v27) fun v28 =>
 og (lod v28 σ) fun v29 =>
 og (idx 7 v29 y1.2.1 σ) fun v31 =>
 acall TP fn_spec_l9Op [v31] σ (onr (fun v32 σ =>
 og (ibin .neq v32 (.val (.int .i64 0))) fun v34 =>
 apick v34 (
 aret v32 σ R) (
 og (ibin .add y1.2.1 (.val (.int .i64 1))) fun v25 =>
 R1 (y1.1, v25, ()) σ)) (fun v σ => apan v σ R))) (
 aret (.val (.int .i64 0)) σ R)) (a0, (.val (.int .i64 0)), ()) σ))) (fun v σ => apan v σ R))
def x43 : Sx := .og (.anil (.var 0)) (.og (.fldA 0 (.var 0)) (.og (.lod (.var 0)) (.call 26 [(.var 0), (.lit (iv 0)), (.lit (iv 3))] (.og (.aun .not (.var 0)) (.apick (.var 0) (.ret (.lit (iv 3))) (.og (.anil (.var 5)) (.og (.fldA 1 (.var 0)) (.og (.lod (.var 0)) (.og (.lenS (.var 0)) (.og (.ibin .gtr (.var 0) (.lit (iv 200))) (.apick (.var 0) (.ret (.lit (iv 2))) (.lp [0, 3] (.og (.anil (.var 0)) (.og (.fldA 1 (.var 0)) (.og (.lod (.var 0)) (.og (.lenS (.var 0)) (.og (.ibin .lss (.var 5) (.var 0)) (.apick (.var 0) (.og (.anil (.var 5)) (.og (.fldA 1 (.var 0)) (.og (.lod (.var 0)) (.og (.idx 7 (.var 0) (.var 9)) (.call 61 [(.var 0)] (.og (.ibin .neq (.var 0) (.lit (iv 0))) (.apick (.var 0) (.ret (.var 1)) (.og (.ibin .add (.var 12) (.lit (iv 1))) (.jump 0 [(.var 12), (.var 0)]))))))))) (.ret (.lit (iv 0))))))))) [(.var 10), (.lit (iv 0))]))))))))))))
theorem x43_ok : okF TT Tryz.f43 1 x43 = true := by decide +kernel
theorem s_spec_l9Block_ok {a0 : AV} {σ : AH} {R : AEnd → AH → Prop} (h : s_spec_l9Block a0 σ R) : acall TP fn_spec_l9Block [a0] σ R :=
 acall_okF (ρ := [a0]) TT_ok Tryz.func43 rfl x43 x43_ok rfl h
def s_spec_l9Target (a0 : AV) (σ : AH) (R : AEnd → AH → Prop) : Prop :=
 og (anil a0) fun v4 =>
 og (fldA 0 v4) fun v5 =>
 og (lod v5 σ) fun v6 =>
 jn (X := Tup [0, 6, 7]) (fun x1 σ =>
 apick x1.2.2.1 (
 og (anil x1.1) fun v11 =>
 og (fldA 1 v11) fun v12 =>
 og (lod v12 σ) fun v13 =>
 aret v13 σ R) (
 og (ibin .eql x1.2.1 (.val (.int .i64 16))) fun v15 =>
 apick v15 (
 og (anil x1.1) fun v17 =>
 og (fldA 3 v17) fun v18 =>
 og (lod v18 σ) fun v19 =>
 aret v19 σ R) (
 aret (.val (.int .i64 (-1))) σ R))) fun k1 =>
 og (ibin .eql v6 (.val (.int .i64 5))) fun v8 =>
 apick v8 (
 k1 (a0, v6, v8, ()) σ) (
 og (ibin .eql v6 (.val (.int .i64 6))) fun v9 =>
 k1 (a0, v6, v9, ()) σ)
def x44 : Sx := .og (.anil (.var 0)) (.og (.fldA 0 (.var 0)) (.og (.lod (.var 0)) (.jn 53 [0, 6, 7] (.apick (.var 2) (.og (.anil (.var 0)) (.og (.fldA 1 (.var 0)) (.og (.lod (.var 0)) (.ret (.var 0))))) (.og (.ibin .eql (.var 1) (.lit (iv 16))) (.apick (.var 0) (.og (.anil (.var 1)) (.og (.fldA 3 (.var 0)) (.og (.lod (.var 0)) (.ret (.var 0))))) (.ret (.lit (iv (-1))))))) (.og (.ibin .eql (.var 0) (.lit (iv 5))) (.apick (.var 0) (.jump 0 [(.var 4), (.var 1), (.var 0)]) (.og (.ibin .eql (.var 1) (.lit (iv 6))) (.jump 0 [(.var 5), (.var 2), (.var 0)])))))))
theorem x44_ok : okF TT Tryz.f44 1 x44 = true := by decide +kernel
theorem s_spec_l9Target_ok {a0 : AV} {σ : AH} {R : AEnd → AH → Prop} (h : s_spec_l9Target a0 σ R) : acall TP fn_spec_l9Target [a0] σ R :=
 acall_okF (ρ := [a0]) TT_ok Tryz.func44 rfl x44 x44_ok rfl h
def s_spec_l10Pass (a0 a1 : AV) (σ : AH) (R : AEnd → AH → Prop) : Prop :=
 lp (X := Tup [0, 1, 6, 7]) (fun R1 y1 σ =>
 og (anil y1.1) fun v19 =>
 og (fldA 1 v19) fun v20 =>
 og (lod v20 σ) fun v21 =>
 og (lenS v21) fun v22 =>
 og (ibin .lss y1.2.2.2.1 v22) fun v23 =>
 apick v23 (
 jn (X := Tup [0, 1, 6, 7]) (fun x2 σ =>
 og (ibin .add x2.2.2.2.1 (.val (.int .i64 1))) fun v25 =>
 R1 (x2.1, x2.2.1, x2.2.2.1, v25, ()) σ) fun k2 =>
 og (anil y1.1) fun v27 =>
 og (fldA 1 v27) fun v28 =>
 og (lod v28 σ) fun v29 =>
 og (idx 7 v29 y1.2.2.2.1 σ) fun v31 =>
 og (idx 1 y1.2.1 y1.2.2.2.1 σ) fun v34 =>
 og (lod v34 σ) fun v35 =>
 og (ibin .lss v35 (.val (.int .i64 0))) fun v36 =>
 apick v36 (
 k2 (y1.1, y1.2.1, y1.2.2.1, y1.2.2.2.1, ()) σ) (
 og (idx 1 y1.2.1 y1.2.2.2.1 σ) fun v40 =>
 og (lod v40 σ) fun v41 =>
 acall TP fn_spec_l10High [v31, v41] σ (onr (fun v42 σ =>
 og (aun .not v42) fun v43 =>
 apick v43 (
 aret (.tup [(.val (.bool false)), (.val (.bool false))]) σ R) (
 acall TP fn_spec_l10Takes [v31] σ (onr (fun v46 σ =>
 og (aext v46 0) fun v47 =>
 og (aext v46 1) fun v48 =>
 og (idx 1 y1.2.1 y1.2.2.2.1 σ) fun v51 =>
 og (lod v51 σ) fun v52 =>
 og (ibin .sub v52 v47) fun v54 =>
 og (ibin .add v54 v48) fun v56 =>
 jn (X := Tup [0, 1, 6, 7, 8, 11]) (fun x3 σ =>
 acall TP fn_spec_l9Target [x3.2.2.2.2.1] σ (onr (fun v78 σ =>
 og (ibin .geq v78 (.val (.int .i64 0))) fun v80 =>
 apick v80 (
 acall TP fn_spec_l10Lead [x3.2.1, v78, x3.2.2.2.2.2.1] σ (onr (fun v85 σ =>
 og (aext v85 0) fun v86 =>
 og (aext v85 1) fun v87 =>
 og (aun .not v87) fun v89 =>
 apick v89 (
 aret (.tup [(.val (.bool false)), (.val (.bool false))]) σ R) (
 og (gval x3.2.2.1 false false (some v86)) fun v92 =>
 og (pickV x3.2.2.1 (.val (.bool true)) v92) fun v93 =>
 k2 (x3.1, x3.2.1, v93, x3.2.2.2.1, ()) σ)) (fun v σ => apan v σ R))) (
 k2 (x3.1, x3.2.1, x3.2.2.1, x3.2.2.2.1, ()) σ)) (fun v σ => apan v σ R))) fun k3 =>
 og (anil v31) fun v58 =>
 og (fldA 0 v58) fun v59 =>
 og (lod v59 σ) fun v60 =>
 acall TP fn_spec_l10Ends [v60] σ (onr (fun v61 σ =>
 og (aun .not v61) fun v62 =>
 apick v62 (
 og (ibin .add y1.2.2.2.1 (.val (.int .i64 1))) fun v66 =>
 acall TP fn_spec_l10Lead [y1.2.1, v66, v56] σ (onr (fun v68 σ =>
 og (aext v68 0) fun v69 =>
 og (aext v68 1) fun v70 =>
 og (aun .not v70) fun v72 =>
 apick v72 (
 aret (.tup [(.val (.bool false)), (.val (.bool false))]) σ R) (
 og (gval y1.2.2.1 false false (some v69)) fun v75 =>
 og (pickV y1.2.2.1 (.val (.bool true)) v75) fun v76 =>
 k3 (y1.1, y1.2.1, v76, y1.2.2.2.1, v31, v56, ()) σ)) (fun v σ => apan v σ R))) (
 k3 (y1.1, y1.2.1, y1.2.2.1, y1.2.2.2.1, v31, v56, ()) σ)) (fun v σ => apan v σ R))) (fun v σ => apan v σ R)))) (fun v σ => apan v σ R)))) (
 aret (.tup [y1.2.2.1, (.val (.bool true))]) σ R)) (a0, a1, (.val (.bool false)), (.val (.int .i64 0)), ()) σ
def x45 : Sx := .lp [0, 1, 6, 7] (.og (.anil (.var 0)) (.og (.fldA 1 (.var 0)) (.og (.lod (.var 0)) (.og (.lenS (.var 0)) (.og (.ibin .lss (.var 7) (.var 0)) (.apick (.var 0) (.jn 467 [0, 1, 6, 7] (.og (.ibin .add (.var 3) (.lit (iv 1))) (.jump 0 [(.var 1), (.var 2), (.var 3), (.var 0)])) (.og (.anil (.var 5)) (.og (.fldA 1 (.var 0)) (.og (.lod (.var 0)) (.og (.idx 7 (.var 0) (.var 11)) (.og (.idx 1 (.var 10) (.var 12)) (.og (.lod (.var 0)) (.og (.ibin .lss (.var 0) (.lit (iv 0))) (.apick (.var 0) (.jump 0 [(.var 12), (.var 13), (.var 14), (.var 15)]) (.og (.idx 1 (.var 13) (.var 15)) (.og (.lod (.var 0)) (.call 62 [(.var 5), (.var 0)] (.og (.aun .not (.var 0)) (.apick (.var 0) (.rets [(.lit (.val (.bool false))), (.lit (.val (.bool false)))]) (.call 63 [(.var 7)] (.og (.aext (.var 0) 0) (.og (.aext (.var 1) 1) (.og (.idx 1 (.var 20) (.var 22)) (.og (.lod (.var 0)) (.og (.ibin .sub (.var 0) (.var 3)) (.og (.ibin .add (.var 0) (.var 3)) (.jn 59711 [0, 1, 6, 7, 8, 11] (.call 44 [(.var 4)] (.og (.ibin .geq (.var 0) (.lit (iv 0))) (.apick (.var 0) (.call 65 [(.var 3), (.var 1), (.var 7)] (.og (.aext (.var 0) 0) (.og (.aext (.var 1) 1) (.og (.aun .not (.var 0)) (.apick (.var 0) (.rets [(.lit (.val (.bool false))), (.lit (.val (.bool false)))]) (.gog (.var 8) false false (.ret (.var 2)) (.og (.pickV (.var 9) (.lit (.val (.bool true))) (.var 0)) (.jump 0 [(.var 8), (.var 9), (.var 0), (.var 11)])))))))) (.jump 0 [(.var 2), (.var 3), (.var 4), (.var 5)])))) (.og (.anil (.var 14)) (.og (.fldA 0 (.var 0)) (.og (.lod (.var 0)) (.call 64 [(.var 0)] (.og (.aun .not (.var 0)) (.apick (.var 0) (.og (.ibin .add (.var 31) (.lit (iv 1))) (.call 65 [(.var 30), (.var 0), (.var 6)] (.og (.aext (.var 0) 0) (.og (.aext (.var 1) 1) (.og (.aun .not (.var 0)) (.apick (.var 0) (.rets [(.lit (.val (.bool false))), (.lit (.val (.bool false)))]) (.gog (.var 35) false false (.ret (.var 2)) (.og (.pickV (.var 36) (.lit (.val (.bool true))) (.var 0)) (.jump 0 [(.var 35), (.var 36), (.var 0), (.var 38), (.var 26), (.var 12)]))))))))) (.jump 0 [(.var 28), (.var 29), (.var 30), (.var 31), (.var 19), (.var 5)]))))))))))))))))))))))))))))) (.rets [(.var 7), (.lit (.val (.bool true)))]))))))) [(.var 1), (.var 0), (.lit (.val (.bool false))), (.lit (iv 0))]
theorem x45_ok : okF TT Tryz.f45 2 x45 = true := by decide +kernel
theorem s_spec_l10Pass_ok {a0 a1 : AV} {σ : AH} {R : AEnd → AH → Prop} (h : s_spec_l10Pass a0 a1 σ R) : acall TP fn_spec_l10Pass [a0, a1] σ R :=
 acall_okF (ρ := [a1, a0]) TT_ok Tryz.func45 rfl x45 x45_ok rfl h
def s_slices_IndexFunc (a0 a1 : AV) (σ : AH) (R : AEnd → AH → Prop) : Prop :=
 og (lenS a0) fun v7 =>
 lp (X := Tup [0, 1, 7, 8]) (fun R1 y1 σ =>
 og (ibin .lss y1.2.2.2.1 y1.2.2.1) fun v9 =>
 apick v9 (
 og (idx 1 y1.1 y1.2.2.2.1 σ) fun v14 =>
 og (lod v14 σ) fun v15 =>
 acallv TP y1.2.1 [v15] σ (onr (fun v16 σ =>
 apick v16 (
 aret y1.2.2.2.1 σ R) (
 og (ibin .add y1.2.2.2.1 (.val (.int .i64 1))) fun v18 =>
 R1 (y1.1, y1.2.1, y1.2.2.1, v18, ()) σ)) (fun v σ => apan v σ R))) (
 aret (.val (.int .i64 (-1))) σ R)) (a0, a1, v7, (.val (.int .i64 0)), ()) σ
def x54 : Sx := .og (.lenS (.var 1)) (.lp [0, 1, 7, 8] (.og (.ibin .lss (.var 3) (.var 2)) (.apick (.var 0) (.og (.idx 1 (.var 1) (.var 4)) (.og (.lod (.var 0)) (.callv (.var 4) [(.var 0)] (.apick (.var 0) (.ret (.var 7)) (.og (.ibin .add (.var 7) (.lit (iv 1))) (.jump 0 [(.var 5), (.var 6), (.var 7), (.var 0)])))))) (.ret (.lit (iv (-1)))))) [(.var 2), (.var 1), (.var 0), (.lit (iv 0))])
theorem x54_ok : okF TT Tryz.f54 2 x54 = true := by decide +kernel
theorem s_slices_IndexFunc_ok {a0 a1 : AV} {σ : AH} {R : AEnd → AH → Prop} (h : s_slices_IndexFunc a0 a1 σ R) : acall TP fn_slices_IndexFunc [a0, a1] σ R :=
 acall_okF (ρ := [a1, a0]) TT_ok Tryz.func54 rfl x54 x54_ok rfl h
def s_strings_Trim (a0 a1 : AV) (σ : AH) (R : AEnd → AH → Prop) : Prop :=
 og (sbin .eql a0 (.val (.string ⟨#[]⟩))) fun v8 =>
 og (gval v8 false false (some a1)) fun v10 =>
 og (gval v8 false false (sbin .eql v10 (.val (.string ⟨#[]⟩)))) fun v11 =>
 og (pickV v8 (.val (.bool true)) v11) fun v12 =>
 apick v12 (
 aret a0 σ R) (
 og (lenStr a1) fun v15 =>
 og (ibin .eql v15 (.val (.int .i64 1))) fun v16 =>
 og (gval v16 true false (some a1)) fun v18 =>
 og (gval v16 true false (idxStr v18 (.val (.int .i64 0)))) fun v19 =>
 og (gval v16 true false (ibin .lss v19 (.val (.int .u8 128)))) fun v20 =>
 og (pickV v16 v20 (.val (.bool false))) fun v21 =>
 apick v21 (
 og (idxStr a1 (.val (.int .i64 0))) fun v24 =>
 og (idxStr a1 (.val (.int .i64 0))) fun v27 =>
 acall TP fn_strings_trimRightByte [a0, v24] σ (onr (fun v25 σ =>
 (True) ∧
 acall TP fn_strings_trimLeftByte [v25, v27] σ (onr (fun v28 σ =>
 (True) ∧
 aret v28 σ R) (fun v σ => apan v σ R))) (fun v σ => apan v σ R))) (
 acall TP fn_strings_makeASCIISet [a1] σ (onr (fun v31 σ =>
 og (aext v31 0) fun v32 =>
 og (aext v31 1) fun v33 =>
 new (List.replicate 256 (.val (.bool false))) σ fun v5 σ =>
 sto 256 v5 v32 σ fun σ =>
 frz v5 σ fun f5 σ =>
 apick v33 (
 acall TP fn_strings_trimRightASCII [a0, f5] σ (onr (fun v36 σ =>
 acall TP fn_strings_trimLeftASCII [v36, f5] σ (onr (fun v37 σ =>
 aret v37 σ R) (fun v σ => apan v σ R))) (fun v σ => apan v σ R))) (
 acall TP fn_strings_trimRightUnicode [a0, a1] σ (onr (fun v40 σ =>
 acall TP fn_strings_trimLeftUnicode [v40, a1] σ (onr (fun v42 σ =>
 aret v42 σ R) (fun v σ => apan v σ R))) (fun v σ => apan v σ R)))) (fun v σ => apan v σ R))))
def x55 : Sx := .og (.sbin .eql (.var 1) (.lit (.val (.string ⟨#[]⟩)))) (.gog (.var 0) false false (.ret (.var 1)) (.gog (.var 1) false false (.sbin .eql (.var 0) (.lit (.val (.string ⟨#[]⟩)))) (.og (.pickV (.var 2) (.lit (.val (.bool true))) (.var 0)) (.apick (.var 0) (.ret (.var 5)) (.og (.lenStr (.var 4)) (.og (.ibin .eql (.var 0) (.lit (iv 1))) (.gog (.var 0) true false (.ret (.var 6)) (.gog (.var 1) true false (.idxStr (.var 0) (.lit (iv 0))) (.gog (.var 2) true false (.ibin .lss (.var 0) (.lit (.val (.int .u8 128)))) (.og (.pickV (.var 3) (.var 0) (.lit (.val (.bool false)))) (.apick (.var 0) (.ord [0, 1, 2, 4, 5, 3, 6, 7] [0, 0, 2, 7, 0, 16, 63, 127] (.og (.idxStr (.var 10) (.lit (iv 0))) (.og (.idxStr (.var 11) (.lit (iv 0))) (.call 70 [(.var 13), (.var 1)] (.wat [] (.call 69 [(.var 0), (.var 1)] (.wat [] (.ret (.var 0))))))))) (.call 71 [(.var 10)] (.og (.aext (.var 0) 0) (.og (.aext (.var 1) 1) (.new (List.replicate 256 (.val (.bool false))) (.sto 256 (.var 0) (.var 2) (.frz 15 (.var 0) (.apick (.var 2) (.call 73 [(.var 16), (.var 0)] (.call 72 [(.var 0), (.var 1)] (.ret (.var 0)))) (.call 75 [(.var 16), (.var 15)] (.call 74 [(.var 0), (.var 16)] (.ret (.var 0))))))))))))))))))))))
theorem x55_ok : okF TT Tryz.f55 2 x55 = true := by decide +kernel
theorem s_strings_Trim_ok {a0 a1 : AV} {σ : AH} {R : AEnd → AH → Prop} (h : s_strings_Trim a0 a1 σ R) : acall TP fn_strings_Trim [a0, a1] σ R :=
 acall_okF (ρ := [a1, a0]) TT_ok Tryz.func55 rfl x55 x55_ok rfl h
end Go.Proofs.YtbapalgndjiamaaGreatDoor.E
