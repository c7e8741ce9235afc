import Derived.Test.YtbapalgndjiamaaGreatDoorSB9
/- What functions come to. Printed by mkg.py. -/
set_option maxRecDepth 1000000
namespace Go.Proofs.YtbapalgndjiamaaGreatDoor.E
open Go Go.RowKit X
set_option linter.unusedVariables false
set_option linter.unusedSectionVars false
variable [Lam] {a0 a1 a2 a3 a4 a5 a6 : AV} {σ : AH} {R : AEnd → AH → Prop}
def s_laws_FnBlocks (a0 : AV) (σ : AH) (R : AEnd → AH → Prop) : Prop :=
 acall TP fn_laws_lwBig [a0] σ (onr (fun v10 σ =>
 apick v10 (
 aret (.val (.bool true)) σ R) (
 acall TP fn_spec_DrawBlockAround [a0] σ (onr (fun v13 σ =>
 og (aext v13 0) fun v14 =>
 og (aext v13 1) fun v15 =>
 acall TP fn_impl_BlockAround [v14, v15] σ (onr (fun v18 σ =>
 new [(iv 0), (iv 0)] σ fun v5 σ =>
 sto 2 v5 v18 σ fun σ =>
 frz v5 σ fun f5 σ =>
 og (fldA 0 f5) fun v19 =>
 og (lod v19 σ) fun v20 =>
 og (ibin .neq v20 (iv 0)) fun v21 =>
 apick v21 (
 og (fldA 0 f5) fun v26 =>
 og (lod v26 σ) fun v27 =>
 acall TP fn_spec_BlockAround [v14, v15] σ (onr (fun v24 σ =>
 (lod v26 σ = some v27 ∧ True) ∧
 og (fldV 0 v24) fun v25 =>
 og (ibin .eql v25 v27) fun v28 =>
 aret v28 σ R) (pn R))) (
 lp (X := Tup [3, 4, 5, 6, 7]) (fun R1 y1 σ =>
 og (lenS y1.1) fun v31 =>
 og (ibin .lss y1.2.2.2.2.1 v31) fun v32 =>
 apick v32 (
 lp (X := Tup [3, 4, 5, 6, 7, 8]) (fun R2 y2 σ =>
 og (idx 2 y2.1 y2.2.2.2.2.1 σ) fun v38 =>
 og (fldA 1 v38) fun v39 =>
 og (lod v39 σ) fun v40 =>
 og (lenS v40) fun v41 =>
 og (ibin .lss y2.2.2.2.2.2.1 v41) fun v42 =>
 apick v42 (
 jn (X := Tup [3, 4, 5, 6, 7, 8]) (fun x3 σ =>
 og (idx 2 x3.1 x3.2.2.2.2.1 σ) fun v76 =>
 og (fldA 1 v76) fun v77 =>
 og (lod v77 σ) fun v78 =>
 og (idx 7 v78 x3.2.2.2.2.2.1 σ) fun v80 =>
 og (lodA 7 v80 σ) fun v81 =>
 acall TP fn_impl_OpFault [v81] σ (onr (fun v82 σ =>
 og (ibin .neq v82 (iv 0)) fun v83 =>
 apick v83 (
 aret (.val (.bool false)) σ R) (
 og (ibin .add x3.2.2.2.2.2.1 (iv 1)) fun v44 =>
 R2 (x3.1, x3.2.1, x3.2.2.1, x3.2.2.2.1, x3.2.2.2.2.1, v44, ()) σ)) (pn R))) fun k3 =>
 og (idx 2 y2.1 y2.2.2.2.2.1 σ) fun v47 =>
 og (fldA 1 v47) fun v48 =>
 og (lod v48 σ) fun v49 =>
 og (idx 7 v49 y2.2.2.2.2.2.1 σ) fun v51 =>
 og (fldA 0 v51) fun v52 =>
 og (lod v52 σ) fun v53 =>
 og (ibin .eql v53 (iv 4)) fun v54 =>
 og (gval v54 true false (some y2.1)) fun v56 =>
 og (gval v54 true false (some y2.2.2.2.2.1)) fun v57 =>
 og (gval v54 true false (idx 2 v56 v57 σ)) fun v58 =>
 og (gval v54 true false (fldA 1 v58)) fun v59 =>
 og (gval v54 true false (lod v59 σ)) fun v60 =>
 og (gval v54 true false (some y2.2.2.2.2.2.1)) fun v61 =>
 og (gval v54 true false (idx 7 v60 v61 σ)) fun v62 =>
 og (gval v54 true false (fldA 1 v62)) fun v63 =>
 og (gval v54 true false (lod v63 σ)) fun v64 =>
 og (gval v54 true false (some y2.2.1)) fun v65 =>
 og (gval v54 true false (ibin .eql v64 v65)) fun v66 =>
 og (pickV v54 v66 (.val (.bool false))) fun v67 =>
 apick v67 (
 og (ibin .add y2.2.2.2.1 (iv 1)) fun v69 =>
 og (fldA 1 y2.2.2.1) fun v71 =>
 og (lod v71 σ) fun v72 =>
 og (ibin .neq y2.2.2.2.2.1 v72) fun v73 =>
 apick v73 (
 aret (.val (.bool false)) σ R) (
 k3 (y2.1, y2.2.1, y2.2.2.1, v69, y2.2.2.2.2.1, y2.2.2.2.2.2.1, ()) σ)) (
 k3 (y2.1, y2.2.1, y2.2.2.1, y2.2.2.2.1, y2.2.2.2.2.1, y2.2.2.2.2.2.1, ()) σ)) (
 og (ibin .add y2.2.2.2.2.1 (iv 1)) fun v34 =>
 R1 (y2.1, y2.2.1, y2.2.2.1, y2.2.2.2.1, v34, ()) σ)) (y1.1, y1.2.1, y1.2.2.1, y1.2.2.2.1, y1.2.2.2.2.1, (iv 0), ()) σ) (
 og (ibin .eql y1.2.2.2.1 (iv 1)) fun v85 =>
 og (gval v85 true false (fldA 1 y1.2.2.1)) fun v87 =>
 og (gval v85 true false (lod v87 σ)) fun v88 =>
 og (gval v85 true false (some y1.2.1)) fun v89 =>
 og (gval v85 true false (ibin .lss v88 v89)) fun v90 =>
 og (pickV v85 v90 (.val (.bool false))) fun v91 =>
 og (gval v91 true false (fldA 1 y1.2.2.1)) fun v93 =>
 og (gval v91 true false (lod v93 σ)) fun v94 =>
 og (gval v91 true false (ibin .geq v94 (iv 0))) fun v95 =>
 og (pickV v91 v95 (.val (.bool false))) fun v96 =>
 aret v96 σ R)) (v14, v15, f5, (iv 0), (iv 0), ()) σ)) (pn R))) (pn R)))) (pn R))
def x4 : Sx := .call 5 [(Z 0)] (P 0 (.ret (.lit (.val (.bool true)))) (.call 11 [(Z 1)] (Q (.aext (Z 0) 0) (Q (.aext (Z 1) 1) (.call 12 [(Z 1), (Z 0)] (.new [(iv 0), (iv 0)] (.sto 2 (Z 0) (Z 1) (.frz 6 (Z 0) (Q (F 0 0) (M 0 (D .neq (Z 0) (Y 0) (P 0 (.ord [0, 1, 4, 5, 2, 3, 6, 7] [0, 0, 3, 7, 0, 16, 63, 127] (Q (F 0 3) (M 0 (.call 13 [(Z 9), (Z 8)] (.wat [⟨none, (.lod (Z 2)), (Z 1)⟩] (Q (.fldV 0 (Z 0)) (D .eql (Z 0) (Z 2) (.ret (Z 0))))))))) (.lp [3, 4, 5, 6, 7] (O 0 (D .lss (Z 5) (Z 0) (P 0 (.lp [3, 4, 5, 6, 7, 8] (J 2 0 4 (Q (F 1 0) (M 0 (O 0 (D .lss (Z 9) (Z 0) (P 0 (.jn 2085449 [3, 4, 5, 6, 7, 8] (J 2 0 4 (Q (F 1 0) (M 0 (J 7 0 8 (Q (.lodA 7 (Z 0)) (.call 14 [(Z 0)] (D .neq (Z 0) (Y 0) (P 0 (.ret (.lit (.val (.bool false)))) (D .add (Z 12) (Y 1) (.jump 0 [(Z 8), (Z 9), (Z 10), (Z 11), (Z 12), (Z 0)])))))))))) (J 2 5 9 (Q (F 1 0) (M 0 (J 7 0 13 (Q (F 0 0) (M 0 (D .eql (Z 0) (Y 4) (H 0 (.ret (Z 12)) (H 1 (.ret (Z 17)) (H 2 (I 2 1 0) (H 3 (F 1 0) (H 4 (L 0) (H 5 (.ret (Z 22)) (H 6 (I 7 1 0) (H 7 (F 1 0) (H 8 (L 0) (H 9 (.ret (Z 22)) (H 10 (B .eql (Z 1) (Z 0)) (Q (.pickV (Z 11) (Z 0) (.lit (.val (.bool false)))) (P 0 (D .add (Z 27) (Y 1) (Q (F 1 27) (M 0 (D .neq (Z 31) (Z 0) (P 0 (.ret (.lit (.val (.bool false)))) (.jump 0 [(Z 28), (Z 29), (Z 30), (Z 3), (Z 32), (Z 33)])))))) (.jump 0 [(Z 24), (Z 25), (Z 26), (Z 27), (Z 28), (Z 29)])))))))))))))))))))))) (D .add (Z 9) (Y 1) (.jump 1 [(Z 6), (Z 7), (Z 8), (Z 9), (Z 0)])))))))) [(Z 2), (Z 3), (Z 4), (Z 5), (Z 6), (Y 0)]) (D .eql (Z 5) (Y 1) (H 0 (F 1 5) (H 1 (L 0) (H 2 (.ret (Z 6)) (H 3 (B .lss (Z 1) (Z 0)) (Q (.pickV (Z 4) (Z 0) (.lit (.val (.bool false)))) (H 0 (F 1 10) (H 1 (L 0) (H 2 (B .geq (Z 0) (Y 0)) (Q (.pickV (Z 3) (Z 0) (.lit (.val (.bool false)))) (.ret (Z 0))))))))))))))) [(Z 7), (Z 6), (Z 3), (Y 0), (Y 0)])))))))))))))
theorem x4_ok : okF TT Tryz.f4 1 x4 = true := by decide +kernel
theorem s_laws_FnBlocks_ok (h : s_laws_FnBlocks a0 σ R) : acall TP fn_laws_FnBlocks [a0] σ R :=
 acall_okF (ρ := [a0]) TT_ok Tryz.func4 rfl x4 x4_ok rfl h
def s_laws_lwBig (a0 : AV) (σ : AH) (R : AEnd → AH → Prop) : Prop :=
 og (lenS a0) fun v4 =>
 og (ibin .gtr v4 (iv 1048576)) fun v5 =>
 aret v5 σ R
def x5 : Sx := O 0 (D .gtr (Z 0) (Y 1048576) (.ret (Z 0)))
theorem x5_ok : okF TT Tryz.f5 1 x5 = true := by decide +kernel
theorem s_laws_lwBig_ok (h : s_laws_lwBig a0 σ R) : acall TP fn_laws_lwBig [a0] σ R :=
 acall_okF (ρ := [a0]) TT_ok Tryz.func5 rfl x5 x5_ok rfl h
def s_spec_DrawBlockAround (a0 : AV) (σ : AH) (R : AEnd → AH → Prop) : Prop :=
 acall TP fn_spec_l1Source [a0] σ (onr (fun v7 σ =>
 acall TP fn_spec_l9Bent [v7] σ (onr (fun v9 σ =>
 og (lenS v9) fun v13 =>
 og (ibin .add v13 (iv 2)) fun v14 =>
 acall TP fn_spec_l1Next [v7, v14] σ (onr (fun v15 σ =>
 og (ibin .sub v15 (iv 1)) fun v16 =>
 aret (.tup [v9, v16]) σ R) (pn R))) (pn R))) (pn R))
def x11 : Sx := .call 15 [(Z 0)] (.call 16 [(Z 0)] (O 0 (D .add (Z 0) (Y 2) (.call 17 [(Z 3), (Z 0)] (D .sub (Z 0) (Y 1) (.rets [(Z 4), (Z 0)]))))))
theorem x11_ok : okF TT Tryz.f11 1 x11 = true := by decide +kernel
theorem s_spec_DrawBlockAround_ok (h : s_spec_DrawBlockAround a0 σ R) : acall TP fn_spec_DrawBlockAround [a0] σ R :=
 acall_okF (ρ := [a0]) TT_ok Tryz.func11 rfl x11 x11_ok rfl h
def s_impl_BlockAround (a0 a1 : AV) (σ : AH) (R : AEnd → AH → Prop) : Prop :=
 new [(iv 0), (iv 0)] σ fun v4 σ =>
 acall TP fn_impl_CodeFault [a0] σ (onr (fun v9 σ =>
 og (ibin .neq v9 (iv 0)) fun v11 =>
 apick v11 (
 og (bld [(iv 0), (iv 0)] [(0, 1), (1, 1)] [(0, v9)]) fun v13 =>
 sto 2 v4 v13 σ fun σ =>
 og (lodA 2 v4 σ) fun r4 =>
 aret r4 σ R) (
 og (lenS a0) fun v17 =>
 og (ibin .sub v17 (iv 1)) fun v18 =>
 acall TP fn_impl_in [a1, (iv 0), v18] σ (onr (fun v19 σ =>
 og (aun .not v19) fun v20 =>
 apick v20 (
 og (bld [(iv 0), (iv 0)] [(0, 1), (1, 1)] [(0, (iv 3))]) fun v21 =>
 sto 2 v4 v21 σ fun σ =>
 og (lodA 2 v4 σ) fun r4 =>
 aret r4 σ R) (
 og (ibin .eql a1 (iv 0)) fun v24 =>
 apick v24 (
 og (bld [(iv 0), (iv 0)] [(0, 1), (1, 1)] [(0, (iv 4))]) fun v25 =>
 sto 2 v4 v25 σ fun σ =>
 og (lodA 2 v4 σ) fun r4 =>
 aret r4 σ R) (
 acall TP fn_impl_around [a0] σ (onr (fun v28 σ =>
 og (aext v28 0) fun v29 =>
 og (aext v28 1) fun v30 =>
 og (idx 1 v29 a1 σ) fun v33 =>
 og (lod v33 σ) fun v34 =>
 og (bld [(iv 0), (iv 0)] [(0, 1), (1, 1)] [(1, v34)]) fun v35 =>
 sto 2 v4 v35 σ fun σ =>
 og (lodA 2 v4 σ) fun r4 =>
 aret r4 σ R) (pn R))))) (pn R)))) (pn R))
def x12 : Sx := .new [(iv 0), (iv 0)] (.call 22 [(Z 2)] (D .neq (Z 0) (Y 0) (P 0 (Q (.bld [(iv 0), (iv 0)] [(0, 1), (1, 1)] [(0, (Z 1))]) (.sto 2 (Z 3) (Z 0) (Q (.lodA 2 (Z 3)) (.ret (Z 0))))) (O 4 (D .sub (Z 0) (Y 1) (.call 23 [(Z 5), (Y 0), (Z 0)] (Q (.aun .not (Z 0)) (P 0 (Q (.bld [(iv 0), (iv 0)] [(0, 1), (1, 1)] [(0, (Y 3))]) (.sto 2 (Z 7) (Z 0) (Q (.lodA 2 (Z 7)) (.ret (Z 0))))) (D .eql (Z 7) (Y 0) (P 0 (Q (.bld [(iv 0), (iv 0)] [(0, 1), (1, 1)] [(0, (Y 4))]) (.sto 2 (Z 8) (Z 0) (Q (.lodA 2 (Z 8)) (.ret (Z 0))))) (.call 24 [(Z 9)] (Q (.aext (Z 0) 0) (Q (.aext (Z 1) 1) (J 1 1 11 (M 0 (Q (.bld [(iv 0), (iv 0)] [(0, 1), (1, 1)] [(1, (Z 0))]) (.sto 2 (Z 13) (Z 0) (Q (.lodA 2 (Z 13)) (.ret (Z 0))))))))))))))))))))
theorem x12_ok : okF TT Tryz.f12 2 x12 = true := by decide +kernel
theorem s_impl_BlockAround_ok (h : s_impl_BlockAround a0 a1 σ R) : acall TP fn_impl_BlockAround [a0, a1] σ R :=
 acall_okF (ρ := [a1, a0]) TT_ok Tryz.func12 rfl x12 x12_ok rfl h
def s_spec_BlockAround (a0 a1 : AV) (σ : AH) (R : AEnd → AH → Prop) : Prop :=
 new [(iv 0), (iv 0)] σ fun v4 σ =>
 acall TP fn_spec_l10Fault [a0] σ (onr (fun v9 σ =>
 og (aext v9 0) fun v10 =>
 og (aext v9 1) fun v11 =>
 og (ibin .neq v11 (iv 0)) fun v13 =>
 apick v13 (
 og (bld [(iv 0), (iv 0)] [(0, 1), (1, 1)] [(0, v11)]) fun v15 =>
 sto 2 v4 v15 σ fun σ =>
 og (lodA 2 v4 σ) fun r4 =>
 aret r4 σ R) (
 og (lenS a0) fun v18 =>
 og (ibin .sub v18 (iv 1)) fun v19 =>
 acall TP fn_spec_l1In [a1, (iv 0), v19] σ (onr (fun v20 σ =>
 og (aun .not v20) fun v21 =>
 apick v21 (
 og (bld [(iv 0), (iv 0)] [(0, 1), (1, 1)] [(0, (iv 3))]) fun v22 =>
 sto 2 v4 v22 σ fun σ =>
 og (lodA 2 v4 σ) fun r4 =>
 aret r4 σ R) (
 og (ibin .eql a1 (iv 0)) fun v24 =>
 apick v24 (
 og (bld [(iv 0), (iv 0)] [(0, 1), (1, 1)] [(0, (iv 4))]) fun v25 =>
 sto 2 v4 v25 σ fun σ =>
 og (lodA 2 v4 σ) fun r4 =>
 aret r4 σ R) (
 og (idx 1 v10 a1 σ) fun v28 =>
 og (lod v28 σ) fun v29 =>
 og (bld [(iv 0), (iv 0)] [(0, 1), (1, 1)] [(1, v29)]) fun v30 =>
 sto 2 v4 v30 σ fun σ =>
 og (lodA 2 v4 σ) fun r4 =>
 aret r4 σ R))) (pn R)))) (pn R))
def x13 : Sx := .new [(iv 0), (iv 0)] (.call 25 [(Z 2)] (Q (.aext (Z 0) 0) (Q (.aext (Z 1) 1) (D .neq (Z 0) (Y 0) (P 0 (Q (.bld [(iv 0), (iv 0)] [(0, 1), (1, 1)] [(0, (Z 1))]) (.sto 2 (Z 5) (Z 0) (Q (.lodA 2 (Z 5)) (.ret (Z 0))))) (O 6 (D .sub (Z 0) (Y 1) (.call 26 [(Z 7), (Y 0), (Z 0)] (Q (.aun .not (Z 0)) (P 0 (Q (.bld [(iv 0), (iv 0)] [(0, 1), (1, 1)] [(0, (Y 3))]) (.sto 2 (Z 9) (Z 0) (Q (.lodA 2 (Z 9)) (.ret (Z 0))))) (D .eql (Z 9) (Y 0) (P 0 (Q (.bld [(iv 0), (iv 0)] [(0, 1), (1, 1)] [(0, (Y 4))]) (.sto 2 (Z 10) (Z 0) (Q (.lodA 2 (Z 10)) (.ret (Z 0))))) (J 1 7 10 (M 0 (Q (.bld [(iv 0), (iv 0)] [(0, 1), (1, 1)] [(1, (Z 0))]) (.sto 2 (Z 12) (Z 0) (Q (.lodA 2 (Z 12)) (.ret (Z 0)))))))))))))))))))
theorem x13_ok : okF TT Tryz.f13 2 x13 = true := by decide +kernel
theorem s_spec_BlockAround_ok (h : s_spec_BlockAround a0 a1 σ R) : acall TP fn_spec_BlockAround [a0, a1] σ R :=
 acall_okF (ρ := [a1, a0]) TT_ok Tryz.func13 rfl x13 x13_ok rfl h
def s_impl_OpFault (a0 : AV) (σ : AH) (R : AEnd → AH → Prop) : Prop :=
 abox a0 σ fun v1 σ =>
 frz v1 σ fun f1 σ =>
 og (fldA 1 f1) fun v5 =>
 og (lod v5 σ) fun v6 =>
 og (fldA 2 f1) fun v7 =>
 og (lod v7 σ) fun v8 =>
 og (fldA 3 f1) fun v9 =>
 og (lod v9 σ) fun v10 =>
 og (fldA 4 f1) fun v11 =>
 og (lod v11 σ) fun v12 =>
 bsl 1 [(iv 0)] 4 [(0, v6), (1, v8), (2, v10), (3, v12)] σ fun v13 σ =>
 frz v13 σ fun f13 σ =>
 jn (X := Tup [1, 3, 14]) (fun x1 σ =>
 apick x1.2.2.1 (
 aret (iv 1) σ R) (
 acall TP fn_slices_ContainsFunc [x1.2.1, (.clo (.func fn_impl_OpFault_2) [] [])] σ (onr (fun v53 σ =>
 og (gval v53 false false (fldA 0 x1.1)) fun v55 =>
 og (gval v53 false false (lod v55 σ)) fun v56 =>
 og (gval v53 false false (ibin .eql v56 (iv 10))) fun v57 =>
 og (gval v53 false false (some v57)) fun v58 =>
 og (gval v58 false true (fldA 0 x1.1)) fun v59 =>
 og (gval v58 false true (lod v59 σ)) fun v60 =>
 og (gval v58 false true (ibin .eql v60 (iv 11))) fun v61 =>
 og (gval v53 false false (pickV v58 (.val (.bool true)) v61)) fun v62 =>
 og (gval v53 false false (some v62)) fun v63 =>
 og (gval v63 true true (fldA 1 x1.1)) fun v64 =>
 og (gval v63 true true (lod v64 σ)) fun v65 =>
 og (gval v63 true true (ibin .gtr v65 (iv 3))) fun v66 =>
 og (gval v53 false false (pickV v63 v66 (.val (.bool false)))) fun v67 =>
 og (pickV v53 (.val (.bool true)) v67) fun v68 =>
 apick v68 (
 aret (iv 3) σ R) (
 og (fldA 0 x1.1) fun v70 =>
 og (lod v70 σ) fun v71 =>
 acall TP fn_impl_opNamed [v71] σ (onr (fun v72 σ =>
 apick v72 (
 og (fldA 5 x1.1) fun v73 =>
 og (lod v73 σ) fun v74 =>
 acall TP fn_impl_SymFault [v74] σ (onr (fun v75 σ =>
 aret v75 σ R) (pn R))) (
 og (fldA 0 x1.1) fun v77 =>
 og (lod v77 σ) fun v78 =>
 acall TP fn_impl_opData [v78] σ (onr (fun v79 σ =>
 apick v79 (
 og (fldA 6 x1.1) fun v80 =>
 og (lod v80 σ) fun v81 =>
 acall TP fn_impl_DataFault [v81] σ (onr (fun v82 σ =>
 aret v82 σ R) (pn R))) (
 aret (iv 0) σ R)) (pn R)))) (pn R)))) (pn R)))) fun k1 =>
 og (fldA 0 f1) fun v15 =>
 og (lod v15 σ) fun v16 =>
 acall TP fn_impl_in [v16, (iv 1), (iv 16)] σ (onr (fun v17 σ =>
 og (aun .not v17) fun v18 =>
 og (gval v18 false false (some f13)) fun v20 =>
 og (gval v18 false false (fldA 0 f1)) fun v21 =>
 og (gval v18 false false (lod v21 σ)) fun v22 =>
 gpick v18 (
 k1 (f1, f13, (.val (.bool true)), ()) σ) (
 acall TP fn_impl_opNums [v22] σ (onr (fun v23 σ =>
 og (slc 1 v20 (some v23) none none σ) fun v24 =>
 acall TP fn_slices_ContainsFunc [v24, (.clo (.func fn_impl_OpFault_1) [] [])] σ (onr (fun v26 σ =>
 og (gval v26 false false (fldA 5 f1)) fun v29 =>
 og (gval v26 false false (lod v29 σ)) fun v30 =>
 og (gval v26 false false (sbin .neq v30 (str ⟨#[]⟩))) fun v31 =>
 og (gval v26 false false (some v31)) fun v32 =>
 og (gval v32 true true (fldA 0 f1)) fun v33 =>
 og (gval v32 true true (lod v33 σ)) fun v34 =>
 gpick v32 (
 acall TP fn_impl_opNamed [v34] σ (onr (fun v35 σ =>
 og (aun .not v35) fun v36 =>
 og (gval v26 false false (some v36)) fun v37 =>
 og (pickV v26 (.val (.bool true)) v37) fun v38 =>
 og (gval v38 false false (fldA 6 f1)) fun v40 =>
 og (gval v38 false false (lod v40 σ)) fun v41 =>
 og (gval v38 false false (lenS v41)) fun v42 =>
 og (gval v38 false false (ibin .gtr v42 (iv 0))) fun v43 =>
 og (gval v38 false false (some v43)) fun v44 =>
 og (gval v44 true true (fldA 0 f1)) fun v45 =>
 og (gval v44 true true (lod v45 σ)) fun v46 =>
 gpick v44 (
 acall TP fn_impl_opData [v46] σ (onr (fun v47 σ =>
 og (aun .not v47) fun v48 =>
 og (gval v38 false false (some v48)) fun v49 =>
 og (pickV v38 (.val (.bool true)) v49) fun v50 =>
 k1 (f1, f13, v50, ()) σ) (pn R))) (
 og (gval v38 false false (some (.val (.bool false)))) fun v49 =>
 og (pickV v38 (.val (.bool true)) v49) fun v50 =>
 k1 (f1, f13, v50, ()) σ) (
 og (gval v38 false false (pickV (.tup []) (.tup []) (.val (.bool false)))) fun v49 =>
 og (pickV v38 (.val (.bool true)) v49) fun v50 =>
 k1 (f1, f13, v50, ()) σ)) (pn R))) (
 og (gval v26 false false (some (.val (.bool false)))) fun v37 =>
 og (pickV v26 (.val (.bool true)) v37) fun v38 =>
 og (gval v38 false false (fldA 6 f1)) fun v40 =>
 og (gval v38 false false (lod v40 σ)) fun v41 =>
 og (gval v38 false false (lenS v41)) fun v42 =>
 og (gval v38 false false (ibin .gtr v42 (iv 0))) fun v43 =>
 og (gval v38 false false (some v43)) fun v44 =>
 og (gval v44 true true (fldA 0 f1)) fun v45 =>
 og (gval v44 true true (lod v45 σ)) fun v46 =>
 gpick v44 (
 acall TP fn_impl_opData [v46] σ (onr (fun v47 σ =>
 og (aun .not v47) fun v48 =>
 og (gval v38 false false (some v48)) fun v49 =>
 og (pickV v38 (.val (.bool true)) v49) fun v50 =>
 k1 (f1, f13, v50, ()) σ) (pn R))) (
 og (gval v38 false false (some (.val (.bool false)))) fun v49 =>
 og (pickV v38 (.val (.bool true)) v49) fun v50 =>
 k1 (f1, f13, v50, ()) σ) (
 og (gval v38 false false (pickV (.tup []) (.tup []) (.val (.bool false)))) fun v49 =>
 og (pickV v38 (.val (.bool true)) v49) fun v50 =>
 k1 (f1, f13, v50, ()) σ)) (
 og (gval v26 false false (pickV (.tup []) (.tup []) (.val (.bool false)))) fun v37 =>
 og (pickV v26 (.val (.bool true)) v37) fun v38 =>
 og (gval v38 false false (fldA 6 f1)) fun v40 =>
 og (gval v38 false false (lod v40 σ)) fun v41 =>
 og (gval v38 false false (lenS v41)) fun v42 =>
 og (gval v38 false false (ibin .gtr v42 (iv 0))) fun v43 =>
 og (gval v38 false false (some v43)) fun v44 =>
 og (gval v44 true true (fldA 0 f1)) fun v45 =>
 og (gval v44 true true (lod v45 σ)) fun v46 =>
 gpick v44 (
 acall TP fn_impl_opData [v46] σ (onr (fun v47 σ =>
 og (aun .not v47) fun v48 =>
 og (gval v38 false false (some v48)) fun v49 =>
 og (pickV v38 (.val (.bool true)) v49) fun v50 =>
 k1 (f1, f13, v50, ()) σ) (pn R))) (
 og (gval v38 false false (some (.val (.bool false)))) fun v49 =>
 og (pickV v38 (.val (.bool true)) v49) fun v50 =>
 k1 (f1, f13, v50, ()) σ) (
 og (gval v38 false false (pickV (.tup []) (.tup []) (.val (.bool false)))) fun v49 =>
 og (pickV v38 (.val (.bool true)) v49) fun v50 =>
 k1 (f1, f13, v50, ()) σ))) (pn R))) (pn R))) (False)) (pn R))
def x14 : Sx := .box (Z 0) (.frz 1 (Z 0) (Q (F 1 0) (M 0 (Q (F 2 2) (M 0 (Q (F 3 4) (M 0 (Q (F 4 6) (M 0 (.bsl 1 [(iv 0)] 4 [(0, (Z 6)), (1, (Z 4)), (2, (Z 2)), (3, (Z 0))] (.frz 11 (Z 0) (.jn 121 [1, 3, 14] (P 2 (.ret (Y 1)) (.call 28 [(Z 1), (.lit (.clo (.func fn_impl_OpFault_2) [] []))] (G 0 (F 0 1) (G 1 (L 0) (G 2 (B .eql (Z 0) (Y 10)) (G 3 (.ret (Z 0)) (.gog (Z 0) false true (F 0 5) (.gog (Z 1) false true (L 0) (.gog (Z 2) false true (B .eql (Z 0) (Y 11)) (G 7 (.pickV (Z 3) (.lit (.val (.bool true))) (Z 0)) (G 8 (.ret (Z 0)) (.gog (Z 0) true true (F 1 10) (.gog (Z 1) true true (L 0) (.gog (Z 2) true true (B .gtr (Z 0) (Y 3)) (G 12 (.pickV (Z 3) (Z 0) (.lit (.val (.bool false)))) (Q (.pickV (Z 13) (.lit (.val (.bool true))) (Z 0)) (P 0 (.ret (Y 3)) (Q (F 0 15) (M 0 (.call 30 [(Z 0)] (P 0 (Q (F 5 18) (M 0 (.call 33 [(Z 0)] (.ret (Z 0))))) (Q (F 0 18) (M 0 (.call 31 [(Z 0)] (P 0 (Q (F 6 21) (M 0 (.call 34 [(Z 0)] (.ret (Z 0))))) (.ret (Y 0))))))))))))))))))))))))))) (Q (F 0 10) (M 0 (.call 23 [(Z 0), (Y 1), (Y 16)] (Q (.aun .not (Z 0)) (G 0 (.ret (Z 4)) (G 1 (F 0 15) (G 2 (L 0) (.gpick (Z 3) (.jump 0 [(Z 17), (Z 7), (.lit (.val (.bool true)))]) (.call 29 [(Z 0)] (Q (.slc 1 (Z 3) (some (Z 0)) none none) (.call 28 [(Z 0), (.lit (.clo (.func fn_impl_OpFault_1) [] []))] (G 0 (F 5 20) (G 1 (L 0) (G 2 (.sbin .neq (Z 0) (.lit (str ⟨#[]⟩))) (G 3 (.ret (Z 0)) (.gog (Z 0) true true (F 0 24) (.gog (Z 1) true true (L 0) (.gpick (Z 2) (.call 30 [(Z 0)] (Q (.aun .not (Z 0)) (G 8 (.ret (Z 0)) (Q (.pickV (Z 9) (.lit (.val (.bool true))) (Z 0)) (G 0 (F 6 30) (G 1 (L 0) (G 2 (N 0) (G 3 (B .gtr (Z 0) (Y 0)) (G 4 (.ret (Z 0)) (.gog (Z 0) true true (F 0 35) (.gog (Z 1) true true (L 0) (.gpick (Z 2) (.call 31 [(Z 0)] (Q (.aun .not (Z 0)) (G 9 (.ret (Z 0)) (Q (.pickV (Z 10) (.lit (.val (.bool true))) (Z 0)) (.jump 0 [(Z 41), (Z 31), (Z 0)]))))) (G 7 (.ret (.lit (.val (.bool false)))) (Q (.pickV (Z 8) (.lit (.val (.bool true))) (Z 0)) (.jump 0 [(Z 39), (Z 29), (Z 0)]))) (G 7 (.pickV (.lit (.tup [])) (.lit (.tup [])) (.lit (.val (.bool false)))) (Q (.pickV (Z 8) (.lit (.val (.bool true))) (Z 0)) (.jump 0 [(Z 39), (Z 29), (Z 0)]))))))))))))))) (G 6 (.ret (.lit (.val (.bool false)))) (Q (.pickV (Z 7) (.lit (.val (.bool true))) (Z 0)) (G 0 (F 6 28) (G 1 (L 0) (G 2 (N 0) (G 3 (B .gtr (Z 0) (Y 0)) (G 4 (.ret (Z 0)) (.gog (Z 0) true true (F 0 33) (.gog (Z 1) true true (L 0) (.gpick (Z 2) (.call 31 [(Z 0)] (Q (.aun .not (Z 0)) (G 9 (.ret (Z 0)) (Q (.pickV (Z 10) (.lit (.val (.bool true))) (Z 0)) (.jump 0 [(Z 39), (Z 29), (Z 0)]))))) (G 7 (.ret (.lit (.val (.bool false)))) (Q (.pickV (Z 8) (.lit (.val (.bool true))) (Z 0)) (.jump 0 [(Z 37), (Z 27), (Z 0)]))) (G 7 (.pickV (.lit (.tup [])) (.lit (.tup [])) (.lit (.val (.bool false)))) (Q (.pickV (Z 8) (.lit (.val (.bool true))) (Z 0)) (.jump 0 [(Z 37), (Z 27), (Z 0)]))))))))))))) (G 6 (.pickV (.lit (.tup [])) (.lit (.tup [])) (.lit (.val (.bool false)))) (Q (.pickV (Z 7) (.lit (.val (.bool true))) (Z 0)) (G 0 (F 6 28) (G 1 (L 0) (G 2 (N 0) (G 3 (B .gtr (Z 0) (Y 0)) (G 4 (.ret (Z 0)) (.gog (Z 0) true true (F 0 33) (.gog (Z 1) true true (L 0) (.gpick (Z 2) (.call 31 [(Z 0)] (Q (.aun .not (Z 0)) (G 9 (.ret (Z 0)) (Q (.pickV (Z 10) (.lit (.val (.bool true))) (Z 0)) (.jump 0 [(Z 39), (Z 29), (Z 0)]))))) (G 7 (.ret (.lit (.val (.bool false)))) (Q (.pickV (Z 8) (.lit (.val (.bool true))) (Z 0)) (.jump 0 [(Z 37), (Z 27), (Z 0)]))) (G 7 (.pickV (.lit (.tup [])) (.lit (.tup [])) (.lit (.val (.bool false)))) (Q (.pickV (Z 8) (.lit (.val (.bool true))) (Z 0)) (.jump 0 [(Z 37), (Z 27), (Z 0)]))))))))))))))))))))))) (.no)))))))))))))))))))))
theorem x14_ok : okF TT Tryz.f14 1 x14 = true := by decide +kernel
theorem s_impl_OpFault_ok (h : s_impl_OpFault a0 σ R) : acall TP fn_impl_OpFault [a0] σ R :=
 acall_okF (ρ := [a0]) TT_ok Tryz.func14 rfl x14 x14_ok rfl h
def s_spec_l1Source (a0 : AV) (σ : AH) (R : AEnd → AH → Prop) : Prop :=
 og (bld [nilS, (iv 0)] [(0, 1), (1, 1)] [(0, a0)]) fun v4 =>
 abox v4 σ fun v5 σ =>
 aret v5 σ R
def x15 : Sx := Q (.bld [nilS, (iv 0)] [(0, 1), (1, 1)] [(0, (Z 0))]) (.box (Z 0) (.ret (Z 0)))
theorem x15_ok : okF TT Tryz.f15 1 x15 = true := by decide +kernel
theorem s_spec_l1Source_ok (h : s_spec_l1Source a0 σ R) : acall TP fn_spec_l1Source [a0] σ R :=
 acall_okF (ρ := [a0]) TT_ok Tryz.func15 rfl x15 x15_ok rfl h
def s_spec_l9Bent (a0 : AV) (σ : AH) (R : AEnd → AH → Prop) : Prop :=
 acall TP fn_spec_l9Draw [a0] σ (onr (fun v8 σ =>
 og (lenS v8) fun v11 =>
 acall TP fn_spec_l1Next [a0, v11] σ (onr (fun v12 σ =>
 og (idx 2 v8 v12 σ) fun v16 =>
 og (fldA 1 v16) fun v17 =>
 og (lod v17 σ) fun v18 =>
 og (lenS v18) fun v19 =>
 acall TP fn_spec_l1Next [a0, v19] σ (onr (fun v20 σ =>
 og (idx 2 v8 v12 σ) fun v23 =>
 og (fldA 1 v23) fun v24 =>
 og (lod v24 σ) fun v25 =>
 og (idx 7 v25 v20 σ) fun v27 =>
 jn (X := Tup [3]) (fun x1 σ =>
 aret x1.1 σ R) fun k1 =>
 acall TP fn_spec_l1Next [a0, (iv 14)] σ (onr (fun v29 σ =>
 og (ibin .eql v29 (iv 0)) fun v31 =>
 apick v31 (
 bsl 1 [(iv 0)] 6 [(0, (iv 0)), (1, (iv 17)), (2, (iv 5)), (3, (iv 7)), (4, (iv 12)), (5, (iv 16))] σ fun v34 σ =>
 acall TP fn_spec_l1Pick [a0, v34] σ (onr (fun v35 σ =>
 og (anil v27) fun v36 =>
 og (fldA 0 v36) fun v37 =>
 sto 1 v37 v35 σ fun σ =>
 k1 (v8, ()) σ) (pn R))) (
 og (ibin .eql v29 (iv 1)) fun v39 =>
 apick v39 (
 bsl 1 [(iv 0)] 5 [(0, (iv (-1))), (1, (iv 0)), (2, (iv 1)), (3, (iv 9)), (4, (iv 1000))] σ fun v42 σ =>
 acall TP fn_spec_l1Pick [a0, v42] σ (onr (fun v43 σ =>
 og (anil v27) fun v44 =>
 og (fldA 1 v44) fun v45 =>
 sto 1 v45 v43 σ fun σ =>
 k1 (v8, ()) σ) (pn R))) (
 og (ibin .eql v29 (iv 2)) fun v47 =>
 apick v47 (
 bsl 1 [(iv 0)] 3 [(0, (iv (-1))), (1, (iv 1)), (2, (iv 4))] σ fun v50 σ =>
 acall TP fn_spec_l1Pick [a0, v50] σ (onr (fun v51 σ =>
 og (anil v27) fun v52 =>
 og (fldA 2 v52) fun v53 =>
 sto 1 v53 v51 σ fun σ =>
 k1 (v8, ()) σ) (pn R))) (
 og (ibin .eql v29 (iv 3)) fun v55 =>
 apick v55 (
 bsl 1 [(str ⟨#[]⟩)] 3 [(0, (str ⟨#[]⟩)), (1, (.val (.string ⟨#[65]⟩))), (2, (.val (.string ⟨#[103]⟩)))] σ fun v57 σ =>
 acall TP fn_spec_l1Next [a0, (iv 3)] σ (onr (fun v59 σ =>
 og (idx 1 v57 v59 σ) fun v60 =>
 og (lod v60 σ) fun v61 =>
 og (anil v27) fun v62 =>
 og (fldA 5 v62) fun v63 =>
 sto 1 v63 v61 σ fun σ =>
 k1 (v8, ()) σ) (pn R))) (
 og (ibin .eql v29 (iv 4)) fun v65 =>
 apick v65 (
 acall TP fn_spec_l3Bent [a0] σ (onr (fun v68 σ =>
 og (anil v27) fun v69 =>
 og (fldA 6 v69) fun v70 =>
 sto 1 v70 v68 σ fun σ =>
 k1 (v8, ()) σ) (pn R))) (
 og (ibin .eql v29 (iv 5)) fun v72 =>
 apick v72 (
 bsl 1 [(iv 0)] 3 [(0, (iv 1)), (1, (iv 4)), (2, (iv (-1)))] σ fun v76 σ =>
 acall TP fn_spec_l1Pick [a0, v76] σ (onr (fun v77 σ =>
 og (idx 2 v8 v12 σ) fun v78 =>
 og (fldA 0 v78) fun v79 =>
 sto 1 v79 v77 σ fun σ =>
 k1 (v8, ()) σ) (pn R))) (
 og (ibin .eql v29 (iv 6)) fun v81 =>
 apick v81 (
 og (idx 2 v8 v12 σ) fun v86 =>
 og (fldA 1 v86) fun v87 =>
 og (lod v87 σ) fun v88 =>
 og (slc 7 v88 none (some v20) none σ) fun v90 =>
 og (idx 2 v8 v12 σ) fun v91 =>
 og (fldA 1 v91) fun v92 =>
 sto 1 v92 v90 σ fun σ =>
 k1 (v8, ()) σ) (
 k1 (v8, ()) σ)))))))) (pn R))) (pn R))) (pn R))) (pn R))
def x16 : Sx := .call 35 [(Z 0)] (O 0 (.call 17 [(Z 2), (Z 0)] (J 2 2 0 (Q (F 1 0) (M 0 (O 0 (.call 17 [(Z 7), (Z 0)] (J 2 7 5 (Q (F 1 0) (M 0 (J 7 0 3 (.jn 127 [3] (.ret (Z 0)) (.call 17 [(Z 12), (Y 14)] (D .eql (Z 0) (Y 0) (P 0 (.bsl 1 [(iv 0)] 6 [(0, (Y 0)), (1, (Y 17)), (2, (Y 5)), (3, (Y 7)), (4, (Y 12)), (5, (Y 16))] (.call 36 [(Z 15), (Z 0)] (Q (A 4) (Q (F 0 0) (.sto 1 (Z 0) (Z 2) (.jump 0 [(Z 17)])))))) (D .eql (Z 1) (Y 1) (P 0 (.bsl 1 [(iv 0)] 5 [(0, (Y (-1))), (1, (Y 0)), (2, (Y 1)), (3, (Y 9)), (4, (Y 1000))] (.call 36 [(Z 16), (Z 0)] (Q (A 5) (Q (F 1 0) (.sto 1 (Z 0) (Z 2) (.jump 0 [(Z 18)])))))) (D .eql (Z 2) (Y 2) (P 0 (.bsl 1 [(iv 0)] 3 [(0, (Y (-1))), (1, (Y 1)), (2, (Y 4))] (.call 36 [(Z 17), (Z 0)] (Q (A 6) (Q (F 2 0) (.sto 1 (Z 0) (Z 2) (.jump 0 [(Z 19)])))))) (D .eql (Z 3) (Y 3) (P 0 (.bsl 1 [(str ⟨#[]⟩)] 3 [(0, (.lit (str ⟨#[]⟩))), (1, (.lit (.val (.string ⟨#[65]⟩)))), (2, (.lit (.val (.string ⟨#[103]⟩))))] (.call 17 [(Z 18), (Y 3)] (J 1 1 0 (M 0 (Q (A 9) (Q (F 5 0) (.sto 1 (Z 0) (Z 2) (.jump 0 [(Z 22)])))))))) (D .eql (Z 4) (Y 4) (P 0 (.call 37 [(Z 18)] (Q (A 7) (Q (F 6 0) (.sto 1 (Z 0) (Z 2) (.jump 0 [(Z 20)]))))) (D .eql (Z 5) (Y 5) (P 0 (.bsl 1 [(iv 0)] 3 [(0, (Y 1)), (1, (Y 4)), (2, (Y (-1)))] (.call 36 [(Z 20), (Z 0)] (J 2 20 18 (Q (F 0 0) (.sto 1 (Z 0) (Z 2) (.jump 0 [(Z 22)])))))) (D .eql (Z 6) (Y 6) (P 0 (J 2 19 17 (Q (F 1 0) (M 0 (Q (.slc 7 (Z 0) none (some (Z 15)) none) (J 2 23 21 (Q (F 1 0) (.sto 1 (Z 0) (Z 2) (.jump 0 [(Z 25)])))))))) (.jump 0 [(Z 19)]))))))))))))))))))))))))))))
theorem x16_ok : okF TT Tryz.f16 1 x16 = true := by decide +kernel
theorem s_spec_l9Bent_ok (h : s_spec_l9Bent a0 σ R) : acall TP fn_spec_l9Bent [a0] σ R :=
 acall_okF (ρ := [a0]) TT_ok Tryz.func16 rfl x16 x16_ok rfl h
def s_spec_l1Next (a0 a1 : AV) (σ : AH) (R : AEnd → AH → Prop) : Prop :=
 og (anil a0) fun v10 =>
 og (fldA 1 v10) fun v11 =>
 og (lod v11 σ) fun v12 =>
 og (ibin .add v12 (iv 1)) fun v13 =>
 og (anil a0) fun v14 =>
 og (fldA 1 v14) fun v15 =>
 sto 1 v15 v13 σ fun σ =>
 og (ibin .lss a1 (iv 1)) fun v17 =>
 apick v17 (
 aret (iv 0) σ R) (
 og (anil a0) fun v19 =>
 og (fldA 1 v19) fun v20 =>
 og (lod v20 σ) fun v21 =>
 og (ibin .sub v21 (iv 1)) fun v22 =>
 og (anil a0) fun v24 =>
 og (fldA 0 v24) fun v25 =>
 og (lod v25 σ) fun v26 =>
 og (lenS v26) fun v27 =>
 og (ibin .eql v27 (iv 0)) fun v29 =>
 apick v29 (
 og (ibin .mul v22 (iv 7)) fun v31 =>
 og (ibin .rem v31 a1) fun v33 =>
 aret v33 σ R) (
 og (anil a0) fun v35 =>
 og (fldA 0 v35) fun v36 =>
 og (lod v36 σ) fun v37 =>
 og (ibin .rem v22 v27) fun v40 =>
 og (idx 1 v37 v40 σ) fun v41 =>
 og (lod v41 σ) fun v42 =>
 og (convI .i64 v42) fun v43 =>
 og (ibin .quo v22 v27) fun v46 =>
 og (ibin .mul v46 (iv 37)) fun v47 =>
 og (ibin .add v43 v47) fun v48 =>
 jn (X := Tup [1, 7]) (fun x1 σ =>
 og (ibin .rem x1.2.1 x1.1) fun v70 =>
 aret v70 σ R) fun k1 =>
 og (ibin .gtr a1 (iv 200)) fun v50 =>
 apick v50 (
 og (ibin .mul v48 (iv 251)) fun v52 =>
 og (anil a0) fun v54 =>
 og (fldA 0 v54) fun v55 =>
 og (lod v55 σ) fun v56 =>
 og (ibin .add v22 (iv 1)) fun v58 =>
 og (ibin .rem v58 v27) fun v60 =>
 og (idx 1 v56 v60 σ) fun v61 =>
 og (lod v61 σ) fun v62 =>
 og (convI .i64 v62) fun v63 =>
 og (ibin .mul v63 (iv 13)) fun v64 =>
 og (ibin .add v52 v64) fun v65 =>
 og (ibin .add v65 v22) fun v67 =>
 k1 (a1, v67, ()) σ) (
 k1 (a1, v48, ()) σ)))
def x17 : Sx := Q (A 1) (Q (F 1 0) (M 0 (D .add (Z 0) (Y 1) (Q (A 5) (Q (F 1 0) (.sto 1 (Z 0) (Z 2) (D .lss (Z 6) (Y 1) (P 0 (.ret (Y 0)) (Q (A 8) (Q (F 1 0) (M 0 (D .sub (Z 0) (Y 1) (Q (A 12) (Q (F 0 0) (M 0 (O 0 (D .eql (Z 0) (Y 0) (P 0 (D .mul (Z 5) (Y 7) (D .rem (Z 0) (Z 17) (.ret (Z 0)))) (.ord [0, 1, 2, 3, 4, 5, 6, 7, 8, 9, 10, 11, 12, 13, 14, 15] [0, 1, 3, 7, 0, 0, 48, 127, 255, 511, 0, 0, 3072, 7168, 16383, 32767] (Q (A 17) (Q (F 0 0) (M 0 (D .rem (Z 8) (Z 4) (J 1 1 0 (M 0 (Q (.conv .i64 (Z 0)) (D .quo (Z 12) (Z 8) (D .mul (Z 0) (Y 37) (D .add (Z 2) (Z 0) (.jn 511 [1, 7] (D .rem (Z 1) (Z 0) (.ret (Z 0))) (D .gtr (Z 26) (Y 200) (P 0 (.ord [0, 1, 2, 3, 4, 5, 6, 7, 8, 9, 10, 11, 12, 13, 14, 15, 16, 17] [0, 1, 0, 4, 12, 28, 0, 64, 0, 448, 1020, 2044, 4092, 8188, 16383, 0, 65535, 131071] (D .mul (Z 1) (Y 251) (Q (A 29) (Q (F 0 0) (M 0 (D .add (Z 20) (Y 1) (D .rem (Z 0) (Z 17) (J 1 2 0 (M 0 (Q (.conv .i64 (Z 0)) (D .mul (Z 0) (Y 13) (D .add (Z 9) (Z 0) (D .add (Z 0) (Z 27) (.jump 0 [(Z 39), (Z 0)])))))))))))))) (.jump 0 [(Z 27), (Z 1)])))))))))))))))))))))))))))))))))
theorem x17_ok : okF TT Tryz.f17 2 x17 = true := by decide +kernel
theorem s_spec_l1Next_ok (h : s_spec_l1Next a0 a1 σ R) : acall TP fn_spec_l1Next [a0, a1] σ R :=
 acall_okF (ρ := [a1, a0]) TT_ok Tryz.func17 rfl x17 x17_ok rfl h
def s_impl_blockFault (a0 : AV) (σ : AH) (R : AEnd → AH → Prop) : Prop :=
 abox a0 σ fun v1 σ =>
 frz v1 σ fun f1 σ =>
 og (fldA 0 f1) fun v7 =>
 og (lod v7 σ) fun v8 =>
 acall TP fn_impl_in [v8, (iv 0), (iv 3)] σ (onr (fun v9 σ =>
 og (aun .not v9) fun v10 =>
 apick v10 (
 aret (iv 3) σ R) (
 og (fldA 1 f1) fun v12 =>
 og (lod v12 σ) fun v13 =>
 og (lenS v13) fun v14 =>
 og (ibin .gtr v14 (iv 200)) fun v15 =>
 apick v15 (
 aret (iv 2) σ R) (
 og (fldA 1 f1) fun v16 =>
 og (lod v16 σ) fun v17 =>
 og (lenS v17) fun v18 =>
 lp (X := Tup [17, 18, 19]) (fun R1 y1 σ =>
 og (ibin .lss y1.2.2.1 y1.2.1) fun v20 =>
 apick v20 (
 og (idx 7 y1.1 y1.2.2.1 σ) fun v21 =>
 og (lodA 7 v21 σ) fun v22 =>
 new [(iv 0), (iv 0), (iv 0), (iv 0), (iv 0), (str ⟨#[]⟩), nilS] σ fun v4 σ =>
 sto 7 v4 v22 σ fun σ =>
 frz v4 σ fun f4 σ =>
 og (lodA 7 f4 σ) fun v23 =>
 acall TP fn_impl_OpFault [v23] σ (onr (fun v24 σ =>
 og (ibin .neq v24 (iv 0)) fun v26 =>
 apick v26 (
 aret v24 σ R) (
 og (ibin .add y1.2.2.1 (iv 1)) fun v28 =>
 R1 (y1.1, y1.2.1, v28, ()) σ)) (pn R))) (
 aret (iv 0) σ R)) (v17, v18, (iv 0), ()) σ))) (pn R))
def x18 : Sx := .box (Z 0) (.frz 1 (Z 0) (Q (F 0 0) (M 0 (.call 23 [(Z 0), (Y 0), (Y 3)] (Q (.aun .not (Z 0)) (P 0 (.ret (Y 3)) (Q (F 1 4) (M 0 (O 0 (D .gtr (Z 0) (Y 200) (P 0 (.ret (Y 2)) (Q (F 1 8) (M 0 (O 0 (.lp [17, 18, 19] (D .lss (Z 2) (Z 1) (P 0 (J 7 1 3 (Q (.lodA 7 (Z 0)) (.new [(iv 0), (iv 0), (iv 0), (iv 0), (iv 0), (str ⟨#[]⟩), nilS] (.sto 7 (Z 0) (Z 1) (.frz 6 (Z 0) (Q (.lodA 7 (Z 0)) (.call 14 [(Z 0)] (D .neq (Z 0) (Y 0) (P 0 (.ret (Z 1)) (D .add (Z 10) (Y 1) (.jump 0 [(Z 9), (Z 10), (Z 0)]))))))))))) (.ret (Y 0)))) [(Z 1), (Z 0), (Y 0)])))))))))))))))
theorem x18_ok : okF TT Tryz.f18 1 x18 = true := by decide +kernel
theorem s_impl_blockFault_ok (h : s_impl_blockFault a0 σ R) : acall TP fn_impl_blockFault [a0] σ R :=
 acall_okF (ρ := [a0]) TT_ok Tryz.func18 rfl x18 x18_ok rfl h
def s_impl_heightsOf (a0 : AV) (σ : AH) (R : AEnd → AH → Prop) : Prop :=
 abox a0 σ fun v1 σ =>
 frz v1 σ fun f1 σ =>
 og (fldA 1 f1) fun v17 =>
 og (lod v17 σ) fun v18 =>
 og (lenS v18) fun v19 =>
 og (ibin .eql v19 (iv 0)) fun v21 =>
 apick v21 (
 aret (.tup [nilS, (.val (.bool false))]) σ R) (
 og (lodA 2 f1 σ) fun v22 =>
 acall TP fn_impl_targets [v22] σ (onr (fun v23 σ =>
 og (lenS v23) fun v24 =>
 lp (X := Tup [1, 4, 23, 24, 25]) (fun R1 y1 σ =>
 og (ibin .lss y1.2.2.2.2.1 y1.2.2.2.1) fun v26 =>
 apick v26 (
 og (idx 1 y1.2.2.1 y1.2.2.2.2.1 σ) fun v27 =>
 og (lod v27 σ) fun v28 =>
 og (ibin .geq v28 y1.2.1) fun v31 =>
 apick v31 (
 aret (.tup [nilS, (.val (.bool false))]) σ R) (
 og (ibin .add y1.2.2.2.2.1 (iv 1)) fun v32 =>
 R1 (y1.1, y1.2.1, y1.2.2.1, y1.2.2.2.1, v32, ()) σ)) (
 amake TT ty_Li y1.2.1 y1.2.1 σ fun v34 σ =>
 og (lenS v34) fun v36 =>
 lp (X := Tup [1, 4, 7, 36, 37]) (fun R2 y2 σ =>
 og (ibin .lss y2.2.2.2.2.1 y2.2.2.2.1) fun v38 =>
 apick v38 (
 og (idx 1 y2.2.2.1 y2.2.2.2.2.1 σ) fun v42 =>
 sto 1 v42 (iv (-1)) σ fun σ =>
 og (ibin .add y2.2.2.2.2.1 (iv 1)) fun v43 =>
 R2 (y2.1, y2.2.1, y2.2.2.1, y2.2.2.2.1, v43, ()) σ) (
 og (idx 1 y2.2.2.1 (iv 0) σ) fun v45 =>
 sto 1 v45 (iv 0) σ fun σ =>
 bsl 1 [(iv 0)] 1 [(0, (iv 0))] σ fun v46 σ =>
 lp (X := Tup [1, 4, 7, 9]) (fun R3 y3 σ =>
 og (lenS y3.2.2.2.1) fun v48 =>
 og (ibin .gtr v48 (iv 0)) fun v49 =>
 apick v49 (
 og (idx 1 y3.2.2.2.1 (iv 0) σ) fun v51 =>
 og (lod v51 σ) fun v52 =>
 og (slc 1 y3.2.2.2.1 (some (iv 1)) none none σ) fun v54 =>
 og (fldA 1 y3.1) fun v55 =>
 og (lod v55 σ) fun v56 =>
 og (idx 7 v56 v52 σ) fun v58 =>
 og (lodA 7 v58 σ) fun v59 =>
 new [(iv 0), (iv 0), (iv 0), (iv 0), (iv 0), (str ⟨#[]⟩), nilS] σ fun v11 σ =>
 sto 7 v11 v59 σ fun σ =>
 frz v11 σ fun f11 σ =>
 og (idx 1 y3.2.2.1 v52 σ) fun v62 =>
 og (lod v62 σ) fun v63 =>
 og (lodA 7 f11 σ) fun v64 =>
 og (lodA 7 f11 σ) fun v67 =>
 og (bslR 1 [(iv 0)] 0 []) fun v70 =>
 acall TP fn_impl_Op_takes [v64] σ (onr (fun v65 σ =>
 (lodA 7 f11 σ = some v67 ∧ lod v62 σ = some v63 ∧ idx 1 y3.2.2.1 v52 σ = some v62 ∧ True) ∧
 og (ibin .sub v63 v65) fun v66 =>
 acall TP fn_impl_Op_puts [v67] σ (onr (fun v68 σ =>
 (lod v62 σ = some v63 ∧ idx 1 y3.2.2.1 v52 σ = some v62 ∧ True) ∧
 og (ibin .add v66 v68) fun v69 =>
 jn (X := Tup [1, 4, 7, 9, 10, 11, 12, 13, 86]) (fun x4 σ =>
 apick x4.2.2.2.2.2.2.2.2.1 (
 aret (.tup [nilS, (.val (.bool false))]) σ R) (
 jn (X := Tup [1, 4, 7, 9, 11, 12, 13]) (fun x5 σ =>
 jn (X := Tup [1, 4, 7, 9, 12, 13]) (fun x6 σ =>
 og (lenS x6.2.2.2.2.2.1) fun v104 =>
 lp (X := Tup [1, 4, 7, 9, 12, 103, 104, 105]) (fun R7 y7 σ =>
 og (ibin .lss y7.2.2.2.2.2.2.2.1 y7.2.2.2.2.2.2.1) fun v106 =>
 apick v106 (
 jn (X := Tup [1, 4, 7, 9, 12, 103, 104, 105]) (fun x8 σ =>
 og (ibin .add x8.2.2.2.2.2.2.2.1 (iv 1)) fun v142 =>
 R7 (x8.1, x8.2.1, x8.2.2.1, x8.2.2.2.1, x8.2.2.2.2.1, x8.2.2.2.2.2.1, x8.2.2.2.2.2.2.1, v142, ()) σ) fun k8 =>
 og (idx 1 y7.2.2.2.2.2.1 y7.2.2.2.2.2.2.2.1 σ) fun v107 =>
 og (lod v107 σ) fun v108 =>
 og (ibin .geq v108 y7.2.1) fun v112 =>
 og (gval v112 false false (some y7.2.2.1)) fun v114 =>
 og (gval v112 false false (some v108)) fun v115 =>
 og (gval v112 false false (idx 1 v114 v115 σ)) fun v116 =>
 og (gval v112 false false (lod v116 σ)) fun v117 =>
 og (gval v112 false false (ibin .geq v117 (iv 0))) fun v118 =>
 og (gval v112 false false (some v118)) fun v119 =>
 og (gval v119 true true (some y7.2.2.1)) fun v120 =>
 og (gval v119 true true (some v108)) fun v121 =>
 og (gval v119 true true (idx 1 v120 v121 σ)) fun v122 =>
 og (gval v119 true true (lod v122 σ)) fun v123 =>
 og (gval v119 true true (some y7.2.2.2.2.1)) fun v124 =>
 og (gval v119 true true (ibin .neq v123 v124)) fun v125 =>
 og (gval v112 false false (pickV v119 v125 (.val (.bool false)))) fun v126 =>
 og (pickV v112 (.val (.bool true)) v126) fun v127 =>
 apick v127 (
 aret (.tup [nilS, (.val (.bool false))]) σ R) (
 og (idx 1 y7.2.2.1 v108 σ) fun v131 =>
 og (lod v131 σ) fun v132 =>
 og (ibin .lss v132 (iv 0)) fun v133 =>
 apick v133 (
 bsl 1 [(iv 0)] 1 [(0, v108)] σ fun v139 σ =>
 app 1 y7.2.2.2.1 v139 σ fun v140 σ =>
 og (idx 1 y7.2.2.1 v108 σ) fun v141 =>
 sto 1 v141 y7.2.2.2.2.1 σ fun σ =>
 k8 (y7.1, y7.2.1, y7.2.2.1, v140, y7.2.2.2.2.1, y7.2.2.2.2.2.1, y7.2.2.2.2.2.2.1, y7.2.2.2.2.2.2.2.1, ()) σ) (
 k8 (y7.1, y7.2.1, y7.2.2.1, y7.2.2.2.1, y7.2.2.2.2.1, y7.2.2.2.2.2.1, y7.2.2.2.2.2.2.1, y7.2.2.2.2.2.2.2.1, ()) σ))) (
 R3 (y7.1, y7.2.1, y7.2.2.1, y7.2.2.2.1, ()) σ)) (x6.1, x6.2.1, x6.2.2.1, x6.2.2.2.1, x6.2.2.2.2.1, x6.2.2.2.2.2.1, v104, (iv 0), ()) σ) fun k6 =>
 acall TP fn_impl_Op_target [x5.2.2.2.2.1] σ (onr (fun v94 σ =>
 abin TT .neq ty_pointer71 v94 (.val (.pointer none)) fun v96 =>
 apick v96 (
 og (anil v94) fun v99 =>
 og (lod v99 σ) fun v100 =>
 bsl 1 [(iv 0)] 1 [(0, v100)] σ fun v101 σ =>
 app 1 x5.2.2.2.2.2.2.1 v101 σ fun v102 σ =>
 k6 (x5.1, x5.2.1, x5.2.2.1, x5.2.2.2.1, x5.2.2.2.2.2.1, v102, ()) σ) (
 k6 (x5.1, x5.2.1, x5.2.2.1, x5.2.2.2.1, x5.2.2.2.2.2.1, x5.2.2.2.2.2.2.1, ()) σ)) (pn R))) fun k5 =>
 og (lodA 7 x4.2.2.2.2.2.1 σ) fun v87 =>
 acall TP fn_impl_Op_goesOn [v87] σ (onr (fun v88 σ =>
 apick v88 (
 og (ibin .add x4.2.2.2.2.1 (iv 1)) fun v91 =>
 bsl 1 [(iv 0)] 1 [(0, v91)] σ fun v92 σ =>
 app 1 x4.2.2.2.2.2.2.2.1 v92 σ fun v93 σ =>
 k5 (x4.1, x4.2.1, x4.2.2.1, x4.2.2.2.1, x4.2.2.2.2.2.1, x4.2.2.2.2.2.2.1, v93, ()) σ) (
 k5 (x4.1, x4.2.1, x4.2.2.1, x4.2.2.2.1, x4.2.2.2.2.2.1, x4.2.2.2.2.2.2.1, x4.2.2.2.2.2.2.2.1, ()) σ)) (pn R)))) fun k4 =>
 og (idx 1 y3.2.2.1 v52 σ) fun v73 =>
 og (lod v73 σ) fun v74 =>
 og (lodA 7 f11 σ) fun v75 =>
 acall TP fn_impl_Op_takes [v75] σ (onr (fun v76 σ =>
 (lod v73 σ = some v74 ∧ idx 1 y3.2.2.1 v52 σ = some v73 ∧ True) ∧
 og (ibin .lss v74 v76) fun v77 =>
 og (gval v77 false false (lodA 7 f11 σ)) fun v79 =>
 og (gval v77 false false (some y3.2.2.1)) fun v80 =>
 og (gval v77 false false (some v52)) fun v81 =>
 og (gval v77 false false (idx 1 v80 v81 σ)) fun v82 =>
 og (gval v77 false false (lod v82 σ)) fun v83 =>
 gpick v77 (
 k4 (y3.1, y3.2.1, y3.2.2.1, v54, v52, f11, v69, v70, (.val (.bool true)), ()) σ) (
 acall TP fn_impl_Op_ends [v79, v83] σ (onr (fun v84 σ =>
 (True) ∧
 og (aun .not v84) fun v85 =>
 k4 (y3.1, y3.2.1, y3.2.2.1, v54, v52, f11, v69, v70, v85, ()) σ) (pn R))) (False)) (pn R))) (pn R))) (pn R))) (
 aret (.tup [y3.2.2.1, (.val (.bool true))]) σ R)) (y2.1, y2.2.1, y2.2.2.1, v46, ()) σ)) (y1.1, y1.2.1, v34, v36, (iv 0), ()) σ)) (f1, v19, v23, v24, (iv 0), ()) σ) (pn R)))
def x19 : Sx := .box (Z 0) (.frz 1 (Z 0) (Q (F 1 0) (M 0 (O 0 (D .eql (Z 0) (Y 0) (P 0 (.rets [(.lit nilS), (.lit (.val (.bool false)))]) (Q (.lodA 2 (Z 4)) (.call 21 [(Z 0)] (O 0 (.lp [1, 4, 23, 24, 25] (D .lss (Z 4) (Z 3) (P 0 (J 1 3 5 (M 0 (D .geq (Z 0) (Z 4) (P 0 (.rets [(.lit nilS), (.lit (.val (.bool false)))]) (D .add (Z 8) (Y 1) (.jump 0 [(Z 5), (Z 6), (Z 7), (Z 8), (Z 0)])))))) (.mks 28 (Z 2) (Z 2) (O 0 (.lp [1, 4, 7, 36, 37] (D .lss (Z 4) (Z 3) (P 0 (J 1 3 5 (.sto 1 (Z 0) (Y (-1)) (D .add (Z 6) (Y 1) (.jump 0 [(Z 3), (Z 4), (Z 5), (Z 6), (Z 0)])))) (Q (.idx 1 (Z 3) (Y 0)) (.sto 1 (Z 0) (Y 0) (.bsl 1 [(iv 0)] 1 [(0, (Y 0))] (.lp [1, 4, 7, 9] (O 3 (D .gtr (Z 0) (Y 0) (P 0 (Q (.idx 1 (Z 5) (Y 0)) (M 0 (Q (.slc 1 (Z 7) (some (Y 1)) none none) (Q (F 1 5) (M 0 (J 7 0 3 (Q (.lodA 7 (Z 0)) (.new [(iv 0), (iv 0), (iv 0), (iv 0), (iv 0), (str ⟨#[]⟩), nilS] (.sto 7 (Z 0) (Z 1) (.frz 13 (Z 0) (.ord [0, 1, 2, 3, 4, 7, 10, 5, 6, 8, 9, 11, 12] [0, 0, 3, 7, 0, 16, 63, 0, 176, 511, 0, 1023, 4095] (J 1 13 7 (M 0 (Q (.lodA 7 (Z 2)) (Q (.lodA 7 (Z 3)) (Q (.bslR 1 [(iv 0)] 0 []) (.call 38 [(Z 2)] (.wat [⟨none, (.lodA 7 (Z 6)), (Z 2)⟩, ⟨none, (.lod (Z 5)), (Z 4)⟩, ⟨none, (.idx 1 (Z 19) (Z 13)), (Z 5)⟩] (D .sub (Z 4) (Z 0) (.call 39 [(Z 3)] (.wat [⟨none, (.lod (Z 7)), (Z 6)⟩, ⟨none, (.idx 1 (Z 21) (Z 15)), (Z 7)⟩] (D .add (Z 1) (Z 0) (.jn 1045693 [1, 4, 7, 9, 10, 11, 12, 13, 86] (P 8 (.rets [(.lit nilS), (.lit (.val (.bool false)))]) (.jn 1045695 [1, 4, 7, 9, 11, 12, 13] (.jn 2091391 [1, 4, 7, 9, 12, 13] (O 5 (.lp [1, 4, 7, 9, 12, 103, 104, 105] (D .lss (Z 7) (Z 6) (P 0 (.jn 133849063 [1, 4, 7, 9, 12, 103, 104, 105] (D .add (Z 7) (Y 1) (.jump 0 [(Z 1), (Z 2), (Z 3), (Z 4), (Z 5), (Z 6), (Z 7), (Z 0)])) (J 1 6 8 (M 0 (D .geq (Z 0) (Z 4) (G 0 (.ret (Z 6)) (G 1 (.ret (Z 2)) (G 2 (I 1 1 0) (G 3 (L 0) (G 4 (B .geq (Z 0) (Y 0)) (G 5 (.ret (Z 0)) (.gog (Z 0) true true (.ret (Z 12)) (.gog (Z 1) true true (.ret (Z 8)) (.gog (Z 2) true true (I 1 1 0) (.gog (Z 3) true true (L 0) (.gog (Z 4) true true (.ret (Z 18)) (.gog (Z 5) true true (B .neq (Z 1) (Z 0)) (G 12 (.pickV (Z 6) (Z 0) (.lit (.val (.bool false)))) (Q (.pickV (Z 13) (.lit (.val (.bool true))) (Z 0)) (P 0 (.rets [(.lit nilS), (.lit (.val (.bool false)))]) (J 1 20 15 (M 0 (D .lss (Z 0) (Y 0) (P 0 (.bsl 1 [(iv 0)] 1 [(0, (Z 18))] (.app 1 (Z 25) (Z 0) (J 1 25 20 (.sto 1 (Z 0) (Z 28) (.jump 0 [(Z 24), (Z 25), (Z 26), (Z 1), (Z 28), (Z 29), (Z 30), (Z 31)]))))) (.jump 0 [(Z 21), (Z 22), (Z 23), (Z 24), (Z 25), (Z 26), (Z 27), (Z 28)])))))))))))))))))))))))) (.jump 1 [(Z 1), (Z 2), (Z 3), (Z 4)]))) [(Z 1), (Z 2), (Z 3), (Z 4), (Z 5), (Z 6), (Z 0), (Y 0)])) (.call 42 [(Z 4)] (.cmp .neq 71 (Z 0) (.lit (.val (.pointer none))) (P 0 (Q (A 1) (M 0 (.bsl 1 [(iv 0)] 1 [(0, (Z 0))] (.app 1 (Z 11) (Z 0) (.jump 0 [(Z 6), (Z 7), (Z 8), (Z 9), (Z 11), (Z 0)]))))) (.jump 0 [(Z 2), (Z 3), (Z 4), (Z 5), (Z 7), (Z 8)]))))) (Q (.lodA 7 (Z 5)) (.call 41 [(Z 0)] (P 0 (D .add (Z 6) (Y 1) (.bsl 1 [(iv 0)] 1 [(0, (Z 0))] (.app 1 (Z 11) (Z 0) (.jump 0 [(Z 5), (Z 6), (Z 7), (Z 8), (Z 10), (Z 11), (Z 0)])))) (.jump 0 [(Z 2), (Z 3), (Z 4), (Z 5), (Z 7), (Z 8), (Z 9)])))))) (.ord [0, 1, 2, 3, 4, 5, 6, 7, 8, 9, 10, 11, 12, 13, 14, 15] [0, 0, 3, 7, 0, 16, 63, 127, 255, 255, 255, 1791, 3839, 8191, 16383, 32767] (J 1 22 16 (M 0 (Q (.lodA 7 (Z 11)) (.call 38 [(Z 0)] (.wat [⟨none, (.lod (Z 3)), (Z 2)⟩, ⟨none, (.idx 1 (Z 26) (Z 20)), (Z 3)⟩] (D .lss (Z 2) (Z 0) (G 0 (.lodA 7 (Z 14)) (G 1 (.ret (Z 28)) (G 2 (.ret (Z 23)) (G 3 (I 1 1 0) (G 4 (L 0) (.gpick (Z 5) (.jump 0 [(Z 30), (Z 31), (Z 32), (Z 25), (Z 26), (Z 19), (Z 10), (Z 14), (.lit (.val (.bool true)))]) (.call 40 [(Z 4), (Z 0)] (.wat [] (Q (.aun .not (Z 0)) (.jump 0 [(Z 32), (Z 33), (Z 34), (Z 27), (Z 28), (Z 21), (Z 12), (Z 16), (Z 0)])))) (.no))))))))))))))))))))))))))))))))))))) (.rets [(Z 4), (.lit (.val (.bool true)))])))) [(Z 3), (Z 4), (Z 5), (Z 0)])))))) [(Z 3), (Z 4), (Z 1), (Z 0), (Y 0)]))))) [(Z 7), (Z 4), (Z 1), (Z 0), (Y 0)]))))))))))
theorem x19_ok : okF TT Tryz.f19 1 x19 = true := by decide +kernel
theorem s_impl_heightsOf_ok (h : s_impl_heightsOf a0 σ R) : acall TP fn_impl_heightsOf [a0] σ R :=
 acall_okF (ρ := [a0]) TT_ok Tryz.func19 rfl x19 x19_ok rfl h
def s_spec_l10Heights (a0 : AV) (σ : AH) (R : AEnd → AH → Prop) : Prop :=
 acall TP fn_spec_l9Block [a0] σ (onr (fun v11 σ =>
 og (ibin .neq v11 (iv 0)) fun v13 =>
 apick v13 (
 aret (.tup [nilS, v11]) σ R) (
 og (anil a0) fun v16 =>
 og (fldA 1 v16) fun v17 =>
 og (lod v17 σ) fun v18 =>
 og (lenS v18) fun v19 =>
 og (ibin .eql v19 (iv 0)) fun v20 =>
 apick v20 (
 aret (.tup [nilS, (iv 1)]) σ R) (
 lp (X := Tup [0, 5]) (fun R1 y1 σ =>
 og (anil y1.1) fun v23 =>
 og (fldA 1 v23) fun v24 =>
 og (lod v24 σ) fun v25 =>
 og (lenS v25) fun v26 =>
 og (ibin .lss y1.2.1 v26) fun v27 =>
 apick v27 (
 og (anil y1.1) fun v31 =>
 og (fldA 1 v31) fun v32 =>
 og (lod v32 σ) fun v33 =>
 og (idx 7 v33 y1.2.1 σ) fun v35 =>
 og (anil y1.1) fun v38 =>
 og (fldA 1 v38) fun v39 =>
 og (lod v39 σ) fun v40 =>
 og (lenS v40) fun v41 =>
 acall TP fn_spec_l9Target [v35] σ (onr (fun v36 σ =>
 (lod v39 σ = some v40 ∧ True) ∧
 og (ibin .geq v36 v41) fun v42 =>
 apick v42 (
 aret (.tup [nilS, (iv 1)]) σ R) (
 og (ibin .add y1.2.1 (iv 1)) fun v29 =>
 R1 (y1.1, v29, ()) σ)) (pn R))) (
 bsl 1 [(iv 0)] 1 [(0, (iv 0))] σ fun v43 σ =>
 lp (X := Tup [0, 6, 7]) (fun R2 y2 σ =>
 og (anil y2.1) fun v46 =>
 og (fldA 1 v46) fun v47 =>
 og (lod v47 σ) fun v48 =>
 og (lenS v48) fun v49 =>
 og (ibin .lss y2.2.2.1 v49) fun v50 =>
 apick v50 (
 bsl 1 [(iv 0)] 1 [(0, (iv (-1)))] σ fun v54 σ =>
 app 1 y2.2.1 v54 σ fun v55 σ =>
 og (ibin .add y2.2.2.1 (iv 1)) fun v52 =>
 R2 (y2.1, v55, v52, ()) σ) (
 lp (X := Tup [0, 6]) (fun R3 y3 σ =>
 acall TP fn_spec_l10Pass [y3.1, y3.2.1] σ (onr (fun v59 σ =>
 og (aext v59 0) fun v60 =>
 og (aext v59 1) fun v61 =>
 og (aun .not v61) fun v63 =>
 apick v63 (
 aret (.tup [nilS, (iv 1)]) σ R) (
 og (aun .not v60) fun v65 =>
 apick v65 (
 aret (.tup [y3.2.1, (iv 0)]) σ R) (
 R3 (y3.1, y3.2.1, ()) σ))) (pn R))) (y2.1, y2.2.1, ()) σ)) (y1.1, v43, (iv 1), ()) σ)) (a0, (iv 0), ()) σ))) (pn R))
def x20 : Sx := .call 43 [(Z 0)] (D .neq (Z 0) (Y 0) (P 0 (.rets [(.lit nilS), (Z 1)]) (Q (A 2) (Q (F 1 0) (M 0 (O 0 (D .eql (Z 0) (Y 0) (P 0 (.rets [(.lit nilS), (Y 1)]) (.lp [0, 5] (Q (A 0) (Q (F 1 0) (M 0 (O 0 (D .lss (Z 5) (Z 0) (P 0 (.ord [0, 1, 2, 3, 4, 5, 7, 8, 9, 10, 11, 6, 12] [0, 1, 3, 7, 0, 31, 63, 0, 128, 384, 896, 1920, 4095] (Q (A 5) (Q (F 1 0) (M 0 (J 7 0 9 (Q (A 9) (Q (F 1 0) (M 0 (O 0 (.call 44 [(Z 4)] (.wat [⟨none, (.lod (Z 3)), (Z 2)⟩] (D .geq (Z 0) (Z 1) (P 0 (.rets [(.lit nilS), (Y 1)]) (D .add (Z 16) (Y 1) (.jump 0 [(Z 16), (Z 0)]))))))))))))))) (.bsl 1 [(iv 0)] 1 [(0, (Y 0))] (.lp [0, 6, 7] (Q (A 0) (Q (F 1 0) (M 0 (O 0 (D .lss (Z 6) (Z 0) (P 0 (.bsl 1 [(iv 0)] 1 [(0, (Y (-1)))] (.app 1 (Z 7) (Z 0) (D .add (Z 9) (Y 1) (.jump 0 [(Z 8), (Z 1), (Z 0)])))) (.lp [0, 6] (.call 45 [(Z 0), (Z 1)] (Q (.aext (Z 0) 0) (Q (.aext (Z 1) 1) (Q (.aun .not (Z 0)) (P 0 (.rets [(.lit nilS), (Y 1)]) (Q (.aun .not (Z 2)) (P 0 (.rets [(Z 6), (Y 0)]) (.jump 0 [(Z 5), (Z 6)])))))))) [(Z 5), (Z 6)]))))))) [(Z 6), (Z 0), (Y 1)])))))))) [(Z 7), (Y 0)])))))))))
theorem x20_ok : okF TT Tryz.f20 1 x20 = true := by decide +kernel
theorem s_spec_l10Heights_ok (h : s_spec_l10Heights a0 σ R) : acall TP fn_spec_l10Heights [a0] σ R :=
 acall_okF (ρ := [a0]) TT_ok Tryz.func20 rfl x20 x20_ok rfl h
def s_impl_targets (a0 : AV) (σ : AH) (R : AEnd → AH → Prop) : Prop :=
 abox a0 σ fun v1 σ =>
 frz v1 σ fun f1 σ =>
 bsl 1 [(iv 0)] 0 [] σ fun v7 σ =>
 og (fldA 1 f1) fun v8 =>
 og (lod v8 σ) fun v9 =>
 og (lenS v9) fun v10 =>
 lp (X := Tup [3, 9, 10, 11]) (fun R1 y1 σ =>
 og (ibin .lss y1.2.2.2.1 y1.2.2.1) fun v12 =>
 apick v12 (
 jn (X := Tup [3, 9, 10, 11]) (fun x2 σ =>
 og (ibin .add x2.2.2.2.1 (iv 1)) fun v24 =>
 R1 (x2.1, x2.2.1, x2.2.2.1, v24, ()) σ) fun k2 =>
 og (idx 7 y1.2.1 y1.2.2.2.1 σ) fun v13 =>
 og (lodA 7 v13 σ) fun v14 =>
 new [(iv 0), (iv 0), (iv 0), (iv 0), (iv 0), (str ⟨#[]⟩), nilS] σ fun v5 σ =>
 sto 7 v5 v14 σ fun σ =>
 frz v5 σ fun f5 σ =>
 acall TP fn_impl_Op_target [f5] σ (onr (fun v15 σ =>
 abin TT .neq ty_pointer71 v15 (.val (.pointer none)) fun v17 =>
 apick v17 (
 og (anil v15) fun v20 =>
 og (lod v20 σ) fun v21 =>
 bsl 1 [(iv 0)] 1 [(0, v21)] σ fun v22 σ =>
 app 1 y1.1 v22 σ fun v23 σ =>
 k2 (v23, y1.2.1, y1.2.2.1, y1.2.2.2.1, ()) σ) (
 k2 (y1.1, y1.2.1, y1.2.2.1, y1.2.2.2.1, ()) σ)) (pn R))) (
 acall TP fn_slices_Sort [y1.1] σ (onr (fun v26 σ =>
 acall TP fn_slices_Compact [y1.1] σ (onr (fun v28 σ =>
 aret v28 σ R) (pn R))) (pn R)))) (v7, v9, v10, (iv 0), ()) σ
def x21 : Sx := .box (Z 0) (.frz 1 (Z 0) (.bsl 1 [(iv 0)] 0 [] (Q (F 1 1) (M 0 (O 0 (.lp [3, 9, 10, 11] (D .lss (Z 3) (Z 2) (P 0 (.jn 935 [3, 9, 10, 11] (D .add (Z 3) (Y 1) (.jump 0 [(Z 1), (Z 2), (Z 3), (Z 0)])) (J 7 2 4 (Q (.lodA 7 (Z 0)) (.new [(iv 0), (iv 0), (iv 0), (iv 0), (iv 0), (str ⟨#[]⟩), nilS] (.sto 7 (Z 0) (Z 1) (.frz 7 (Z 0) (.call 42 [(Z 0)] (.cmp .neq 71 (Z 0) (.lit (.val (.pointer none))) (P 0 (Q (A 1) (M 0 (.bsl 1 [(iv 0)] 1 [(0, (Z 0))] (.app 1 (Z 10) (Z 0) (.jump 0 [(Z 0), (Z 12), (Z 13), (Z 14)]))))) (.jump 0 [(Z 7), (Z 8), (Z 9), (Z 10)])))))))))) (.call 46 [(Z 1)] (.call 47 [(Z 2)] (.ret (Z 0)))))) [(Z 3), (Z 1), (Z 0), (Y 0)]))))))
theorem x21_ok : okF TT Tryz.f21 1 x21 = true := by decide +kernel
theorem s_impl_targets_ok (h : s_impl_targets a0 σ R) : acall TP fn_impl_targets [a0] σ R :=
 acall_okF (ρ := [a0]) TT_ok Tryz.func21 rfl x21 x21_ok rfl h
def s_impl_CodeFault (a0 : AV) (σ : AH) (R : AEnd → AH → Prop) : Prop :=
 acall TP fn_impl_opsFault [a0] σ (onr (fun v17 σ =>
 og (ibin .neq v17 (iv 0)) fun v19 =>
 apick v19 (
 aret v17 σ R) (
 og (lenS a0) fun v22 =>
 og (ibin .eql v22 (iv 0)) fun v23 =>
 og (gval v23 false false (some a0)) fun v25 =>
 og (gval v23 false false (idx 2 v25 (iv 0) σ)) fun v26 =>
 og (gval v23 false false (fldA 0 v26)) fun v27 =>
 og (gval v23 false false (lod v27 σ)) fun v28 =>
 og (gval v23 false false (ibin .neq v28 (iv 0))) fun v29 =>
 og (pickV v23 (.val (.bool true)) v29) fun v30 =>
 apick v30 (
 aret (iv 1) σ R) (
 og (lenS a0) fun v32 =>
 lp (X := Tup [0, 31, 32, 33]) (fun R1 y1 σ =>
 og (ibin .lss y1.2.2.2.1 y1.2.2.1) fun v34 =>
 apick v34 (
 og (idx 2 y1.2.1 y1.2.2.2.1 σ) fun v35 =>
 og (lodA 2 v35 σ) fun v36 =>
 new [(iv 0), nilS] σ fun v5 σ =>
 sto 2 v5 v36 σ fun σ =>
 frz v5 σ fun f5 σ =>
 og (lodA 2 f5 σ) fun v38 =>
 acall TP fn_impl_heightsOf [v38] σ (onr (fun v39 σ =>
 og (aext v39 0) fun v40 =>
 og (aext v39 1) fun v41 =>
 og (aun .not v41) fun v43 =>
 apick v43 (
 aret (iv 1) σ R) (
 og (ibin .add y1.2.2.2.1 (iv 1)) fun v44 =>
 R1 (y1.1, y1.2.1, y1.2.2.1, v44, ()) σ)) (pn R))) (
 acall TP fn_impl_around [y1.1] σ (onr (fun v47 σ =>
 og (aext v47 0) fun v48 =>
 og (aext v47 1) fun v49 =>
 og (aun .not v49) fun v51 =>
 apick v51 (
 aret (iv 1) σ R) (
 og (lenS y1.1) fun v53 =>
 lp (X := Tup [0, 8, 52, 53, 54]) (fun R2 y2 σ =>
 og (ibin .lss y2.2.2.2.2.1 y2.2.2.2.1) fun v55 =>
 apick v55 (
 og (idx 2 y2.2.2.1 y2.2.2.2.2.1 σ) fun v57 =>
 og (lodA 2 v57 σ) fun v58 =>
 new [(iv 0), nilS] σ fun v11 σ =>
 sto 2 v11 v58 σ fun σ =>
 frz v11 σ fun f11 σ =>
 og (fldA 1 f11) fun v59 =>
 og (lod v59 σ) fun v60 =>
 og (lenS v60) fun v61 =>
 lp (X := Tup [0, 8, 10, 52, 53, 54, 60, 61, 62]) (fun R3 y3 σ =>
 og (ibin .lss y3.2.2.2.2.2.2.2.2.1 y3.2.2.2.2.2.2.2.1) fun v63 =>
 apick v63 (
 og (idx 7 y3.2.2.2.2.2.2.1 y3.2.2.2.2.2.2.2.2.1 σ) fun v64 =>
 og (lodA 7 v64 σ) fun v65 =>
 new [(iv 0), (iv 0), (iv 0), (iv 0), (iv 0), (str ⟨#[]⟩), nilS] σ fun v13 σ =>
 sto 7 v13 v65 σ fun σ =>
 frz v13 σ fun f13 σ =>
 og (lodA 7 f13 σ) fun v66 =>
 acall TP fn_impl_Op_localsIn [v66] σ (onr (fun v67 σ =>
 og (lenS v67) fun v68 =>
 lp (X := Tup [0, 8, 10, 13, 52, 53, 54, 60, 61, 62, 67, 68, 69]) (fun R4 y4 σ =>
 og (ibin .lss y4.2.2.2.2.2.2.2.2.2.2.2.2.1 y4.2.2.2.2.2.2.2.2.2.2.2.1) fun v70 =>
 apick v70 (
 og (idx 2 y4.2.2.2.2.2.2.2.2.2.2.1 y4.2.2.2.2.2.2.2.2.2.2.2.2.1 σ) fun v71 =>
 og (lodA 2 v71 σ) fun v72 =>
 new [(iv 0), (iv 0)] σ fun v15 σ =>
 sto 2 v15 v72 σ fun σ =>
 frz v15 σ fun f15 σ =>
 og (idxArr 2 1 f15 (iv 0)) fun v76 =>
 og (lod v76 σ) fun v77 =>
 og (idxArr 2 1 f15 (iv 1)) fun v78 =>
 og (lod v78 σ) fun v79 =>
 acall TP fn_impl_isLocal [y4.1, y4.2.1, y4.2.2.1, v77, v79] σ (onr (fun v80 σ =>
 og (aun .not v80) fun v81 =>
 apick v81 (
 aret (iv 3) σ R) (
 og (ibin .add y4.2.2.2.2.2.2.2.2.2.2.2.2.1 (iv 1)) fun v82 =>
 R4 (y4.1, y4.2.1, y4.2.2.1, y4.2.2.2.1, y4.2.2.2.2.1, y4.2.2.2.2.2.1, y4.2.2.2.2.2.2.1, y4.2.2.2.2.2.2.2.1, y4.2.2.2.2.2.2.2.2.1, y4.2.2.2.2.2.2.2.2.2.1, y4.2.2.2.2.2.2.2.2.2.2.1, y4.2.2.2.2.2.2.2.2.2.2.2.1, v82, ()) σ)) (pn R))) (
 og (fldA 0 y4.2.2.2.1) fun v83 =>
 og (lod v83 σ) fun v84 =>
 og (ibin .eql v84 (iv 9)) fun v85 =>
 og (gval v85 true false (some y4.2.2.1)) fun v87 =>
 og (gval v85 true false (ibin .gtr v87 (iv 0))) fun v88 =>
 og (pickV v85 v88 (.val (.bool false))) fun v89 =>
 apick v89 (
 aret (iv 1) σ R) (
 og (ibin .add y4.2.2.2.2.2.2.2.2.2.1 (iv 1)) fun v90 =>
 R3 (y4.1, y4.2.1, y4.2.2.1, y4.2.2.2.2.1, y4.2.2.2.2.2.1, y4.2.2.2.2.2.2.1, y4.2.2.2.2.2.2.2.1, y4.2.2.2.2.2.2.2.2.1, v90, ()) σ))) (y3.1, y3.2.1, y3.2.2.1, f13, y3.2.2.2.1, y3.2.2.2.2.1, y3.2.2.2.2.2.1, y3.2.2.2.2.2.2.1, y3.2.2.2.2.2.2.2.1, y3.2.2.2.2.2.2.2.2.1, v67, v68, (iv 0), ()) σ) (pn R))) (
 og (ibin .add y3.2.2.2.2.2.1 (iv 1)) fun v91 =>
 R2 (y3.1, y3.2.1, y3.2.2.2.1, y3.2.2.2.2.1, v91, ()) σ)) (y2.1, y2.2.1, y2.2.2.2.2.1, y2.2.2.1, y2.2.2.2.1, y2.2.2.2.2.1, v60, v61, (iv 0), ()) σ) (
 aret (iv 0) σ R)) (y1.1, v48, y1.1, v53, (iv 0), ()) σ)) (pn R)))) (a0, a0, v32, (iv 0), ()) σ))) (pn R))
def x22 : Sx := .call 48 [(Z 0)] (D .neq (Z 0) (Y 0) (P 0 (.ret (Z 1)) (O 2 (D .eql (Z 0) (Y 0) (G 0 (.ret (Z 4)) (G 1 (.idx 2 (Z 0) (Y 0)) (G 2 (F 0 0) (G 3 (L 0) (G 4 (B .neq (Z 0) (Y 0)) (Q (.pickV (Z 5) (.lit (.val (.bool true))) (Z 0)) (P 0 (.ret (Y 1)) (O 10 (.lp [0, 31, 32, 33] (D .lss (Z 3) (Z 2) (P 0 (J 2 2 4 (Q (.lodA 2 (Z 0)) (.new [(iv 0), nilS] (.sto 2 (Z 0) (Z 1) (.frz 7 (Z 0) (Q (.lodA 2 (Z 0)) (.call 19 [(Z 0)] (Q (.aext (Z 0) 0) (Q (.aext (Z 1) 1) (Q (.aun .not (Z 0)) (P 0 (.ret (Y 1)) (D .add (Z 13) (Y 1) (.jump 0 [(Z 11), (Z 12), (Z 13), (Z 0)]))))))))))))) (.call 24 [(Z 1)] (Q (.aext (Z 0) 0) (Q (.aext (Z 1) 1) (Q (.aun .not (Z 0)) (P 0 (.ret (Y 1)) (O 5 (.lp [0, 8, 52, 53, 54] (D .lss (Z 4) (Z 3) (P 0 (J 2 3 5 (Q (.lodA 2 (Z 0)) (.new [(iv 0), nilS] (.sto 2 (Z 0) (Z 1) (.frz 8 (Z 0) (Q (F 1 0) (M 0 (O 0 (.lp [0, 8, 10, 52, 53, 54, 60, 61, 62] (D .lss (Z 8) (Z 7) (P 0 (J 7 7 9 (Q (.lodA 7 (Z 0)) (.new [(iv 0), (iv 0), (iv 0), (iv 0), (iv 0), (str ⟨#[]⟩), nilS] (.sto 7 (Z 0) (Z 1) (.frz 12 (Z 0) (Q (.lodA 7 (Z 0)) (.call 49 [(Z 0)] (O 0 (.lp [0, 8, 10, 13, 52, 53, 54, 60, 61, 62, 67, 68, 69] (D .lss (Z 12) (Z 11) (P 0 (J 2 11 13 (Q (.lodA 2 (Z 0)) (.new [(iv 0), (iv 0)] (.sto 2 (Z 0) (Z 1) (.frz 16 (Z 0) (Q (.idxArr 2 1 (Z 0) (Y 0)) (M 0 (Q (.idxArr 2 1 (Z 2) (Y 1)) (M 0 (.call 50 [(Z 9), (Z 10), (Z 11), (Z 2), (Z 0)] (Q (.aun .not (Z 0)) (P 0 (.ret (Y 3)) (D .add (Z 23) (Y 1) (.jump 0 [(Z 12), (Z 13), (Z 14), (Z 15), (Z 16), (Z 17), (Z 18), (Z 19), (Z 20), (Z 21), (Z 22), (Z 23), (Z 0)])))))))))))))) (Q (F 0 4) (M 0 (D .eql (Z 0) (Y 9) (H 0 (.ret (Z 6)) (H 1 (B .gtr (Z 0) (Y 0)) (Q (.pickV (Z 2) (Z 0) (.lit (.val (.bool false)))) (P 0 (.ret (Y 1)) (D .add (Z 16) (Y 1) (.jump 1 [(Z 8), (Z 9), (Z 10), (Z 12), (Z 13), (Z 14), (Z 15), (Z 16), (Z 0)]))))))))))) [(Z 8), (Z 9), (Z 10), (Z 3), (Z 11), (Z 12), (Z 13), (Z 14), (Z 15), (Z 16), (Z 1), (Z 0), (Y 0)]))))))))) (D .add (Z 6) (Y 1) (.jump 1 [(Z 2), (Z 3), (Z 5), (Z 6), (Z 0)])))) [(Z 8), (Z 9), (Z 12), (Z 10), (Z 11), (Z 12), (Z 1), (Z 0), (Y 0)]))))))))) (.ret (Y 0)))) [(Z 6), (Z 3), (Z 6), (Z 0), (Y 0)]))))))))) [(Z 11), (Z 11), (Z 0), (Y 0)])))))))))))))
theorem x22_ok : okF TT Tryz.f22 1 x22 = true := by decide +kernel
theorem s_impl_CodeFault_ok (h : s_impl_CodeFault a0 σ R) : acall TP fn_impl_CodeFault [a0] σ R :=
 acall_okF (ρ := [a0]) TT_ok Tryz.func22 rfl x22 x22_ok rfl h
def s_impl_in (a0 a1 a2 : AV) (σ : AH) (R : AEnd → AH → Prop) : Prop :=
 og (ibin .leq a1 a0) fun v9 =>
 og (gval v9 true false (some a0)) fun v11 =>
 og (gval v9 true false (some a2)) fun v12 =>
 og (gval v9 true false (ibin .leq v11 v12)) fun v13 =>
 og (pickV v9 v13 (.val (.bool false))) fun v14 =>
 aret v14 σ R
def x23 : Sx := D .leq (Z 1) (Z 2) (H 0 (.ret (Z 3)) (H 1 (.ret (Z 2)) (H 2 (B .leq (Z 1) (Z 0)) (Q (.pickV (Z 3) (Z 0) (.lit (.val (.bool false)))) (.ret (Z 0))))))
theorem x23_ok : okF TT Tryz.f23 3 x23 = true := by decide +kernel
theorem s_impl_in_ok (h : s_impl_in a0 a1 a2 σ R) : acall TP fn_impl_in [a0, a1, a2] σ R :=
 acall_okF (ρ := [a2, a1, a0]) TT_ok Tryz.func23 rfl x23 x23_ok rfl h
def s_impl_around (a0 : AV) (σ : AH) (R : AEnd → AH → Prop) : Prop :=
 og (lenS a0) fun v13 =>
 amake TT ty_Li v13 v13 σ fun v14 σ =>
 og (lenS v14) fun v16 =>
 lp (X := Tup [0, 4, 16, 17]) (fun R1 y1 σ =>
 og (ibin .lss y1.2.2.2.1 y1.2.2.1) fun v18 =>
 apick v18 (
 og (idx 1 y1.2.1 y1.2.2.2.1 σ) fun v22 =>
 sto 1 v22 (iv (-1)) σ fun σ =>
 og (ibin .add y1.2.2.2.1 (iv 1)) fun v23 =>
 R1 (y1.1, y1.2.1, y1.2.2.1, v23, ()) σ) (
 og (lenS y1.1) fun v25 =>
 lp (X := Tup [0, 4, 24, 25, 26]) (fun R2 y2 σ =>
 og (ibin .lss y2.2.2.2.2.1 y2.2.2.2.1) fun v27 =>
 apick v27 (
 og (idx 2 y2.2.2.1 y2.2.2.2.2.1 σ) fun v29 =>
 og (lodA 2 v29 σ) fun v30 =>
 new [(iv 0), nilS] σ fun v7 σ =>
 sto 2 v7 v30 σ fun σ =>
 frz v7 σ fun f7 σ =>
 og (fldA 1 f7) fun v31 =>
 og (lod v31 σ) fun v32 =>
 og (lenS v32) fun v33 =>
 lp (X := Tup [0, 4, 6, 24, 25, 26, 32, 33, 34]) (fun R3 y3 σ =>
 og (ibin .lss y3.2.2.2.2.2.2.2.2.1 y3.2.2.2.2.2.2.2.1) fun v35 =>
 apick v35 (
 jn (X := Tup [0, 4, 6, 24, 25, 26, 32, 33, 34]) (fun x4 σ =>
 og (ibin .add x4.2.2.2.2.2.2.2.2.1 (iv 1)) fun v65 =>
 R3 (x4.1, x4.2.1, x4.2.2.1, x4.2.2.2.1, x4.2.2.2.2.1, x4.2.2.2.2.2.1, x4.2.2.2.2.2.2.1, x4.2.2.2.2.2.2.2.1, v65, ()) σ) fun k4 =>
 og (idx 7 y3.2.2.2.2.2.2.1 y3.2.2.2.2.2.2.2.2.1 σ) fun v36 =>
 og (lodA 7 v36 σ) fun v37 =>
 new [(iv 0), (iv 0), (iv 0), (iv 0), (iv 0), (str ⟨#[]⟩), nilS] σ fun v9 σ =>
 sto 7 v9 v37 σ fun σ =>
 frz v9 σ fun f9 σ =>
 og (fldA 0 f9) fun v38 =>
 og (lod v38 σ) fun v39 =>
 og (ibin .neq v39 (iv 4)) fun v40 =>
 apick v40 (
 k4 (y3.1, y3.2.1, y3.2.2.1, y3.2.2.2.1, y3.2.2.2.2.1, y3.2.2.2.2.2.1, y3.2.2.2.2.2.2.1, y3.2.2.2.2.2.2.2.1, y3.2.2.2.2.2.2.2.2.1, ()) σ) (
 og (fldA 1 f9) fun v41 =>
 og (lod v41 σ) fun v42 =>
 og (ibin .leq v42 y3.2.2.1) fun v44 =>
 og (gval v44 false false (fldA 1 f9)) fun v46 =>
 og (gval v44 false false (lod v46 σ)) fun v47 =>
 og (gval v44 false false (some y3.1)) fun v48 =>
 og (gval v44 false false (lenS v48)) fun v49 =>
 og (gval v44 false false (ibin .geq v47 v49)) fun v50 =>
 og (pickV v44 (.val (.bool true)) v50) fun v51 =>
 og (gval v51 false false (some y3.2.1)) fun v53 =>
 og (gval v51 false false (fldA 1 f9)) fun v54 =>
 og (gval v51 false false (lod v54 σ)) fun v55 =>
 og (gval v51 false false (idx 1 v53 v55 σ)) fun v56 =>
 og (gval v51 false false (lod v56 σ)) fun v57 =>
 og (gval v51 false false (ibin .geq v57 (iv 0))) fun v58 =>
 og (pickV v51 (.val (.bool true)) v58) fun v59 =>
 apick v59 (
 aret (.tup [nilS, (.val (.bool false))]) σ R) (
 og (fldA 1 f9) fun v61 =>
 og (lod v61 σ) fun v62 =>
 og (idx 1 y3.2.1 v62 σ) fun v64 =>
 sto 1 v64 y3.2.2.1 σ fun σ =>
 k4 (y3.1, y3.2.1, y3.2.2.1, y3.2.2.2.1, y3.2.2.2.2.1, y3.2.2.2.2.2.1, y3.2.2.2.2.2.2.1, y3.2.2.2.2.2.2.2.1, y3.2.2.2.2.2.2.2.2.1, ()) σ))) (
 og (ibin .add y3.2.2.2.2.2.1 (iv 1)) fun v66 =>
 R2 (y3.1, y3.2.1, y3.2.2.2.1, y3.2.2.2.2.1, v66, ()) σ)) (y2.1, y2.2.1, y2.2.2.2.2.1, y2.2.2.1, y2.2.2.2.1, y2.2.2.2.2.1, v32, v33, (iv 0), ()) σ) (
 og (slc 1 y2.2.1 (some (iv 1)) none none σ) fun v68 =>
 og (lenS v68) fun v69 =>
 lp (X := Tup [4, 68, 69, 70]) (fun R5 y5 σ =>
 og (ibin .lss y5.2.2.2.1 y5.2.2.1) fun v71 =>
 apick v71 (
 og (idx 1 y5.2.1 y5.2.2.2.1 σ) fun v72 =>
 og (lod v72 σ) fun v73 =>
 og (ibin .lss v73 (iv 0)) fun v75 =>
 apick v75 (
 aret (.tup [nilS, (.val (.bool false))]) σ R) (
 og (ibin .add y5.2.2.2.1 (iv 1)) fun v76 =>
 R5 (y5.1, y5.2.1, y5.2.2.1, v76, ()) σ)) (
 aret (.tup [y5.1, (.val (.bool true))]) σ R)) (y2.2.1, v68, v69, (iv 0), ()) σ)) (y1.1, y1.2.1, y1.1, v25, (iv 0), ()) σ)) (a0, v14, v16, (iv 0), ()) σ
def x24 : Sx := O 0 (.mks 28 (Z 0) (Z 0) (O 0 (.lp [0, 4, 16, 17] (D .lss (Z 3) (Z 2) (P 0 (J 1 2 4 (.sto 1 (Z 0) (Y (-1)) (D .add (Z 5) (Y 1) (.jump 0 [(Z 3), (Z 4), (Z 5), (Z 0)])))) (O 1 (.lp [0, 4, 24, 25, 26] (D .lss (Z 4) (Z 3) (P 0 (J 2 3 5 (Q (.lodA 2 (Z 0)) (.new [(iv 0), nilS] (.sto 2 (Z 0) (Z 1) (.frz 8 (Z 0) (Q (F 1 0) (M 0 (O 0 (.lp [0, 4, 6, 24, 25, 26, 32, 33, 34] (D .lss (Z 8) (Z 7) (P 0 (.jn 501351 [0, 4, 6, 24, 25, 26, 32, 33, 34] (D .add (Z 8) (Y 1) (.jump 0 [(Z 1), (Z 2), (Z 3), (Z 4), (Z 5), (Z 6), (Z 7), (Z 8), (Z 0)])) (J 7 7 9 (Q (.lodA 7 (Z 0)) (.new [(iv 0), (iv 0), (iv 0), (iv 0), (iv 0), (str ⟨#[]⟩), nilS] (.sto 7 (Z 0) (Z 1) (.frz 12 (Z 0) (Q (F 0 0) (M 0 (D .neq (Z 0) (Y 4) (P 0 (.jump 0 [(Z 8), (Z 9), (Z 10), (Z 11), (Z 12), (Z 13), (Z 14), (Z 15), (Z 16)]) (Q (F 1 3) (M 0 (D .leq (Z 0) (Z 12) (G 0 (F 1 6) (G 1 (L 0) (G 2 (.ret (Z 13)) (G 3 (N 0) (G 4 (B .geq (Z 2) (Z 0)) (Q (.pickV (Z 5) (.lit (.val (.bool true))) (Z 0)) (G 0 (.ret (Z 18)) (G 1 (F 1 13) (G 2 (L 0) (G 3 (I 1 2 0) (G 4 (L 0) (G 5 (B .geq (Z 0) (Y 0)) (Q (.pickV (Z 6) (.lit (.val (.bool true))) (Z 0)) (P 0 (.rets [(.lit nilS), (.lit (.val (.bool false)))]) (Q (F 1 19) (M 0 (J 1 27 0 (.sto 1 (Z 0) (Z 29) (.jump 0 [(Z 27), (Z 28), (Z 29), (Z 30), (Z 31), (Z 32), (Z 33), (Z 34), (Z 35)])))))))))))))))))))))))))))))))) (D .add (Z 6) (Y 1) (.jump 1 [(Z 2), (Z 3), (Z 5), (Z 6), (Z 0)])))) [(Z 8), (Z 9), (Z 12), (Z 10), (Z 11), (Z 12), (Z 1), (Z 0), (Y 0)]))))))))) (Q (.slc 1 (Z 2) (some (Y 1)) none none) (O 0 (.lp [4, 68, 69, 70] (D .lss (Z 3) (Z 2) (P 0 (J 1 2 4 (M 0 (D .lss (Z 0) (Y 0) (P 0 (.rets [(.lit nilS), (.lit (.val (.bool false)))]) (D .add (Z 7) (Y 1) (.jump 0 [(Z 5), (Z 6), (Z 7), (Z 0)])))))) (.rets [(Z 1), (.lit (.val (.bool true)))]))) [(Z 4), (Z 1), (Z 0), (Y 0)]))))) [(Z 2), (Z 3), (Z 2), (Z 0), (Y 0)])))) [(Z 3), (Z 1), (Z 0), (Y 0)])))
theorem x24_ok : okF TT Tryz.f24 1 x24 = true := by decide +kernel
theorem s_impl_around_ok (h : s_impl_around a0 σ R) : acall TP fn_impl_around [a0] σ R :=
 acall_okF (ρ := [a0]) TT_ok Tryz.func24 rfl x24 x24_ok rfl h
def s_spec_l10Fault (a0 : AV) (σ : AH) (R : AEnd → AH → Prop) : Prop :=
 acall TP fn_spec_l9Fault [a0] σ (onr (fun v10 σ =>
 og (ibin .neq v10 (iv 0)) fun v12 =>
 apick v12 (
 aret (.tup [nilS, v10]) σ R) (
 og (lenS a0) fun v15 =>
 og (ibin .eql v15 (iv 0)) fun v16 =>
 og (gval v16 false false (some a0)) fun v18 =>
 og (gval v16 false false (idx 2 v18 (iv 0) σ)) fun v19 =>
 og (gval v16 false false (fldA 0 v19)) fun v20 =>
 og (gval v16 false false (lod v20 σ)) fun v21 =>
 og (gval v16 false false (ibin .neq v21 (iv 0))) fun v22 =>
 og (pickV v16 (.val (.bool true)) v22) fun v23 =>
 apick v23 (
 aret (.tup [nilS, (iv 1)]) σ R) (
 acall TP fn_spec_l10Around [a0] σ (onr (fun v26 σ =>
 og (aext v26 0) fun v27 =>
 og (aext v26 1) fun v28 =>
 og (ibin .neq v28 (iv 0)) fun v30 =>
 apick v30 (
 aret (.tup [nilS, v28]) σ R) (
 lp (X := Tup [0, 5, 7]) (fun R1 y1 σ =>
 og (lenS y1.1) fun v34 =>
 og (ibin .lss y1.2.2.1 v34) fun v35 =>
 apick v35 (
 acall TP fn_spec_l10Locals [y1.1, y1.2.1, y1.2.2.1] σ (onr (fun v41 σ =>
 og (ibin .neq v41 (iv 0)) fun v43 =>
 apick v43 (
 aret (.tup [nilS, v41]) σ R) (
 og (ibin .add y1.2.2.1 (iv 1)) fun v37 =>
 R1 (y1.1, y1.2.1, v37, ()) σ)) (pn R))) (
 aret (.tup [y1.2.1, (iv 0)]) σ R)) (a0, v27, (iv 0), ()) σ)) (pn R))))) (pn R))
def x25 : Sx := .call 51 [(Z 0)] (D .neq (Z 0) (Y 0) (P 0 (.rets [(.lit nilS), (Z 1)]) (O 2 (D .eql (Z 0) (Y 0) (G 0 (.ret (Z 4)) (G 1 (.idx 2 (Z 0) (Y 0)) (G 2 (F 0 0) (G 3 (L 0) (G 4 (B .neq (Z 0) (Y 0)) (Q (.pickV (Z 5) (.lit (.val (.bool true))) (Z 0)) (P 0 (.rets [(.lit nilS), (Y 1)]) (.call 52 [(Z 10)] (Q (.aext (Z 0) 0) (Q (.aext (Z 1) 1) (D .neq (Z 0) (Y 0) (P 0 (.rets [(.lit nilS), (Z 1)]) (.lp [0, 5, 7] (O 0 (D .lss (Z 3) (Z 0) (P 0 (.call 53 [(Z 2), (Z 3), (Z 4)] (D .neq (Z 0) (Y 0) (P 0 (.rets [(.lit nilS), (Z 1)]) (D .add (Z 6) (Y 1) (.jump 0 [(Z 5), (Z 6), (Z 0)]))))) (.rets [(Z 3), (Y 0)])))) [(Z 14), (Z 2), (Y 0)])))))))))))))))))
theorem x25_ok : okF TT Tryz.f25 1 x25 = true := by decide +kernel
theorem s_spec_l10Fault_ok (h : s_spec_l10Fault a0 σ R) : acall TP fn_spec_l10Fault [a0] σ R :=
 acall_okF (ρ := [a0]) TT_ok Tryz.func25 rfl x25 x25_ok rfl h
def s_spec_l1In (a0 a1 a2 : AV) (σ : AH) (R : AEnd → AH → Prop) : Prop :=
 og (ibin .geq a0 a1) fun v9 =>
 og (gval v9 true false (some a0)) fun v11 =>
 og (gval v9 true false (some a2)) fun v12 =>
 og (gval v9 true false (ibin .leq v11 v12)) fun v13 =>
 og (pickV v9 v13 (.val (.bool false))) fun v14 =>
 aret v14 σ R
def x26 : Sx := D .geq (Z 2) (Z 1) (H 0 (.ret (Z 3)) (H 1 (.ret (Z 2)) (H 2 (B .leq (Z 1) (Z 0)) (Q (.pickV (Z 3) (Z 0) (.lit (.val (.bool false)))) (.ret (Z 0))))))
theorem x26_ok : okF TT Tryz.f26 3 x26 = true := by decide +kernel
theorem s_spec_l1In_ok (h : s_spec_l1In a0 a1 a2 σ R) : acall TP fn_spec_l1In [a0, a1, a2] σ R :=
 acall_okF (ρ := [a2, a1, a0]) TT_ok Tryz.func26 rfl x26 x26_ok rfl h
def s_impl_OpFault_1 (a0 : AV) (σ : AH) (R : AEnd → AH → Prop) : Prop :=
 og (ibin .neq a0 (iv 0)) fun v4 =>
 aret v4 σ R
def x27 : Sx := D .neq (Z 0) (Y 0) (.ret (Z 0))
theorem x27_ok : okF TT Tryz.f27 1 x27 = true := by decide +kernel
theorem s_impl_OpFault_1_ok (h : s_impl_OpFault_1 a0 σ R) : acall TP fn_impl_OpFault_1 [a0] σ R :=
 acall_okF (ρ := [a0]) TT_ok Tryz.func27 rfl x27 x27_ok rfl h
def s_slices_ContainsFunc (a0 a1 : AV) (σ : AH) (R : AEnd → AH → Prop) : Prop :=
 acall TP fn_slices_IndexFunc [a0, a1] σ (onr (fun v7 σ =>
 og (ibin .geq v7 (iv 0)) fun v8 =>
 aret v8 σ R) (pn R))
def x28 : Sx := .call 54 [(Z 1), (Z 0)] (D .geq (Z 0) (Y 0) (.ret (Z 0)))
theorem x28_ok : okF TT Tryz.f28 2 x28 = true := by decide +kernel
theorem s_slices_ContainsFunc_ok (h : s_slices_ContainsFunc a0 a1 σ R) : acall TP fn_slices_ContainsFunc [a0, a1] σ R :=
 acall_okF (ρ := [a1, a0]) TT_ok Tryz.func28 rfl x28 x28_ok rfl h
def s_impl_opNums (a0 : AV) (σ : AH) (R : AEnd → AH → Prop) : Prop :=
 jn (X := Tup [3, 4]) (fun x1 σ =>
 apick x1.2.1 (
 aret (iv 1) σ R) (
 jn (X := Tup [3, 10]) (fun x2 σ =>
 apick x2.2.1 (
 aret (iv 2) σ R) (
 og (ibin .eql x2.1 (iv 16)) fun v14 =>
 apick v14 (
 aret (iv 3) σ R) (
 og (ibin .eql x2.1 (iv 15)) fun v16 =>
 apick v16 (
 aret (iv 4) σ R) (
 aret (iv 0) σ R)))) fun k2 =>
 og (ibin .eql x1.1 (iv 2)) fun v11 =>
 apick v11 (
 k2 (x1.1, v11, ()) σ) (
 og (ibin .eql x1.1 (iv 14)) fun v12 =>
 k2 (x1.1, v12, ()) σ))) fun k1 =>
 og (ibin .eql a0 (iv 4)) fun v5 =>
 apick v5 (
 k1 (a0, v5, ()) σ) (
 og (ibin .eql a0 (iv 5)) fun v6 =>
 apick v6 (
 k1 (a0, v6, ()) σ) (
 og (ibin .eql a0 (iv 6)) fun v7 =>
 apick v7 (
 k1 (a0, v7, ()) σ) (
 og (ibin .eql a0 (iv 10)) fun v8 =>
 apick v8 (
 k1 (a0, v8, ()) σ) (
 og (ibin .eql a0 (iv 11)) fun v9 =>
 k1 (a0, v9, ()) σ))))
def x29 : Sx := .jn 53 [3, 4] (P 1 (.ret (Y 1)) (.jn 215 [3, 10] (P 1 (.ret (Y 2)) (D .eql (Z 0) (Y 16) (P 0 (.ret (Y 3)) (D .eql (Z 1) (Y 15) (P 0 (.ret (Y 4)) (.ret (Y 0))))))) (D .eql (Z 0) (Y 2) (P 0 (.jump 0 [(Z 1), (Z 0)]) (D .eql (Z 1) (Y 14) (.jump 0 [(Z 2), (Z 0)])))))) (D .eql (Z 0) (Y 4) (P 0 (.jump 0 [(Z 1), (Z 0)]) (D .eql (Z 1) (Y 5) (P 0 (.jump 0 [(Z 2), (Z 0)]) (D .eql (Z 2) (Y 6) (P 0 (.jump 0 [(Z 3), (Z 0)]) (D .eql (Z 3) (Y 10) (P 0 (.jump 0 [(Z 4), (Z 0)]) (D .eql (Z 4) (Y 11) (.jump 0 [(Z 5), (Z 0)]))))))))))
theorem x29_ok : okF TT Tryz.f29 1 x29 = true := by decide +kernel
theorem s_impl_opNums_ok (h : s_impl_opNums a0 σ R) : acall TP fn_impl_opNums [a0] σ R :=
 acall_okF (ρ := [a0]) TT_ok Tryz.func29 rfl x29 x29_ok rfl h
def s_impl_opNamed (a0 : AV) (σ : AH) (R : AEnd → AH → Prop) : Prop :=
 og (ibin .eql a0 (iv 3)) fun v4 =>
 og (gval v4 false false (some a0)) fun v6 =>
 og (gval v4 false false (ibin .eql v6 (iv 8))) fun v7 =>
 og (pickV v4 (.val (.bool true)) v7) fun v8 =>
 og (gval v8 false false (some a0)) fun v10 =>
 og (gval v8 false false (ibin .eql v10 (iv 9))) fun v11 =>
 og (pickV v8 (.val (.bool true)) v11) fun v12 =>
 aret v12 σ R
def x30 : Sx := D .eql (Z 0) (Y 3) (G 0 (.ret (Z 1)) (G 1 (B .eql (Z 0) (Y 8)) (Q (.pickV (Z 2) (.lit (.val (.bool true))) (Z 0)) (G 0 (.ret (Z 4)) (G 1 (B .eql (Z 0) (Y 9)) (Q (.pickV (Z 2) (.lit (.val (.bool true))) (Z 0)) (.ret (Z 0))))))))
theorem x30_ok : okF TT Tryz.f30 1 x30 = true := by decide +kernel
theorem s_impl_opNamed_ok (h : s_impl_opNamed a0 σ R) : acall TP fn_impl_opNamed [a0] σ R :=
 acall_okF (ρ := [a0]) TT_ok Tryz.func30 rfl x30 x30_ok rfl h
def s_impl_opData (a0 : AV) (σ : AH) (R : AEnd → AH → Prop) : Prop :=
 og (ibin .eql a0 (iv 1)) fun v4 =>
 og (gval v4 false false (some a0)) fun v6 =>
 og (gval v4 false false (ibin .eql v6 (iv 13))) fun v7 =>
 og (pickV v4 (.val (.bool true)) v7) fun v8 =>
 aret v8 σ R
def x31 : Sx := D .eql (Z 0) (Y 1) (G 0 (.ret (Z 1)) (G 1 (B .eql (Z 0) (Y 13)) (Q (.pickV (Z 2) (.lit (.val (.bool true))) (Z 0)) (.ret (Z 0)))))
theorem x31_ok : okF TT Tryz.f31 1 x31 = true := by decide +kernel
theorem s_impl_opData_ok (h : s_impl_opData a0 σ R) : acall TP fn_impl_opData [a0] σ R :=
 acall_okF (ρ := [a0]) TT_ok Tryz.func31 rfl x31 x31_ok rfl h
def s_impl_OpFault_2 (a0 : AV) (σ : AH) (R : AEnd → AH → Prop) : Prop :=
 acall TP fn_impl_in [a0, (iv 0), (iv 999)] σ (onr (fun v4 σ =>
 og (aun .not v4) fun v5 =>
 aret v5 σ R) (pn R))
def x32 : Sx := .call 23 [(Z 0), (Y 0), (Y 999)] (Q (.aun .not (Z 0)) (.ret (Z 0)))
theorem x32_ok : okF TT Tryz.f32 1 x32 = true := by decide +kernel
theorem s_impl_OpFault_2_ok (h : s_impl_OpFault_2 a0 σ R) : acall TP fn_impl_OpFault_2 [a0] σ R :=
 acall_okF (ρ := [a0]) TT_ok Tryz.func32 rfl x32 x32_ok rfl h
def s_impl_SymFault (a0 : AV) (σ : AH) (R : AEnd → AH → Prop) : Prop :=
 jn (X := Tup [11]) (fun x1 σ =>
 apick x1.1 (
 aret (iv 5) σ R) (
 aret (iv 0) σ R)) fun k1 =>
 og (lenStr a0) fun v4 =>
 acall TP fn_impl_in [v4, (iv 1), (iv 12)] σ (onr (fun v5 σ =>
 og (aun .not v5) fun v6 =>
 og (gval v6 false false (some a0)) fun v8 =>
 gpick v6 (
 k1 ((.val (.bool true)), ()) σ) (
 acall TP fn_strings_Trim [v8, (.val (.string ⟨#[97, 98, 99, 100, 101, 102, 103, 104, 105, 106, 107, 108, 109, 110, 111, 112, 113, 114, 115, 116, 117, 118, 119, 120, 121, 122, 43, 45, 42, 47, 60, 61, 63, 33]⟩))] σ (onr (fun v9 σ =>
 og (sbin .neq v9 (str ⟨#[]⟩)) fun v10 =>
 k1 (v10, ()) σ) (pn R))) (False)) (pn R))
def x33 : Sx := .jn 13 [11] (P 0 (.ret (Y 5)) (.ret (Y 0))) (Q (.lenStr (Z 0)) (.call 23 [(Z 0), (Y 1), (Y 12)] (Q (.aun .not (Z 0)) (G 0 (.ret (Z 3)) (.gpick (Z 1) (.jump 0 [(.lit (.val (.bool true)))]) (.call 55 [(Z 0), (.lit (.val (.string ⟨#[97, 98, 99, 100, 101, 102, 103, 104, 105, 106, 107, 108, 109, 110, 111, 112, 113, 114, 115, 116, 117, 118, 119, 120, 121, 122, 43, 45, 42, 47, 60, 61, 63, 33]⟩)))] (Q (.sbin .neq (Z 0) (.lit (str ⟨#[]⟩))) (.jump 0 [(Z 0)]))) (.no))))))
theorem x33_ok : okF TT Tryz.f33 1 x33 = true := by decide +kernel
theorem s_impl_SymFault_ok (h : s_impl_SymFault a0 σ R) : acall TP fn_impl_SymFault [a0] σ R :=
 acall_okF (ρ := [a0]) TT_ok Tryz.func33 rfl x33 x33_ok rfl h
def s_impl_DataFault (a0 : AV) (σ : AH) (R : AEnd → AH → Prop) : Prop :=
 og (lenS a0) fun v6 =>
 acall TP fn_impl_in [v6, (iv 1), (iv 80)] σ (onr (fun v7 σ =>
 og (aun .not v7) fun v8 =>
 apick v8 (
 aret (iv 2) σ R) (
 og (lenS a0) fun v10 =>
 lp (X := Tup [0, 10, 11]) (fun R1 y1 σ =>
 og (ibin .lss y1.2.2.1 y1.2.1) fun v12 =>
 apick v12 (
 acall TP fn_impl_datumFault [y1.1, y1.2.2.1] σ (onr (fun v16 σ =>
 og (ibin .neq v16 (iv 0)) fun v18 =>
 apick v18 (
 aret v16 σ R) (
 og (ibin .add y1.2.2.1 (iv 1)) fun v20 =>
 R1 (y1.1, y1.2.1, v20, ()) σ)) (pn R))) (
 aret (iv 0) σ R)) (a0, v10, (iv 0), ()) σ)) (pn R))
def x34 : Sx := O 0 (.call 23 [(Z 0), (Y 1), (Y 80)] (Q (.aun .not (Z 0)) (P 0 (.ret (Y 2)) (O 3 (.lp [0, 10, 11] (D .lss (Z 2) (Z 1) (P 0 (.call 56 [(Z 1), (Z 3)] (D .neq (Z 0) (Y 0) (P 0 (.ret (Z 1)) (D .add (Z 5) (Y 1) (.jump 0 [(Z 4), (Z 5), (Z 0)]))))) (.ret (Y 0)))) [(Z 4), (Z 0), (Y 0)])))))
theorem x34_ok : okF TT Tryz.f34 1 x34 = true := by decide +kernel
theorem s_impl_DataFault_ok (h : s_impl_DataFault a0 σ R) : acall TP fn_impl_DataFault [a0] σ R :=
 acall_okF (ρ := [a0]) TT_ok Tryz.func34 rfl x34 x34_ok rfl h
def s_spec_l9Draw (a0 : AV) (σ : AH) (R : AEnd → AH → Prop) : Prop :=
 acall TP fn_spec_l4Datum [a0] σ (onr (fun v7 σ =>
 acall TP fn_spec_ExpandData [v7] σ (onr (fun v8 σ =>
 new [(iv 0), nilS] σ fun v3 σ =>
 sto 2 v3 v8 σ fun σ =>
 frz v3 σ fun f3 σ =>
 og (fldA 0 f3) fun v9 =>
 og (lod v9 σ) fun v10 =>
 og (ibin .neq v10 (iv 0)) fun v11 =>
 apick v11 (
 og (bld [(iv 0), (iv 0), (iv 0), (iv 0), (iv 0), (str ⟨#[]⟩), nilS] [(0, 1), (1, 1), (2, 1), (3, 1), (4, 1), (5, 1), (6, 1)] [(0, (iv 12))]) fun v12 =>
 bsl 7 [(iv 0), (iv 0), (iv 0), (iv 0), (iv 0), (str ⟨#[]⟩), nilS] 1 [(0, v12)] σ fun v13 σ =>
 og (bld [(iv 0), nilS] [(0, 1), (1, 1)] [(1, v13)]) fun v14 =>
 bsl 2 [(iv 0), nilS] 1 [(0, v14)] σ fun v15 σ =>
 aret v15 σ R) (
 og (fldA 1 f3) fun v17 =>
 og (lod v17 σ) fun v18 =>
 acall TP fn_spec_l9Code [v18] σ (onr (fun v19 σ =>
 og (aext v19 0) fun v20 =>
 og (aext v19 1) fun v21 =>
 aret v20 σ R) (pn R)))) (pn R))) (pn R))
def x35 : Sx := .call 58 [(Z 0)] (.call 57 [(Z 0)] (.new [(iv 0), nilS] (.sto 2 (Z 0) (Z 1) (.frz 3 (Z 0) (Q (F 0 0) (M 0 (D .neq (Z 0) (Y 0) (P 0 (Q (.bld [(iv 0), (iv 0), (iv 0), (iv 0), (iv 0), (str ⟨#[]⟩), nilS] [(0, 1), (1, 1), (2, 1), (3, 1), (4, 1), (5, 1), (6, 1)] [(0, (Y 12))]) (.bsl 7 [(iv 0), (iv 0), (iv 0), (iv 0), (iv 0), (str ⟨#[]⟩), nilS] 1 [(0, (Z 0))] (Q (.bld [(iv 0), nilS] [(0, 1), (1, 1)] [(1, (Z 0))]) (.bsl 2 [(iv 0), nilS] 1 [(0, (Z 0))] (.ret (Z 0)))))) (Q (F 1 3) (M 0 (.call 59 [(Z 0)] (Q (.aext (Z 0) 0) (Q (.aext (Z 1) 1) (.ret (Z 1)))))))))))))))
theorem x35_ok : okF TT Tryz.f35 1 x35 = true := by decide +kernel
theorem s_spec_l9Draw_ok (h : s_spec_l9Draw a0 σ R) : acall TP fn_spec_l9Draw [a0] σ R :=
 acall_okF (ρ := [a0]) TT_ok Tryz.func35 rfl x35 x35_ok rfl h
def s_spec_l1Pick (a0 a1 : AV) (σ : AH) (R : AEnd → AH → Prop) : Prop :=
 og (lenS a1) fun v8 =>
 acall TP fn_spec_l1Next [a0, v8] σ (onr (fun v9 σ =>
 og (idx 1 a1 v9 σ) fun v10 =>
 og (lod v10 σ) fun v11 =>
 aret v11 σ R) (pn R))
def x36 : Sx := O 0 (.call 17 [(Z 2), (Z 0)] (J 1 2 0 (M 0 (.ret (Z 0)))))
theorem x36_ok : okF TT Tryz.f36 2 x36 = true := by decide +kernel
theorem s_spec_l1Pick_ok (h : s_spec_l1Pick a0 a1 σ R) : acall TP fn_spec_l1Pick [a0, a1] σ R :=
 acall_okF (ρ := [a1, a0]) TT_ok Tryz.func36 rfl x36 x36_ok rfl h
def s_spec_l3Bent (a0 : AV) (σ : AH) (R : AEnd → AH → Prop) : Prop :=
 acall TP fn_spec_l3Make [a0, nilS, (iv (-1)), (iv 4)] σ (onr (fun v6 σ =>
 og (lenS v6) fun v9 =>
 acall TP fn_spec_l1Next [a0, v9] σ (onr (fun v10 σ =>
 jn (X := Tup [3]) (fun x1 σ =>
 aret x1.1 σ R) fun k1 =>
 acall TP fn_spec_l1Next [a0, (iv 12)] σ (onr (fun v12 σ =>
 og (ibin .eql v12 (iv 0)) fun v14 =>
 apick v14 (
 bsl 1 [(iv 0)] 4 [(0, (iv 0)), (1, (iv 5)), (2, (iv 1)), (3, (iv 4))] σ fun v18 σ =>
 acall TP fn_spec_l1Pick [a0, v18] σ (onr (fun v19 σ =>
 og (idx 4 v6 v10 σ) fun v20 =>
 og (fldA 0 v20) fun v21 =>
 sto 1 v21 v19 σ fun σ =>
 k1 (v6, ()) σ) (pn R))) (
 og (ibin .eql v12 (iv 1)) fun v23 =>
 apick v23 (
 bsl 1 [(iv 0)] 4 [(0, (iv (-1))), (1, (iv 0)), (2, (iv 1)), (3, (iv 90))] σ fun v27 σ =>
 acall TP fn_spec_l1Pick [a0, v27] σ (onr (fun v28 σ =>
 og (idx 4 v6 v10 σ) fun v29 =>
 og (fldA 1 v29) fun v30 =>
 sto 1 v30 v28 σ fun σ =>
 k1 (v6, ()) σ) (pn R))) (
 og (ibin .eql v12 (iv 2)) fun v32 =>
 apick v32 (
 bsl 1 [(iv 0)] 2 [(0, (iv 2)), (1, (iv 1000000001))] σ fun v36 σ =>
 acall TP fn_spec_l1Pick [a0, v36] σ (onr (fun v37 σ =>
 og (idx 4 v6 v10 σ) fun v38 =>
 og (fldA 2 v38) fun v39 =>
 sto 1 v39 v37 σ fun σ =>
 k1 (v6, ()) σ) (pn R))) (
 og (ibin .eql v12 (iv 3)) fun v41 =>
 apick v41 (
 bsl 1 [(str ⟨#[]⟩)] 3 [(0, (str ⟨#[]⟩)), (1, (.val (.string ⟨#[65]⟩))), (2, (.val (.string ⟨#[120]⟩)))] σ fun v44 σ =>
 acall TP fn_spec_l1Next [a0, (iv 3)] σ (onr (fun v46 σ =>
 og (idx 1 v44 v46 σ) fun v47 =>
 og (lod v47 σ) fun v48 =>
 og (idx 4 v6 v10 σ) fun v49 =>
 og (fldA 3 v49) fun v50 =>
 sto 1 v50 v48 σ fun σ =>
 k1 (v6, ()) σ) (pn R))) (
 og (ibin .eql v12 (iv 4)) fun v52 =>
 apick v52 (
 amake TT ty_LRiiisE (iv 81) (iv 81) σ fun v53 σ =>
 k1 (v53, ()) σ) (
 k1 (v6, ()) σ)))))) (pn R))) (pn R))) (pn R))
def x37 : Sx := .call 60 [(Z 0), (.lit nilS), (Y (-1)), (Y 4)] (O 0 (.call 17 [(Z 2), (Z 0)] (.jn 31 [3] (.ret (Z 0)) (.call 17 [(Z 3), (Y 12)] (D .eql (Z 0) (Y 0) (P 0 (.bsl 1 [(iv 0)] 4 [(0, (Y 0)), (1, (Y 5)), (2, (Y 1)), (3, (Y 4))] (.call 36 [(Z 6), (Z 0)] (J 4 6 4 (Q (F 0 0) (.sto 1 (Z 0) (Z 2) (.jump 0 [(Z 8)])))))) (D .eql (Z 1) (Y 1) (P 0 (.bsl 1 [(iv 0)] 4 [(0, (Y (-1))), (1, (Y 0)), (2, (Y 1)), (3, (Y 90))] (.call 36 [(Z 7), (Z 0)] (J 4 7 5 (Q (F 1 0) (.sto 1 (Z 0) (Z 2) (.jump 0 [(Z 9)])))))) (D .eql (Z 2) (Y 2) (P 0 (.bsl 1 [(iv 0)] 2 [(0, (Y 2)), (1, (Y 1000000001))] (.call 36 [(Z 8), (Z 0)] (J 4 8 6 (Q (F 2 0) (.sto 1 (Z 0) (Z 2) (.jump 0 [(Z 10)])))))) (D .eql (Z 3) (Y 3) (P 0 (.bsl 1 [(str ⟨#[]⟩)] 3 [(0, (.lit (str ⟨#[]⟩))), (1, (.lit (.val (.string ⟨#[65]⟩)))), (2, (.lit (.val (.string ⟨#[120]⟩))))] (.call 17 [(Z 9), (Y 3)] (J 1 1 0 (M 0 (J 4 11 9 (Q (F 3 0) (.sto 1 (Z 0) (Z 2) (.jump 0 [(Z 13)])))))))) (D .eql (Z 4) (Y 4) (P 0 (.mks 32 (Y 81) (Y 81) (.jump 0 [(Z 0)])) (.jump 0 [(Z 8)])))))))))))))))
theorem x37_ok : okF TT Tryz.f37 1 x37 = true := by decide +kernel
theorem s_spec_l3Bent_ok (h : s_spec_l3Bent a0 σ R) : acall TP fn_spec_l3Bent [a0] σ R :=
 acall_okF (ρ := [a0]) TT_ok Tryz.func37 rfl x37 x37_ok rfl h
def s_impl_Op_takes (a0 : AV) (σ : AH) (R : AEnd → AH → Prop) : Prop :=
 abox a0 σ fun v1 σ =>
 frz v1 σ fun f1 σ =>
 og (fldA 0 f1) fun v3 =>
 og (lod v3 σ) fun v4 =>
 jn (X := Tup [1, 4, 5]) (fun x1 σ =>
 apick x1.2.2.1 (
 aret (iv 1) σ R) (
 og (ibin .eql x1.2.1 (iv 10)) fun v11 =>
 apick v11 (
 og (fldA 1 x1.1) fun v12 =>
 og (lod v12 σ) fun v13 =>
 og (ibin .add v13 (iv 1)) fun v14 =>
 aret v14 σ R) (
 aret (iv 0) σ R))) fun k1 =>
 og (ibin .eql v4 (iv 6)) fun v6 =>
 apick v6 (
 k1 (f1, v4, v6, ()) σ) (
 og (ibin .eql v4 (iv 7)) fun v7 =>
 apick v7 (
 k1 (f1, v4, v7, ()) σ) (
 og (ibin .eql v4 (iv 8)) fun v8 =>
 apick v8 (
 k1 (f1, v4, v8, ()) σ) (
 og (ibin .eql v4 (iv 9)) fun v9 =>
 k1 (f1, v4, v9, ()) σ)))
def x38 : Sx := .box (Z 0) (.frz 1 (Z 0) (Q (F 0 0) (M 0 (.jn 53 [1, 4, 5] (P 2 (.ret (Y 1)) (D .eql (Z 1) (Y 10) (P 0 (Q (F 1 1) (M 0 (D .add (Z 0) (Y 1) (.ret (Z 0))))) (.ret (Y 0))))) (D .eql (Z 0) (Y 6) (P 0 (.jump 0 [(Z 3), (Z 1), (Z 0)]) (D .eql (Z 1) (Y 7) (P 0 (.jump 0 [(Z 4), (Z 2), (Z 0)]) (D .eql (Z 2) (Y 8) (P 0 (.jump 0 [(Z 5), (Z 3), (Z 0)]) (D .eql (Z 3) (Y 9) (.jump 0 [(Z 6), (Z 4), (Z 0)]))))))))))))
theorem x38_ok : okF TT Tryz.f38 1 x38 = true := by decide +kernel
theorem s_impl_Op_takes_ok (h : s_impl_Op_takes a0 σ R) : acall TP fn_impl_Op_takes [a0] σ R :=
 acall_okF (ρ := [a0]) TT_ok Tryz.func38 rfl x38 x38_ok rfl h
def s_impl_Op_puts (a0 : AV) (σ : AH) (R : AEnd → AH → Prop) : Prop :=
 abox a0 σ fun v1 σ =>
 frz v1 σ fun f1 σ =>
 og (fldA 0 f1) fun v3 =>
 og (lod v3 σ) fun v4 =>
 jn (X := Tup [4, 5]) (fun x1 σ =>
 apick x1.2.1 (
 aret (iv 1) σ R) (
 og (ibin .eql x1.1 (iv 15)) fun v14 =>
 apick v14 (
 aret (iv 2) σ R) (
 aret (iv 0) σ R))) fun k1 =>
 og (ibin .eql v4 (iv 1)) fun v6 =>
 apick v6 (
 k1 (v4, v6, ()) σ) (
 og (ibin .eql v4 (iv 2)) fun v7 =>
 apick v7 (
 k1 (v4, v7, ()) σ) (
 og (ibin .eql v4 (iv 3)) fun v8 =>
 apick v8 (
 k1 (v4, v8, ()) σ) (
 og (ibin .eql v4 (iv 4)) fun v9 =>
 apick v9 (
 k1 (v4, v9, ()) σ) (
 og (ibin .eql v4 (iv 8)) fun v10 =>
 apick v10 (
 k1 (v4, v10, ()) σ) (
 og (ibin .eql v4 (iv 9)) fun v11 =>
 apick v11 (
 k1 (v4, v11, ()) σ) (
 og (ibin .eql v4 (iv 10)) fun v12 =>
 k1 (v4, v12, ()) σ))))))
def x39 : Sx := .box (Z 0) (.frz 1 (Z 0) (Q (F 0 0) (M 0 (.jn 53 [4, 5] (P 1 (.ret (Y 1)) (D .eql (Z 0) (Y 15) (P 0 (.ret (Y 2)) (.ret (Y 0))))) (D .eql (Z 0) (Y 1) (P 0 (.jump 0 [(Z 1), (Z 0)]) (D .eql (Z 1) (Y 2) (P 0 (.jump 0 [(Z 2), (Z 0)]) (D .eql (Z 2) (Y 3) (P 0 (.jump 0 [(Z 3), (Z 0)]) (D .eql (Z 3) (Y 4) (P 0 (.jump 0 [(Z 4), (Z 0)]) (D .eql (Z 4) (Y 8) (P 0 (.jump 0 [(Z 5), (Z 0)]) (D .eql (Z 5) (Y 9) (P 0 (.jump 0 [(Z 6), (Z 0)]) (D .eql (Z 6) (Y 10) (.jump 0 [(Z 7), (Z 0)]))))))))))))))))))
theorem x39_ok : okF TT Tryz.f39 1 x39 = true := by decide +kernel
theorem s_impl_Op_puts_ok (h : s_impl_Op_puts a0 σ R) : acall TP fn_impl_Op_puts [a0] σ R :=
 acall_okF (ρ := [a0]) TT_ok Tryz.func39 rfl x39 x39_ok rfl h
def s_impl_Op_ends (a0 a1 : AV) (σ : AH) (R : AEnd → AH → Prop) : Prop :=
 abox a0 σ fun v2 σ =>
 frz v2 σ fun f2 σ =>
 og (fldA 0 f2) fun v5 =>
 og (lod v5 σ) fun v6 =>
 og (ibin .eql v6 (iv 12)) fun v8 =>
 apick v8 (
 og (ibin .eql a1 (iv 1)) fun v10 =>
 aret v10 σ R) (
 og (ibin .eql v6 (iv 11)) fun v12 =>
 apick v12 (
 og (fldA 1 f2) fun v14 =>
 og (lod v14 σ) fun v15 =>
 og (ibin .add v15 (iv 1)) fun v16 =>
 og (ibin .eql a1 v16) fun v17 =>
 aret v17 σ R) (
 jn (X := Tup [1, 18]) (fun x1 σ =>
 apick x1.2.1 (
 og (ibin .eql x1.1 (iv 0)) fun v22 =>
 aret v22 σ R) (
 aret (.val (.bool true)) σ R)) fun k1 =>
 og (ibin .eql v6 (iv 13)) fun v19 =>
 apick v19 (
 k1 (a1, v19, ()) σ) (
 og (ibin .eql v6 (iv 14)) fun v20 =>
 k1 (a1, v20, ()) σ)))
def x40 : Sx := .box (Z 1) (.frz 2 (Z 0) (Q (F 0 0) (M 0 (D .eql (Z 0) (Y 12) (P 0 (D .eql (Z 5) (Y 1) (.ret (Z 0))) (D .eql (Z 1) (Y 11) (P 0 (Q (F 1 4) (M 0 (D .add (Z 0) (Y 1) (D .eql (Z 9) (Z 0) (.ret (Z 0)))))) (.jn 863 [1, 18] (P 1 (D .eql (Z 0) (Y 0) (.ret (Z 0))) (.ret (.lit (.val (.bool true))))) (D .eql (Z 2) (Y 13) (P 0 (.jump 0 [(Z 7), (Z 0)]) (D .eql (Z 3) (Y 14) (.jump 0 [(Z 8), (Z 0)]))))))))))))
theorem x40_ok : okF TT Tryz.f40 2 x40 = true := by decide +kernel
theorem s_impl_Op_ends_ok (h : s_impl_Op_ends a0 a1 σ R) : acall TP fn_impl_Op_ends [a0, a1] σ R :=
 acall_okF (ρ := [a1, a0]) TT_ok Tryz.func40 rfl x40 x40_ok rfl h
def s_impl_Op_goesOn (a0 : AV) (σ : AH) (R : AEnd → AH → Prop) : Prop :=
 abox a0 σ fun v1 σ =>
 frz v1 σ fun f1 σ =>
 og (fldA 0 f1) fun v3 =>
 og (lod v3 σ) fun v4 =>
 jn (X := Tup [5]) (fun x1 σ =>
 apick x1.1 (
 aret (.val (.bool false)) σ R) (
 aret (.val (.bool true)) σ R)) fun k1 =>
 og (ibin .eql v4 (iv 5)) fun v6 =>
 apick v6 (
 k1 (v6, ()) σ) (
 og (ibin .eql v4 (iv 11)) fun v7 =>
 apick v7 (
 k1 (v7, ()) σ) (
 og (ibin .eql v4 (iv 12)) fun v8 =>
 apick v8 (
 k1 (v8, ()) σ) (
 og (ibin .eql v4 (iv 13)) fun v9 =>
 apick v9 (
 k1 (v9, ()) σ) (
 og (ibin .eql v4 (iv 14)) fun v10 =>
 k1 (v10, ()) σ))))
def x41 : Sx := .box (Z 0) (.frz 1 (Z 0) (Q (F 0 0) (M 0 (.jn 53 [5] (P 0 (.ret (.lit (.val (.bool false)))) (.ret (.lit (.val (.bool true))))) (D .eql (Z 0) (Y 5) (P 0 (.jump 0 [(Z 0)]) (D .eql (Z 1) (Y 11) (P 0 (.jump 0 [(Z 0)]) (D .eql (Z 2) (Y 12) (P 0 (.jump 0 [(Z 0)]) (D .eql (Z 3) (Y 13) (P 0 (.jump 0 [(Z 0)]) (D .eql (Z 4) (Y 14) (.jump 0 [(Z 0)]))))))))))))))
theorem x41_ok : okF TT Tryz.f41 1 x41 = true := by decide +kernel
theorem s_impl_Op_goesOn_ok (h : s_impl_Op_goesOn a0 σ R) : acall TP fn_impl_Op_goesOn [a0] σ R :=
 acall_okF (ρ := [a0]) TT_ok Tryz.func41 rfl x41 x41_ok rfl h
def s_impl_Op_target (a0 : AV) (σ : AH) (R : AEnd → AH → Prop) : Prop :=
 og (anil a0) fun v4 =>
 og (fldA 0 v4) fun v5 =>
 og (lod v5 σ) fun v6 =>
 jn (X := Tup [0, 6, 7]) (fun x1 σ =>
 apick x1.2.2.1 (
 og (anil x1.1) fun v11 =>
 og (fldA 1 v11) fun v12 =>
 aret v12 σ R) (
 og (ibin .eql x1.2.1 (iv 16)) fun v14 =>
 apick v14 (
 og (anil x1.1) fun v16 =>
 og (fldA 3 v16) fun v17 =>
 aret v17 σ R) (
 aret (.val (.pointer none)) σ R))) fun k1 =>
 og (ibin .eql v6 (iv 5)) fun v8 =>
 apick v8 (
 k1 (a0, v6, v8, ()) σ) (
 og (ibin .eql v6 (iv 6)) fun v9 =>
 k1 (a0, v6, v9, ()) σ)
def x42 : Sx := Q (A 0) (Q (F 0 0) (M 0 (.jn 53 [0, 6, 7] (P 2 (Q (A 0) (Q (F 1 0) (.ret (Z 0)))) (D .eql (Z 1) (Y 16) (P 0 (Q (A 1) (Q (F 3 0) (.ret (Z 0)))) (.ret (.lit (.val (.pointer none))))))) (D .eql (Z 0) (Y 5) (P 0 (.jump 0 [(Z 4), (Z 1), (Z 0)]) (D .eql (Z 1) (Y 6) (.jump 0 [(Z 5), (Z 2), (Z 0)])))))))
theorem x42_ok : okF TT Tryz.f42 1 x42 = true := by decide +kernel
theorem s_impl_Op_target_ok (h : s_impl_Op_target a0 σ R) : acall TP fn_impl_Op_target [a0] σ R :=
 acall_okF (ρ := [a0]) TT_ok Tryz.func42 rfl x42 x42_ok rfl h
def s_spec_l9Block (a0 : AV) (σ : AH) (R : AEnd → AH → Prop) : Prop :=
 og (anil a0) fun v6 =>
 og (fldA 0 v6) fun v7 =>
 og (lod v7 σ) fun v8 =>
 acall TP fn_spec_l1In [v8, (iv 0), (iv 3)] σ (onr (fun v9 σ =>
 og (aun .not v9) fun v10 =>
 apick v10 (
 aret (iv 3) σ R) (
 og (anil a0) fun v12 =>
 og (fldA 1 v12) fun v13 =>
 og (lod v13 σ) fun v14 =>
 og (lenS v14) fun v15 =>
 og (ibin .gtr v15 (iv 200)) fun v16 =>
 apick v16 (
 aret (iv 2) σ R) (
 lp (X := Tup [0, 3]) (fun R1 y1 σ =>
 og (anil y1.1) fun v19 =>
 og (fldA 1 v19) fun v20 =>
 og (lod v20 σ) fun v21 =>
 og (lenS v21) fun v22 =>
 og (ibin .lss y1.2.1 v22) fun v23 =>
 apick v23 (
 og (anil y1.1) fun v27 =>
 og (fldA 1 v27) fun v28 =>
 og (lod v28 σ) fun v29 =>
 og (idx 7 v29 y1.2.1 σ) fun v31 =>
 acall TP fn_spec_l9Op [v31] σ (onr (fun v32 σ =>
 og (ibin .neq v32 (iv 0)) fun v34 =>
 apick v34 (
 aret v32 σ R) (
 og (ibin .add y1.2.1 (iv 1)) fun v25 =>
 R1 (y1.1, v25, ()) σ)) (pn R))) (
 aret (iv 0) σ R)) (a0, (iv 0), ()) σ))) (pn R))
def x43 : Sx := Q (A 0) (Q (F 0 0) (M 0 (.call 26 [(Z 0), (Y 0), (Y 3)] (Q (.aun .not (Z 0)) (P 0 (.ret (Y 3)) (Q (A 5) (Q (F 1 0) (M 0 (O 0 (D .gtr (Z 0) (Y 200) (P 0 (.ret (Y 2)) (.lp [0, 3] (Q (A 0) (Q (F 1 0) (M 0 (O 0 (D .lss (Z 5) (Z 0) (P 0 (Q (A 5) (Q (F 1 0) (M 0 (J 7 0 9 (.call 61 [(Z 0)] (D .neq (Z 0) (Y 0) (P 0 (.ret (Z 1)) (D .add (Z 12) (Y 1) (.jump 0 [(Z 12), (Z 0)]))))))))) (.ret (Y 0)))))))) [(Z 10), (Y 0)]))))))))))))
theorem x43_ok : okF TT Tryz.f43 1 x43 = true := by decide +kernel
theorem s_spec_l9Block_ok (h : s_spec_l9Block a0 σ R) : acall TP fn_spec_l9Block [a0] σ R :=
 acall_okF (ρ := [a0]) TT_ok Tryz.func43 rfl x43 x43_ok rfl h
def s_spec_l9Target (a0 : AV) (σ : AH) (R : AEnd → AH → Prop) : Prop :=
 og (anil a0) fun v4 =>
 og (fldA 0 v4) fun v5 =>
 og (lod v5 σ) fun v6 =>
 jn (X := Tup [0, 6, 7]) (fun x1 σ =>
 apick x1.2.2.1 (
 og (anil x1.1) fun v11 =>
 og (fldA 1 v11) fun v12 =>
 og (lod v12 σ) fun v13 =>
 aret v13 σ R) (
 og (ibin .eql x1.2.1 (iv 16)) fun v15 =>
 apick v15 (
 og (anil x1.1) fun v17 =>
 og (fldA 3 v17) fun v18 =>
 og (lod v18 σ) fun v19 =>
 aret v19 σ R) (
 aret (iv (-1)) σ R))) fun k1 =>
 og (ibin .eql v6 (iv 5)) fun v8 =>
 apick v8 (
 k1 (a0, v6, v8, ()) σ) (
 og (ibin .eql v6 (iv 6)) fun v9 =>
 k1 (a0, v6, v9, ()) σ)
def x44 : Sx := Q (A 0) (Q (F 0 0) (M 0 (.jn 53 [0, 6, 7] (P 2 (Q (A 0) (Q (F 1 0) (M 0 (.ret (Z 0))))) (D .eql (Z 1) (Y 16) (P 0 (Q (A 1) (Q (F 3 0) (M 0 (.ret (Z 0))))) (.ret (Y (-1)))))) (D .eql (Z 0) (Y 5) (P 0 (.jump 0 [(Z 4), (Z 1), (Z 0)]) (D .eql (Z 1) (Y 6) (.jump 0 [(Z 5), (Z 2), (Z 0)])))))))
theorem x44_ok : okF TT Tryz.f44 1 x44 = true := by decide +kernel
theorem s_spec_l9Target_ok (h : s_spec_l9Target a0 σ R) : acall TP fn_spec_l9Target [a0] σ R :=
 acall_okF (ρ := [a0]) TT_ok Tryz.func44 rfl x44 x44_ok rfl h
def s_spec_l10Pass (a0 a1 : AV) (σ : AH) (R : AEnd → AH → Prop) : Prop :=
 lp (X := Tup [0, 1, 6, 7]) (fun R1 y1 σ =>
 og (anil y1.1) fun v19 =>
 og (fldA 1 v19) fun v20 =>
 og (lod v20 σ) fun v21 =>
 og (lenS v21) fun v22 =>
 og (ibin .lss y1.2.2.2.1 v22) fun v23 =>
 apick v23 (
 jn (X := Tup [0, 1, 6, 7]) (fun x2 σ =>
 og (ibin .add x2.2.2.2.1 (iv 1)) fun v25 =>
 R1 (x2.1, x2.2.1, x2.2.2.1, v25, ()) σ) fun k2 =>
 og (anil y1.1) fun v27 =>
 og (fldA 1 v27) fun v28 =>
 og (lod v28 σ) fun v29 =>
 og (idx 7 v29 y1.2.2.2.1 σ) fun v31 =>
 og (idx 1 y1.2.1 y1.2.2.2.1 σ) fun v34 =>
 og (lod v34 σ) fun v35 =>
 og (ibin .lss v35 (iv 0)) fun v36 =>
 apick v36 (
 k2 (y1.1, y1.2.1, y1.2.2.1, y1.2.2.2.1, ()) σ) (
 og (idx 1 y1.2.1 y1.2.2.2.1 σ) fun v40 =>
 og (lod v40 σ) fun v41 =>
 acall TP fn_spec_l10High [v31, v41] σ (onr (fun v42 σ =>
 og (aun .not v42) fun v43 =>
 apick v43 (
 aret (.tup [(.val (.bool false)), (.val (.bool false))]) σ R) (
 acall TP fn_spec_l10Takes [v31] σ (onr (fun v46 σ =>
 og (aext v46 0) fun v47 =>
 og (aext v46 1) fun v48 =>
 og (idx 1 y1.2.1 y1.2.2.2.1 σ) fun v51 =>
 og (lod v51 σ) fun v52 =>
 og (ibin .sub v52 v47) fun v54 =>
 og (ibin .add v54 v48) fun v56 =>
 jn (X := Tup [0, 1, 6, 7, 8, 11]) (fun x3 σ =>
 acall TP fn_spec_l9Target [x3.2.2.2.2.1] σ (onr (fun v78 σ =>
 og (ibin .geq v78 (iv 0)) fun v80 =>
 apick v80 (
 acall TP fn_spec_l10Lead [x3.2.1, v78, x3.2.2.2.2.2.1] σ (onr (fun v85 σ =>
 og (aext v85 0) fun v86 =>
 og (aext v85 1) fun v87 =>
 og (aun .not v87) fun v89 =>
 apick v89 (
 aret (.tup [(.val (.bool false)), (.val (.bool false))]) σ R) (
 og (gval x3.2.2.1 false false (some v86)) fun v92 =>
 og (pickV x3.2.2.1 (.val (.bool true)) v92) fun v93 =>
 k2 (x3.1, x3.2.1, v93, x3.2.2.2.1, ()) σ)) (pn R))) (
 k2 (x3.1, x3.2.1, x3.2.2.1, x3.2.2.2.1, ()) σ)) (pn R))) fun k3 =>
 og (anil v31) fun v58 =>
 og (fldA 0 v58) fun v59 =>
 og (lod v59 σ) fun v60 =>
 acall TP fn_spec_l10Ends [v60] σ (onr (fun v61 σ =>
 og (aun .not v61) fun v62 =>
 apick v62 (
 og (ibin .add y1.2.2.2.1 (iv 1)) fun v66 =>
 acall TP fn_spec_l10Lead [y1.2.1, v66, v56] σ (onr (fun v68 σ =>
 og (aext v68 0) fun v69 =>
 og (aext v68 1) fun v70 =>
 og (aun .not v70) fun v72 =>
 apick v72 (
 aret (.tup [(.val (.bool false)), (.val (.bool false))]) σ R) (
 og (gval y1.2.2.1 false false (some v69)) fun v75 =>
 og (pickV y1.2.2.1 (.val (.bool true)) v75) fun v76 =>
 k3 (y1.1, y1.2.1, v76, y1.2.2.2.1, v31, v56, ()) σ)) (pn R))) (
 k3 (y1.1, y1.2.1, y1.2.2.1, y1.2.2.2.1, v31, v56, ()) σ)) (pn R))) (pn R)))) (pn R)))) (
 aret (.tup [y1.2.2.1, (.val (.bool true))]) σ R)) (a0, a1, (.val (.bool false)), (iv 0), ()) σ
def x45 : Sx := .lp [0, 1, 6, 7] (Q (A 0) (Q (F 1 0) (M 0 (O 0 (D .lss (Z 7) (Z 0) (P 0 (.jn 467 [0, 1, 6, 7] (D .add (Z 3) (Y 1) (.jump 0 [(Z 1), (Z 2), (Z 3), (Z 0)])) (Q (A 5) (Q (F 1 0) (M 0 (J 7 0 11 (J 1 10 12 (M 0 (D .lss (Z 0) (Y 0) (P 0 (.jump 0 [(Z 12), (Z 13), (Z 14), (Z 15)]) (J 1 13 15 (M 0 (.call 62 [(Z 5), (Z 0)] (Q (.aun .not (Z 0)) (P 0 (.rets [(.lit (.val (.bool false))), (.lit (.val (.bool false)))]) (.call 63 [(Z 7)] (Q (.aext (Z 0) 0) (Q (.aext (Z 1) 1) (J 1 20 22 (M 0 (D .sub (Z 0) (Z 3) (D .add (Z 0) (Z 3) (.jn 59711 [0, 1, 6, 7, 8, 11] (.call 44 [(Z 4)] (D .geq (Z 0) (Y 0) (P 0 (.call 65 [(Z 3), (Z 1), (Z 7)] (Q (.aext (Z 0) 0) (Q (.aext (Z 1) 1) (Q (.aun .not (Z 0)) (P 0 (.rets [(.lit (.val (.bool false))), (.lit (.val (.bool false)))]) (G 8 (.ret (Z 2)) (Q (.pickV (Z 9) (.lit (.val (.bool true))) (Z 0)) (.jump 0 [(Z 8), (Z 9), (Z 0), (Z 11)])))))))) (.jump 0 [(Z 2), (Z 3), (Z 4), (Z 5)])))) (Q (A 14) (Q (F 0 0) (M 0 (.call 64 [(Z 0)] (Q (.aun .not (Z 0)) (P 0 (D .add (Z 31) (Y 1) (.call 65 [(Z 30), (Z 0), (Z 6)] (Q (.aext (Z 0) 0) (Q (.aext (Z 1) 1) (Q (.aun .not (Z 0)) (P 0 (.rets [(.lit (.val (.bool false))), (.lit (.val (.bool false)))]) (G 35 (.ret (Z 2)) (Q (.pickV (Z 36) (.lit (.val (.bool true))) (Z 0)) (.jump 0 [(Z 35), (Z 36), (Z 0), (Z 38), (Z 26), (Z 12)]))))))))) (.jump 0 [(Z 28), (Z 29), (Z 30), (Z 31), (Z 19), (Z 5)]))))))))))))))))))))))))))))) (.rets [(Z 7), (.lit (.val (.bool true)))]))))))) [(Z 1), (Z 0), (.lit (.val (.bool false))), (Y 0)]
theorem x45_ok : okF TT Tryz.f45 2 x45 = true := by decide +kernel
theorem s_spec_l10Pass_ok (h : s_spec_l10Pass a0 a1 σ R) : acall TP fn_spec_l10Pass [a0, a1] σ R :=
 acall_okF (ρ := [a1, a0]) TT_ok Tryz.func45 rfl x45 x45_ok rfl h
def s_impl_opsFault (a0 : AV) (σ : AH) (R : AEnd → AH → Prop) : Prop :=
 og (lenS a0) fun v7 =>
 og (ibin .gtr v7 (iv 60)) fun v8 =>
 apick v8 (
 aret (iv 2) σ R) (
 og (lenS a0) fun v10 =>
 lp (X := Tup [9, 10, 11]) (fun R1 y1 σ =>
 og (ibin .lss y1.2.2.1 y1.2.1) fun v12 =>
 apick v12 (
 og (idx 2 y1.1 y1.2.2.1 σ) fun v13 =>
 og (lodA 2 v13 σ) fun v14 =>
 new [(iv 0), nilS] σ fun v4 σ =>
 sto 2 v4 v14 σ fun σ =>
 frz v4 σ fun f4 σ =>
 og (lodA 2 f4 σ) fun v15 =>
 acall TP fn_impl_blockFault [v15] σ (onr (fun v16 σ =>
 og (ibin .neq v16 (iv 0)) fun v18 =>
 apick v18 (
 aret v16 σ R) (
 og (ibin .add y1.2.2.1 (iv 1)) fun v20 =>
 R1 (y1.1, y1.2.1, v20, ()) σ)) (pn R))) (
 aret (iv 0) σ R)) (a0, v10, (iv 0), ()) σ)
def x48 : Sx := O 0 (D .gtr (Z 0) (Y 60) (P 0 (.ret (Y 2)) (O 2 (.lp [9, 10, 11] (D .lss (Z 2) (Z 1) (P 0 (J 2 1 3 (Q (.lodA 2 (Z 0)) (.new [(iv 0), nilS] (.sto 2 (Z 0) (Z 1) (.frz 6 (Z 0) (Q (.lodA 2 (Z 0)) (.call 18 [(Z 0)] (D .neq (Z 0) (Y 0) (P 0 (.ret (Z 1)) (D .add (Z 10) (Y 1) (.jump 0 [(Z 9), (Z 10), (Z 0)]))))))))))) (.ret (Y 0)))) [(Z 3), (Z 0), (Y 0)]))))
theorem x48_ok : okF TT Tryz.f48 1 x48 = true := by decide +kernel
theorem s_impl_opsFault_ok (h : s_impl_opsFault a0 σ R) : acall TP fn_impl_opsFault [a0] σ R :=
 acall_okF (ρ := [a0]) TT_ok Tryz.func48 rfl x48 x48_ok rfl h
def s_impl_Op_localsIn (a0 : AV) (σ : AH) (R : AEnd → AH → Prop) : Prop :=
 abox a0 σ fun v1 σ =>
 frz v1 σ fun f1 σ =>
 og (fldA 0 f1) fun v3 =>
 og (lod v3 σ) fun v4 =>
 jn (X := Tup [1, 4, 5]) (fun x1 σ =>
 apick x1.2.2.1 (
 og (fldA 1 x1.1) fun v9 =>
 og (lod v9 σ) fun v10 =>
 og (fldA 2 x1.1) fun v11 =>
 og (lod v11 σ) fun v12 =>
 og (bld [(iv 0), (iv 0)] [(0, 1), (1, 1)] [(0, v10), (1, v12)]) fun v13 =>
 bsl 2 [(iv 0), (iv 0)] 1 [(0, v13)] σ fun v14 σ =>
 aret v14 σ R) (
 og (ibin .eql x1.2.1 (iv 15)) fun v16 =>
 apick v16 (
 og (fldA 1 x1.1) fun v17 =>
 og (lod v17 σ) fun v18 =>
 og (fldA 2 x1.1) fun v19 =>
 og (lod v19 σ) fun v20 =>
 og (bld [(iv 0), (iv 0)] [(0, 1), (1, 1)] [(0, v18), (1, v20)]) fun v21 =>
 og (fldA 3 x1.1) fun v22 =>
 og (lod v22 σ) fun v23 =>
 og (fldA 4 x1.1) fun v24 =>
 og (lod v24 σ) fun v25 =>
 og (bld [(iv 0), (iv 0)] [(0, 1), (1, 1)] [(0, v23), (1, v25)]) fun v26 =>
 bsl 2 [(iv 0), (iv 0)] 2 [(0, v21), (1, v26)] σ fun v27 σ =>
 aret v27 σ R) (
 aret nilS σ R))) fun k1 =>
 og (ibin .eql v4 (iv 2)) fun v6 =>
 apick v6 (
 k1 (f1, v4, v6, ()) σ) (
 og (ibin .eql v4 (iv 14)) fun v7 =>
 apick v7 (
 k1 (f1, v4, v7, ()) σ) (
 og (ibin .eql v4 (iv 16)) fun v8 =>
 k1 (f1, v4, v8, ()) σ))
def x49 : Sx := .box (Z 0) (.frz 1 (Z 0) (Q (F 0 0) (M 0 (.jn 53 [1, 4, 5] (P 2 (Q (F 1 0) (M 0 (Q (F 2 2) (M 0 (Q (.bld [(iv 0), (iv 0)] [(0, 1), (1, 1)] [(0, (Z 2)), (1, (Z 0))]) (.bsl 2 [(iv 0), (iv 0)] 1 [(0, (Z 0))] (.ret (Z 0)))))))) (D .eql (Z 1) (Y 15) (P 0 (Q (F 1 1) (M 0 (Q (F 2 3) (M 0 (Q (.bld [(iv 0), (iv 0)] [(0, 1), (1, 1)] [(0, (Z 2)), (1, (Z 0))]) (Q (F 3 6) (M 0 (Q (F 4 8) (M 0 (Q (.bld [(iv 0), (iv 0)] [(0, 1), (1, 1)] [(0, (Z 2)), (1, (Z 0))]) (.bsl 2 [(iv 0), (iv 0)] 2 [(0, (Z 5)), (1, (Z 0))] (.ret (Z 0))))))))))))) (.ret (.lit nilS))))) (D .eql (Z 0) (Y 2) (P 0 (.jump 0 [(Z 3), (Z 1), (Z 0)]) (D .eql (Z 1) (Y 14) (P 0 (.jump 0 [(Z 4), (Z 2), (Z 0)]) (D .eql (Z 2) (Y 16) (.jump 0 [(Z 5), (Z 3), (Z 0)]))))))))))
theorem x49_ok : okF TT Tryz.f49 1 x49 = true := by decide +kernel
theorem s_impl_Op_localsIn_ok (h : s_impl_Op_localsIn a0 σ R) : acall TP fn_impl_Op_localsIn [a0] σ R :=
 acall_okF (ρ := [a0]) TT_ok Tryz.func49 rfl x49 x49_ok rfl h
def s_impl_isLocal (a0 a1 a2 a3 a4 : AV) (σ : AH) (R : AEnd → AH → Prop) : Prop :=
 lp (X := Tup [0, 1, 3, 4, 11]) (fun R1 y1 σ =>
 og (ibin .gtr y1.2.2.1 (iv 0)) fun v14 =>
 og (gval v14 true false (some y1.2.2.2.2.1)) fun v16 =>
 og (gval v14 true false (ibin .gtr v16 (iv 0))) fun v17 =>
 og (pickV v14 v17 (.val (.bool false))) fun v18 =>
 apick v18 (
 og (idx 1 y1.2.1 y1.2.2.2.2.1 σ) fun v23 =>
 og (lod v23 σ) fun v24 =>
 og (ibin .sub y1.2.2.1 (iv 1)) fun v20 =>
 R1 (y1.1, y1.2.1, v20, y1.2.2.2.1, v24, ()) σ) (
 og (ibin .gtr y1.2.2.2.2.1 (iv 0)) fun v26 =>
 og (gval v26 true false (some y1.2.2.2.1)) fun v28 =>
 og (gval v26 true false (some y1.1)) fun v29 =>
 og (gval v26 true false (some y1.2.2.2.2.1)) fun v30 =>
 og (gval v26 true false (idx 2 v29 v30 σ)) fun v31 =>
 og (gval v26 true false (fldA 0 v31)) fun v32 =>
 og (gval v26 true false (lod v32 σ)) fun v33 =>
 og (gval v26 true false (ibin .lss v28 v33)) fun v34 =>
 og (pickV v26 v34 (.val (.bool false))) fun v35 =>
 aret v35 σ R)) (a0, a1, a3, a4, a2, ()) σ
def x50 : Sx := .lp [0, 1, 3, 4, 11] (D .gtr (Z 2) (Y 0) (H 0 (.ret (Z 5)) (H 1 (B .gtr (Z 0) (Y 0)) (Q (.pickV (Z 2) (Z 0) (.lit (.val (.bool false)))) (P 0 (J 1 5 8 (M 0 (D .sub (Z 8) (Y 1) (.jump 0 [(Z 7), (Z 8), (Z 0), (Z 10), (Z 1)])))) (D .gtr (Z 8) (Y 0) (H 0 (.ret (Z 8)) (H 1 (.ret (Z 6)) (H 2 (.ret (Z 11)) (H 3 (I 2 1 0) (H 4 (F 0 0) (H 5 (L 0) (H 6 (B .lss (Z 5) (Z 0)) (Q (.pickV (Z 7) (Z 0) (.lit (.val (.bool false)))) (.ret (Z 0)))))))))))))))) [(Z 4), (Z 3), (Z 1), (Z 0), (Z 2)]
theorem x50_ok : okF TT Tryz.f50 5 x50 = true := by decide +kernel
theorem s_impl_isLocal_ok (h : s_impl_isLocal a0 a1 a2 a3 a4 σ R) : acall TP fn_impl_isLocal [a0, a1, a2, a3, a4] σ R :=
 acall_okF (ρ := [a4, a3, a2, a1, a0]) TT_ok Tryz.func50 rfl x50 x50_ok rfl h
def s_spec_l9Fault (a0 : AV) (σ : AH) (R : AEnd → AH → Prop) : Prop :=
 og (lenS a0) fun v6 =>
 og (ibin .gtr v6 (iv 60)) fun v7 =>
 apick v7 (
 aret (iv 2) σ R) (
 lp (X := Tup [0, 3]) (fun R1 y1 σ =>
 og (lenS y1.1) fun v10 =>
 og (ibin .lss y1.2.1 v10) fun v11 =>
 apick v11 (
 og (idx 2 y1.1 y1.2.1 σ) fun v16 =>
 acall TP fn_spec_l9Block [v16] σ (onr (fun v17 σ =>
 og (ibin .neq v17 (iv 0)) fun v19 =>
 apick v19 (
 aret v17 σ R) (
 og (ibin .add y1.2.1 (iv 1)) fun v13 =>
 R1 (y1.1, v13, ()) σ)) (pn R))) (
 aret (iv 0) σ R)) (a0, (iv 0), ()) σ)
def x51 : Sx := O 0 (D .gtr (Z 0) (Y 60) (P 0 (.ret (Y 2)) (.lp [0, 3] (O 0 (D .lss (Z 2) (Z 0) (P 0 (J 2 2 3 (.call 43 [(Z 0)] (D .neq (Z 0) (Y 0) (P 0 (.ret (Z 1)) (D .add (Z 6) (Y 1) (.jump 0 [(Z 6), (Z 0)])))))) (.ret (Y 0))))) [(Z 2), (Y 0)])))
theorem x51_ok : okF TT Tryz.f51 1 x51 = true := by decide +kernel
theorem s_spec_l9Fault_ok (h : s_spec_l9Fault a0 σ R) : acall TP fn_spec_l9Fault [a0] σ R :=
 acall_okF (ρ := [a0]) TT_ok Tryz.func51 rfl x51 x51_ok rfl h
def s_spec_l10Around (a0 : AV) (σ : AH) (R : AEnd → AH → Prop) : Prop :=
 bsl 1 [(iv 0)] 0 [] σ fun v12 σ =>
 lp (X := Tup [0, 4, 5]) (fun R1 y1 σ =>
 og (lenS y1.1) fun v15 =>
 og (ibin .lss y1.2.2.1 v15) fun v16 =>
 apick v16 (
 bsl 1 [(iv 0)] 1 [(0, (iv (-1)))] σ fun v20 σ =>
 app 1 y1.2.1 v20 σ fun v21 σ =>
 og (ibin .add y1.2.2.1 (iv 1)) fun v18 =>
 R1 (y1.1, v21, v18, ()) σ) (
 lp (X := Tup [0, 4, 6]) (fun R2 y2 σ =>
 og (lenS y2.1) fun v24 =>
 og (ibin .lss y2.2.2.1 v24) fun v25 =>
 apick v25 (
 og (idx 2 y2.1 y2.2.2.1 σ) fun v31 =>
 acall TP fn_spec_l10Heights [v31] σ (onr (fun v32 σ =>
 og (aext v32 0) fun v33 =>
 og (aext v32 1) fun v34 =>
 og (ibin .neq v34 (iv 0)) fun v36 =>
 apick v36 (
 aret (.tup [nilS, v34]) σ R) (
 lp (X := Tup [0, 4, 6, 9]) (fun R3 y3 σ =>
 og (idx 2 y3.1 y3.2.2.1 σ) fun v41 =>
 og (fldA 1 v41) fun v42 =>
 og (lod v42 σ) fun v43 =>
 og (lenS v43) fun v44 =>
 og (ibin .lss y3.2.2.2.1 v44) fun v45 =>
 apick v45 (
 jn (X := Tup [0, 4, 6, 9]) (fun x4 σ =>
 og (ibin .add x4.2.2.2.1 (iv 1)) fun v47 =>
 R3 (x4.1, x4.2.1, x4.2.2.1, v47, ()) σ) fun k4 =>
 og (idx 2 y3.1 y3.2.2.1 σ) fun v50 =>
 og (fldA 1 v50) fun v51 =>
 og (lod v51 σ) fun v52 =>
 og (idx 7 v52 y3.2.2.2.1 σ) fun v54 =>
 og (anil v54) fun v56 =>
 og (fldA 0 v56) fun v57 =>
 og (lod v57 σ) fun v58 =>
 og (ibin .neq v58 (iv 4)) fun v59 =>
 apick v59 (
 k4 (y3.1, y3.2.1, y3.2.2.1, y3.2.2.2.1, ()) σ) (
 og (anil v54) fun v61 =>
 og (fldA 1 v61) fun v62 =>
 og (lod v62 σ) fun v63 =>
 og (ibin .leq v63 y3.2.2.1) fun v65 =>
 og (gval v65 false false (some v54)) fun v67 =>
 og (gval v65 false false (anil v67)) fun v68 =>
 og (gval v65 false false (fldA 1 v68)) fun v69 =>
 og (gval v65 false false (lod v69 σ)) fun v70 =>
 og (gval v65 false false (some y3.1)) fun v71 =>
 og (gval v65 false false (lenS v71)) fun v72 =>
 og (gval v65 false false (ibin .geq v70 v72)) fun v73 =>
 og (pickV v65 (.val (.bool true)) v73) fun v74 =>
 og (gval v74 false false (some y3.2.1)) fun v76 =>
 og (gval v74 false false (some v54)) fun v77 =>
 og (gval v74 false false (anil v77)) fun v78 =>
 og (gval v74 false false (fldA 1 v78)) fun v79 =>
 og (gval v74 false false (lod v79 σ)) fun v80 =>
 og (gval v74 false false (idx 1 v76 v80 σ)) fun v81 =>
 og (gval v74 false false (lod v81 σ)) fun v82 =>
 og (gval v74 false false (ibin .geq v82 (iv 0))) fun v83 =>
 og (pickV v74 (.val (.bool true)) v83) fun v84 =>
 apick v84 (
 aret (.tup [nilS, (iv 1)]) σ R) (
 og (anil v54) fun v87 =>
 og (fldA 1 v87) fun v88 =>
 og (lod v88 σ) fun v89 =>
 og (idx 1 y3.2.1 v89 σ) fun v91 =>
 sto 1 v91 y3.2.2.1 σ fun σ =>
 k4 (y3.1, y3.2.1, y3.2.2.1, y3.2.2.2.1, ()) σ))) (
 og (ibin .add y3.2.2.1 (iv 1)) fun v27 =>
 R2 (y3.1, y3.2.1, v27, ()) σ)) (y2.1, y2.2.1, y2.2.2.1, (iv 0), ()) σ)) (pn R))) (
 lp (X := Tup [0, 4, 11]) (fun R5 y5 σ =>
 og (lenS y5.1) fun v94 =>
 og (ibin .lss y5.2.2.1 v94) fun v95 =>
 apick v95 (
 og (idx 1 y5.2.1 y5.2.2.1 σ) fun v100 =>
 og (lod v100 σ) fun v101 =>
 og (ibin .lss v101 (iv 0)) fun v102 =>
 apick v102 (
 aret (.tup [nilS, (iv 1)]) σ R) (
 og (ibin .add y5.2.2.1 (iv 1)) fun v97 =>
 R5 (y5.1, y5.2.1, v97, ()) σ)) (
 aret (.tup [y5.2.1, (iv 0)]) σ R)) (y2.1, y2.2.1, (iv 1), ()) σ)) (y1.1, y1.2.1, (iv 0), ()) σ)) (a0, v12, (iv 0), ()) σ
def x52 : Sx := .bsl 1 [(iv 0)] 0 [] (.lp [0, 4, 5] (O 0 (D .lss (Z 3) (Z 0) (P 0 (.bsl 1 [(iv 0)] 1 [(0, (Y (-1)))] (.app 1 (Z 4) (Z 0) (D .add (Z 6) (Y 1) (.jump 0 [(Z 5), (Z 1), (Z 0)])))) (.lp [0, 4, 6] (O 0 (D .lss (Z 3) (Z 0) (P 0 (J 2 2 4 (.call 20 [(Z 0)] (Q (.aext (Z 0) 0) (Q (.aext (Z 1) 1) (D .neq (Z 0) (Y 0) (P 0 (.rets [(.lit nilS), (Z 1)]) (.lp [0, 4, 6, 9] (J 2 0 2 (Q (F 1 0) (M 0 (O 0 (D .lss (Z 7) (Z 0) (P 0 (.jn 125235 [0, 4, 6, 9] (D .add (Z 3) (Y 1) (.jump 0 [(Z 1), (Z 2), (Z 3), (Z 0)])) (J 2 5 7 (Q (F 1 0) (M 0 (J 7 0 11 (Q (A 0) (Q (F 0 0) (M 0 (D .neq (Z 0) (Y 4) (P 0 (.jump 0 [(Z 13), (Z 14), (Z 15), (Z 16)]) (Q (A 4) (Q (F 1 0) (M 0 (D .leq (Z 0) (Z 18) (G 0 (.ret (Z 8)) (G 1 (A 0) (G 2 (F 1 0) (G 3 (L 0) (G 4 (.ret (Z 21)) (G 5 (N 0) (G 6 (B .geq (Z 2) (Z 0)) (Q (.pickV (Z 7) (.lit (.val (.bool true))) (Z 0)) (G 0 (.ret (Z 26)) (G 1 (.ret (Z 17)) (G 2 (A 0) (G 3 (F 1 0) (G 4 (L 0) (G 5 (I 1 4 0) (G 6 (L 0) (G 7 (B .geq (Z 0) (Y 0)) (Q (.pickV (Z 8) (.lit (.val (.bool true))) (Z 0)) (P 0 (.rets [(.lit nilS), (Y 1)]) (Q (A 25) (Q (F 1 0) (M 0 (J 1 38 0 (.sto 1 (Z 0) (Z 40) (.jump 0 [(Z 38), (Z 39), (Z 40), (Z 41)])))))))))))))))))))))))))))))))))))))) (D .add (Z 7) (Y 1) (.jump 1 [(Z 6), (Z 7), (Z 0)])))))))) [(Z 7), (Z 8), (Z 9), (Y 0)]))))))) (.lp [0, 4, 11] (O 0 (D .lss (Z 3) (Z 0) (P 0 (J 1 3 4 (M 0 (D .lss (Z 0) (Y 0) (P 0 (.rets [(.lit nilS), (Y 1)]) (D .add (Z 7) (Y 1) (.jump 0 [(Z 6), (Z 7), (Z 0)])))))) (.rets [(Z 3), (Y 0)])))) [(Z 2), (Z 3), (Y 1)])))) [(Z 2), (Z 3), (Y 0)])))) [(Z 1), (Z 0), (Y 0)])
theorem x52_ok : okF TT Tryz.f52 1 x52 = true := by decide +kernel
theorem s_spec_l10Around_ok (h : s_spec_l10Around a0 σ R) : acall TP fn_spec_l10Around [a0] σ R :=
 acall_okF (ρ := [a0]) TT_ok Tryz.func52 rfl x52 x52_ok rfl h
def s_spec_l10Locals (a0 a1 a2 : AV) (σ : AH) (R : AEnd → AH → Prop) : Prop :=
 lp (X := Tup [0, 1, 2, 7]) (fun R1 y1 σ =>
 og (idx 2 y1.1 y1.2.2.1 σ) fun v13 =>
 og (fldA 1 v13) fun v14 =>
 og (lod v14 σ) fun v15 =>
 og (lenS v15) fun v16 =>
 og (ibin .lss y1.2.2.2.1 v16) fun v17 =>
 apick v17 (
 og (idx 2 y1.1 y1.2.2.1 σ) fun v22 =>
 og (fldA 1 v22) fun v23 =>
 og (lod v23 σ) fun v24 =>
 og (idx 7 v24 y1.2.2.2.1 σ) fun v26 =>
 jn (X := Tup [0, 1, 2, 7, 9]) (fun x2 σ =>
 og (aun .not x2.2.2.2.2.1) fun v80 =>
 apick v80 (
 aret (iv 3) σ R) (
 og (ibin .add x2.2.2.2.1 (iv 1)) fun v19 =>
 R1 (x2.1, x2.2.1, x2.2.2.1, v19, ()) σ)) fun k2 =>
 og (anil v26) fun v28 =>
 og (fldA 0 v28) fun v29 =>
 og (lod v29 σ) fun v30 =>
 jn (X := Tup [0, 1, 2, 7, 8, 9, 30, 31]) (fun x3 σ =>
 apick x3.2.2.2.2.2.2.2.1 (
 og (anil x3.2.2.2.2.1) fun v39 =>
 og (fldA 1 v39) fun v40 =>
 og (lod v40 σ) fun v41 =>
 og (anil x3.2.2.2.2.1) fun v43 =>
 og (fldA 2 v43) fun v44 =>
 og (lod v44 σ) fun v45 =>
 acall TP fn_spec_l10Local [x3.1, x3.2.1, x3.2.2.1, v41, v45] σ (onr (fun v46 σ =>
 (True) ∧
 k2 (x3.1, x3.2.1, x3.2.2.1, x3.2.2.2.1, v46, ()) σ) (pn R))) (
 og (ibin .eql x3.2.2.2.2.2.2.1 (iv 15)) fun v48 =>
 apick v48 (
 og (anil x3.2.2.2.2.1) fun v53 =>
 og (fldA 1 v53) fun v54 =>
 og (lod v54 σ) fun v55 =>
 og (anil x3.2.2.2.2.1) fun v57 =>
 og (fldA 2 v57) fun v58 =>
 og (lod v58 σ) fun v59 =>
 acall TP fn_spec_l10Local [x3.1, x3.2.1, x3.2.2.1, v55, v59] σ (onr (fun v60 σ =>
 (True) ∧
 og (gval v60 true false (some x3.1)) fun v62 =>
 og (gval v60 true false (some x3.2.1)) fun v63 =>
 og (gval v60 true false (some x3.2.2.1)) fun v64 =>
 og (gval v60 true false (some x3.2.2.2.2.1)) fun v65 =>
 og (gval v60 true false (anil v65)) fun v66 =>
 og (gval v60 true false (fldA 3 v66)) fun v67 =>
 og (gval v60 true false (lod v67 σ)) fun v68 =>
 og (gval v60 true false (some x3.2.2.2.2.1)) fun v69 =>
 og (gval v60 true false (anil v69)) fun v70 =>
 og (gval v60 true false (fldA 4 v70)) fun v71 =>
 og (gval v60 true false (lod v71 σ)) fun v72 =>
 gpick v60 (
 acall TP fn_spec_l10Local [v62, v63, v64, v68, v72] σ (onr (fun v73 σ =>
 (True) ∧
 k2 (x3.1, x3.2.1, x3.2.2.1, x3.2.2.2.1, v73, ()) σ) (pn R))) (
 k2 (x3.1, x3.2.1, x3.2.2.1, x3.2.2.2.1, (.val (.bool false)), ()) σ) (False)) (pn R))) (
 og (ibin .eql x3.2.2.2.2.2.2.1 (iv 9)) fun v76 =>
 apick v76 (
 og (ibin .gtr x3.2.2.1 (iv 0)) fun v78 =>
 apick v78 (
 aret (iv 1) σ R) (
 k2 (x3.1, x3.2.1, x3.2.2.1, x3.2.2.2.1, x3.2.2.2.2.2.1, ()) σ)) (
 k2 (x3.1, x3.2.1, x3.2.2.1, x3.2.2.2.1, x3.2.2.2.2.2.1, ()) σ)))) fun k3 =>
 og (ibin .eql v30 (iv 2)) fun v32 =>
 apick v32 (
 k3 (y1.1, y1.2.1, y1.2.2.1, y1.2.2.2.1, v26, (.val (.bool true)), v30, v32, ()) σ) (
 og (ibin .eql v30 (iv 14)) fun v33 =>
 apick v33 (
 k3 (y1.1, y1.2.1, y1.2.2.1, y1.2.2.2.1, v26, (.val (.bool true)), v30, v33, ()) σ) (
 og (ibin .eql v30 (iv 16)) fun v34 =>
 k3 (y1.1, y1.2.1, y1.2.2.1, y1.2.2.2.1, v26, (.val (.bool true)), v30, v34, ()) σ))) (
 aret (iv 0) σ R)) (a0, a1, a2, (iv 0), ()) σ
def x53 : Sx := .lp [0, 1, 2, 7] (J 2 0 2 (Q (F 1 0) (M 0 (O 0 (D .lss (Z 7) (Z 0) (P 0 (J 2 5 7 (Q (F 1 0) (M 0 (J 7 0 11 (.jn 3367 [0, 1, 2, 7, 9] (Q (.aun .not (Z 4)) (P 0 (.ret (Y 3)) (D .add (Z 4) (Y 1) (.jump 0 [(Z 2), (Z 3), (Z 4), (Z 0)])))) (Q (A 0) (Q (F 0 0) (M 0 (.jn 26933 [0, 1, 2, 7, 8, 9, 30, 31] (P 7 (.ord [0, 1, 2, 3, 4, 5, 6, 7, 8, 9, 10, 11, 12] [0, 0, 0, 0, 8, 24, 56, 0, 128, 384, 896, 2047, 4095] (Q (A 4) (Q (F 1 0) (M 0 (Q (A 7) (Q (F 2 0) (M 0 (.call 68 [(Z 6), (Z 7), (Z 8), (Z 3), (Z 0)] (.wat [] (.jump 0 [(Z 7), (Z 8), (Z 9), (Z 10), (Z 0)])))))))))) (D .eql (Z 6) (Y 15) (P 0 (.ord [0, 1, 2, 3, 4, 5, 6, 7, 8, 9, 10, 11, 12, 13, 14, 15, 16, 17, 18, 19, 20, 21, 22, 23, 24, 25, 26] [0, 0, 0, 0, 8, 24, 56, 0, 128, 384, 896, 2047, 4095, 8191, 8191, 8191, 8191, 73727, 204799, 466943, 8191, 1056767, 3153919, 7348223, 16777215, 33554431, 67108863] (Q (A 5) (Q (F 1 0) (M 0 (Q (A 8) (Q (F 2 0) (M 0 (.call 68 [(Z 7), (Z 8), (Z 9), (Z 3), (Z 0)] (.wat [] (H 0 (.ret (Z 8)) (H 1 (.ret (Z 10)) (H 2 (.ret (Z 12)) (H 3 (.ret (Z 15)) (H 4 (A 0) (H 5 (F 3 0) (H 6 (L 0) (H 7 (.ret (Z 19)) (H 8 (A 0) (H 9 (F 4 0) (H 10 (L 0) (.gpick (Z 11) (.call 68 [(Z 10), (Z 9), (Z 8), (Z 4), (Z 0)] (.wat [] (.jump 0 [(Z 20), (Z 21), (Z 22), (Z 23), (Z 0)]))) (.jump 0 [(Z 19), (Z 20), (Z 21), (Z 22), (.lit (.val (.bool false)))]) (.no)))))))))))))))))))))) (D .eql (Z 7) (Y 9) (P 0 (D .gtr (Z 4) (Y 0) (P 0 (.ret (Y 1)) (.jump 0 [(Z 3), (Z 4), (Z 5), (Z 6), (Z 8)]))) (.jump 0 [(Z 2), (Z 3), (Z 4), (Z 5), (Z 7)])))))) (D .eql (Z 0) (Y 2) (P 0 (.jump 0 [(Z 13), (Z 14), (Z 15), (Z 16), (Z 4), (.lit (.val (.bool true))), (Z 1), (Z 0)]) (D .eql (Z 1) (Y 14) (P 0 (.jump 0 [(Z 14), (Z 15), (Z 16), (Z 17), (Z 5), (.lit (.val (.bool true))), (Z 2), (Z 0)]) (D .eql (Z 2) (Y 16) (.jump 0 [(Z 15), (Z 16), (Z 17), (Z 18), (Z 6), (.lit (.val (.bool true))), (Z 3), (Z 0)]))))))))))))))) (.ret (Y 0)))))))) [(Z 2), (Z 1), (Z 0), (Y 0)]
theorem x53_ok : okF TT Tryz.f53 3 x53 = true := by decide +kernel
theorem s_spec_l10Locals_ok (h : s_spec_l10Locals a0 a1 a2 σ R) : acall TP fn_spec_l10Locals [a0, a1, a2] σ R :=
 acall_okF (ρ := [a2, a1, a0]) TT_ok Tryz.func53 rfl x53 x53_ok rfl h
def s_slices_IndexFunc (a0 a1 : AV) (σ : AH) (R : AEnd → AH → Prop) : Prop :=
 og (lenS a0) fun v7 =>
 lp (X := Tup [0, 1, 7, 8]) (fun R1 y1 σ =>
 og (ibin .lss y1.2.2.2.1 y1.2.2.1) fun v9 =>
 apick v9 (
 og (idx 1 y1.1 y1.2.2.2.1 σ) fun v14 =>
 og (lod v14 σ) fun v15 =>
 acallv TP y1.2.1 [v15] σ (onr (fun v16 σ =>
 apick v16 (
 aret y1.2.2.2.1 σ R) (
 og (ibin .add y1.2.2.2.1 (iv 1)) fun v18 =>
 R1 (y1.1, y1.2.1, y1.2.2.1, v18, ()) σ)) (pn R))) (
 aret (iv (-1)) σ R)) (a0, a1, v7, (iv 0), ()) σ
def x54 : Sx := O 1 (.lp [0, 1, 7, 8] (D .lss (Z 3) (Z 2) (P 0 (J 1 1 4 (M 0 (.callv (Z 4) [(Z 0)] (P 0 (.ret (Z 7)) (D .add (Z 7) (Y 1) (.jump 0 [(Z 5), (Z 6), (Z 7), (Z 0)])))))) (.ret (Y (-1))))) [(Z 2), (Z 1), (Z 0), (Y 0)])
theorem x54_ok : okF TT Tryz.f54 2 x54 = true := by decide +kernel
theorem s_slices_IndexFunc_ok (h : s_slices_IndexFunc a0 a1 σ R) : acall TP fn_slices_IndexFunc [a0, a1] σ R :=
 acall_okF (ρ := [a1, a0]) TT_ok Tryz.func54 rfl x54 x54_ok rfl h
def s_strings_Trim (a0 a1 : AV) (σ : AH) (R : AEnd → AH → Prop) : Prop :=
 og (sbin .eql a0 (str ⟨#[]⟩)) fun v8 =>
 og (gval v8 false false (some a1)) fun v10 =>
 og (gval v8 false false (sbin .eql v10 (str ⟨#[]⟩))) fun v11 =>
 og (pickV v8 (.val (.bool true)) v11) fun v12 =>
 apick v12 (
 aret a0 σ R) (
 og (lenStr a1) fun v15 =>
 og (ibin .eql v15 (iv 1)) fun v16 =>
 og (gval v16 true false (some a1)) fun v18 =>
 og (gval v16 true false (idxStr v18 (iv 0))) fun v19 =>
 og (gval v16 true false (ibin .lss v19 (.val (.int .u8 128)))) fun v20 =>
 og (pickV v16 v20 (.val (.bool false))) fun v21 =>
 apick v21 (
 og (idxStr a1 (iv 0)) fun v24 =>
 og (idxStr a1 (iv 0)) fun v27 =>
 acall TP fn_strings_trimRightByte [a0, v24] σ (onr (fun v25 σ =>
 (True) ∧
 acall TP fn_strings_trimLeftByte [v25, v27] σ (onr (fun v28 σ =>
 (True) ∧
 aret v28 σ R) (pn R))) (pn R))) (
 acall TP fn_strings_makeASCIISet [a1] σ (onr (fun v31 σ =>
 og (aext v31 0) fun v32 =>
 og (aext v31 1) fun v33 =>
 new (List.replicate 256 (.val (.bool false))) σ fun v5 σ =>
 sto 256 v5 v32 σ fun σ =>
 frz v5 σ fun f5 σ =>
 apick v33 (
 acall TP fn_strings_trimRightASCII [a0, f5] σ (onr (fun v36 σ =>
 acall TP fn_strings_trimLeftASCII [v36, f5] σ (onr (fun v37 σ =>
 aret v37 σ R) (pn R))) (pn R))) (
 acall TP fn_strings_trimRightUnicode [a0, a1] σ (onr (fun v40 σ =>
 acall TP fn_strings_trimLeftUnicode [v40, a1] σ (onr (fun v42 σ =>
 aret v42 σ R) (pn R))) (pn R)))) (pn R))))
def x55 : Sx := Q (.sbin .eql (Z 1) (.lit (str ⟨#[]⟩))) (G 0 (.ret (Z 1)) (G 1 (.sbin .eql (Z 0) (.lit (str ⟨#[]⟩))) (Q (.pickV (Z 2) (.lit (.val (.bool true))) (Z 0)) (P 0 (.ret (Z 5)) (Q (.lenStr (Z 4)) (D .eql (Z 0) (Y 1) (H 0 (.ret (Z 6)) (H 1 (.idxStr (Z 0) (Y 0)) (H 2 (B .lss (Z 0) (.lit (.val (.int .u8 128)))) (Q (.pickV (Z 3) (Z 0) (.lit (.val (.bool false)))) (P 0 (.ord [0, 1, 2, 4, 5, 3, 6, 7] [0, 0, 2, 7, 0, 16, 63, 127] (Q (.idxStr (Z 10) (Y 0)) (Q (.idxStr (Z 11) (Y 0)) (.call 70 [(Z 13), (Z 1)] (.wat [] (.call 69 [(Z 0), (Z 1)] (.wat [] (.ret (Z 0))))))))) (.call 71 [(Z 10)] (Q (.aext (Z 0) 0) (Q (.aext (Z 1) 1) (.new (List.replicate 256 (.val (.bool false))) (.sto 256 (Z 0) (Z 2) (.frz 15 (Z 0) (P 2 (.call 73 [(Z 16), (Z 0)] (.call 72 [(Z 0), (Z 1)] (.ret (Z 0)))) (.call 75 [(Z 16), (Z 15)] (.call 74 [(Z 0), (Z 16)] (.ret (Z 0))))))))))))))))))))))
theorem x55_ok : okF TT Tryz.f55 2 x55 = true := by decide +kernel
theorem s_strings_Trim_ok (h : s_strings_Trim a0 a1 σ R) : acall TP fn_strings_Trim [a0, a1] σ R :=
 acall_okF (ρ := [a1, a0]) TT_ok Tryz.func55 rfl x55 x55_ok rfl h
end Go.Proofs.YtbapalgndjiamaaGreatDoor.E
