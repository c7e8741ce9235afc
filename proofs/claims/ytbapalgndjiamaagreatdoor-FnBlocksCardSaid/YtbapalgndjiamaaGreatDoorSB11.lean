import Derived.Test.YtbapalgndjiamaaGreatDoorSB10
/- What functions come to. Printed by mkg.py. -/
set_option maxRecDepth 1000000
namespace Go.Proofs.YtbapalgndjiamaaGreatDoor.E
open Go Go.RowKit X
set_option linter.unusedVariables false
set_option linter.unusedSectionVars false
variable [Lam] {a0 a1 a2 a3 a4 a5 a6 : AV} {σ : AH} {R : AEnd → AH → Prop}
def s_impl_datumFault (a0 a1 : AV) (σ : AH) (R : AEnd → AH → Prop) : Prop :=
 abox a0 σ fun v2 σ =>
 frz v2 σ fun f2 σ =>
 og (lod f2 σ) fun v7 =>
 og (idx 4 v7 a1 σ) fun v9 =>
 og (lodA 4 v9 σ) fun v10 =>
 new [(iv 0), (iv 0), (iv 0), (str ⟨#[]⟩)] σ fun v5 σ =>
 sto 4 v5 v10 σ fun σ =>
 frz v5 σ fun f5 σ =>
 og (fldA 0 f5) fun v12 =>
 og (lod v12 σ) fun v13 =>
 acall TP fn_impl_in [v13, (iv 1), (iv 4)] σ (onr (fun v14 σ =>
 og (aun .not v14) fun v15 =>
 og (gval v15 false false (fldA 2 f5)) fun v17 =>
 og (gval v15 false false (lod v17 σ)) fun v18 =>
 og (gval v15 false false (ibin .neq v18 (iv 0))) fun v19 =>
 og (gval v15 false false (some v19)) fun v20 =>
 og (gval v20 true true (fldA 0 f5)) fun v21 =>
 og (gval v20 true true (lod v21 σ)) fun v22 =>
 og (gval v20 true true (ibin .neq v22 (iv 1))) fun v23 =>
 og (gval v15 false false (pickV v20 v23 (.val (.bool false)))) fun v24 =>
 og (gval v15 false false (some v24)) fun v25 =>
 og (gval v25 true true (fldA 0 f5)) fun v26 =>
 og (gval v25 true true (lod v26 σ)) fun v27 =>
 og (gval v25 true true (ibin .neq v27 (iv 2))) fun v28 =>
 og (gval v15 false false (pickV v25 v28 (.val (.bool false)))) fun v29 =>
 og (pickV v15 (.val (.bool true)) v29) fun v30 =>
 og (gval v30 false false (fldA 3 f5)) fun v32 =>
 og (gval v30 false false (lod v32 σ)) fun v33 =>
 og (gval v30 false false (sbin .neq v33 (str ⟨#[]⟩))) fun v34 =>
 og (gval v30 false false (some v34)) fun v35 =>
 og (gval v35 true true (fldA 0 f5)) fun v36 =>
 og (gval v35 true true (lod v36 σ)) fun v37 =>
 og (gval v35 true true (ibin .neq v37 (iv 3))) fun v38 =>
 og (gval v30 false false (pickV v35 v38 (.val (.bool false)))) fun v39 =>
 og (pickV v30 (.val (.bool true)) v39) fun v40 =>
 apick v40 (
 aret (iv 1) σ R) (
 og (fldA 0 f5) fun v41 =>
 og (lod v41 σ) fun v42 =>
 og (fldA 2 f5) fun v43 =>
 og (lod v43 σ) fun v44 =>
 og (fldA 3 f5) fun v45 =>
 og (lod v45 σ) fun v46 =>
 acall TP fn_impl_kindFault [v42, (iv 1), (iv 3), (iv 2), v44, v46] σ (onr (fun v47 σ =>
 og (ibin .neq v47 (iv 0)) fun v49 =>
 apick v49 (
 aret v47 σ R) (
 og (ibin .eql a1 (iv 0)) fun v52 =>
 apick v52 (
 og (fldA 1 f5) fun v53 =>
 og (lod v53 σ) fun v54 =>
 og (ibin .neq v54 (iv (-1))) fun v55 =>
 apick v55 (
 aret (iv 3) σ R) (
 aret (iv 0) σ R)) (
 og (fldA 1 f5) fun v57 =>
 og (lod v57 σ) fun v58 =>
 og (ibin .sub a1 (iv 1)) fun v60 =>
 acall TP fn_impl_in [v58, (iv 0), v60] σ (onr (fun v61 σ =>
 og (aun .not v61) fun v62 =>
 apick v62 (
 aret (iv 3) σ R) (
 jn (X := Tup [1, 2, 63]) (fun x1 σ =>
 apick x1.2.2.1 (
 aret (iv 1) σ R) (
 og (lod x1.2.1 σ) fun v81 =>
 acall TP fn_impl_deep [v81, x1.1] σ (onr (fun v83 σ =>
 og (ibin .gtr v83 (iv 12)) fun v84 =>
 apick v84 (
 aret (iv 2) σ R) (
 aret (iv 0) σ R)) (pn R)))) fun k1 =>
 og (lod f2 σ) fun v64 =>
 og (fldA 1 f5) fun v65 =>
 og (lod v65 σ) fun v66 =>
 og (idx 4 v64 v66 σ) fun v67 =>
 og (fldA 0 v67) fun v68 =>
 og (lod v68 σ) fun v69 =>
 og (ibin .neq v69 (iv 4)) fun v70 =>
 gpick v70 (
 k1 (a1, f2, (.val (.bool true)), ()) σ) (
 og (ibin .sub a1 (iv 1)) fun v74 =>
 og (fldA 1 f5) fun v75 =>
 og (lod v75 σ) fun v76 =>
 acall TP fn_impl_isUp [(.clo (.func fn_impl_datumFault_1) [] [f2]), v74, v76] σ (onr (fun v77 σ =>
 og (aun .not v77) fun v78 =>
 k1 (a1, f2, v78, ()) σ) (pn R))) (False))) (pn R))))) (pn R)))) (pn R))
def x56 : Sx := .box (Z 1) (.frz 2 (Z 0) (M 0 (J 4 0 3 (Q (.lodA 4 (Z 0)) (.new [(iv 0), (iv 0), (iv 0), (str ⟨#[]⟩)] (.sto 4 (Z 0) (Z 1) (.frz 7 (Z 0) (Q (F 0 0) (M 0 (.call 23 [(Z 0), (Y 1), (Y 4)] (Q (.aun .not (Z 0)) (G 0 (F 2 4) (G 1 (L 0) (G 2 (B .neq (Z 0) (Y 0)) (G 3 (.ret (Z 0)) (.gog (Z 0) true true (F 0 8) (.gog (Z 1) true true (L 0) (.gog (Z 2) true true (B .neq (Z 0) (Y 1)) (G 7 (.pickV (Z 3) (Z 0) (.lit (.val (.bool false)))) (G 8 (.ret (Z 0)) (.gog (Z 0) true true (F 0 13) (.gog (Z 1) true true (L 0) (.gog (Z 2) true true (B .neq (Z 0) (Y 2)) (G 12 (.pickV (Z 3) (Z 0) (.lit (.val (.bool false)))) (Q (.pickV (Z 13) (.lit (.val (.bool true))) (Z 0)) (G 0 (F 3 18) (G 1 (L 0) (G 2 (.sbin .neq (Z 0) (.lit (str ⟨#[]⟩))) (G 3 (.ret (Z 0)) (.gog (Z 0) true true (F 0 22) (.gog (Z 1) true true (L 0) (.gog (Z 2) true true (B .neq (Z 0) (Y 3)) (G 7 (.pickV (Z 3) (Z 0) (.lit (.val (.bool false)))) (Q (.pickV (Z 8) (.lit (.val (.bool true))) (Z 0)) (P 0 (.ret (Y 1)) (Q (F 0 27) (M 0 (Q (F 2 29) (M 0 (Q (F 3 31) (M 0 (.call 76 [(Z 4), (Y 1), (Y 3), (Y 2), (Z 2), (Z 0)] (D .neq (Z 0) (Y 0) (P 0 (.ret (Z 1)) (D .eql (Z 42) (Y 0) (P 0 (Q (F 1 36) (M 0 (D .neq (Z 0) (Y (-1)) (P 0 (.ret (Y 3)) (.ret (Y 0)))))) (Q (F 1 36) (M 0 (D .sub (Z 45) (Y 1) (.call 23 [(Z 1), (Y 0), (Z 0)] (Q (.aun .not (Z 0)) (P 0 (.ret (Y 3)) (.jn 2023 [1, 2, 63] (P 2 (.ret (Y 1)) (M 1 (.call 79 [(Z 0), (Z 1)] (D .gtr (Z 0) (Y 12) (P 0 (.ret (Y 2)) (.ret (Y 0))))))) (M 46 (Q (F 1 42) (M 0 (J 4 2 0 (Q (F 0 0) (M 0 (D .neq (Z 0) (Y 4) (.gpick (Z 0) (.jump 0 [(Z 55), (Z 53), (.lit (.val (.bool true)))]) (.clo (.func 78) [] [(Z 53)] (D .sub (Z 56) (Y 1) (Q (F 1 50) (M 0 (.call 77 [(Z 3), (Z 2), (Z 0)] (Q (.aun .not (Z 0)) (.jump 0 [(Z 61), (Z 59), (Z 0)]))))))) (.no))))))))))))))))))))))))))))))))))))))))))))))))))))))))))))))
theorem x56_ok : okF TT Tryz.f56 2 x56 = true := by decide +kernel
theorem s_impl_datumFault_ok (h : s_impl_datumFault a0 a1 σ R) : acall TP fn_impl_datumFault [a0, a1] σ R :=
 acall_okF (ρ := [a1, a0]) TT_ok Tryz.func56 rfl x56 x56_ok rfl h
def s_spec_ExpandData (a0 : AV) (σ : AH) (R : AEnd → AH → Prop) : Prop :=
 new [(iv 0), nilS] σ fun v2 σ =>
 acall TP fn_spec_l3Fault [a0] σ (onr (fun v7 σ =>
 og (ibin .neq v7 (iv 0)) fun v9 =>
 apick v9 (
 og (bld [(iv 0), nilS] [(0, 1), (1, 1)] [(0, v7)]) fun v11 =>
 sto 2 v2 v11 σ fun σ =>
 og (lodA 2 v2 σ) fun r2 =>
 aret r2 σ R) (
 og (bld [nilS, nilS, nilS] [(0, 1), (1, 1), (2, 1)] [(0, a0)]) fun v13 =>
 new [nilS, nilS, nilS] σ fun v4 σ =>
 sto 3 v4 v13 σ fun σ =>
 acall TP fn_spec_l4Expand [v4, (iv 0), (iv (-1)), (iv (-1))] σ (onr (fun v14 σ =>
 frz v4 σ fun f4 σ =>
 og (ibin .neq v14 (iv 0)) fun v16 =>
 apick v16 (
 og (bld [(iv 0), nilS] [(0, 1), (1, 1)] [(0, v14)]) fun v18 =>
 sto 2 v2 v18 σ fun σ =>
 og (lodA 2 v2 σ) fun r2 =>
 aret r2 σ R) (
 og (fldA 1 f4) fun v19 =>
 og (lod v19 σ) fun v20 =>
 og (lenS v20) fun v21 =>
 og (ibin .gtr v21 (iv 160)) fun v22 =>
 apick v22 (
 og (bld [(iv 0), nilS] [(0, 1), (1, 1)] [(0, (iv 2))]) fun v23 =>
 sto 2 v2 v23 σ fun σ =>
 og (lodA 2 v2 σ) fun r2 =>
 aret r2 σ R) (
 og (fldA 1 f4) fun v24 =>
 og (lod v24 σ) fun v25 =>
 og (bld [(iv 0), nilS] [(0, 1), (1, 1)] [(1, v25)]) fun v26 =>
 sto 2 v2 v26 σ fun σ =>
 og (lodA 2 v2 σ) fun r2 =>
 aret r2 σ R))) (pn R)))) (pn R))
def x57 : Sx := .new [(iv 0), nilS] (.call 80 [(Z 1)] (D .neq (Z 0) (Y 0) (P 0 (Q (.bld [(iv 0), nilS] [(0, 1), (1, 1)] [(0, (Z 1))]) (.sto 2 (Z 3) (Z 0) (Q (.lodA 2 (Z 3)) (.ret (Z 0))))) (Q (.bld [nilS, nilS, nilS] [(0, 1), (1, 1), (2, 1)] [(0, (Z 3))]) (.new [nilS, nilS, nilS] (.sto 3 (Z 0) (Z 1) (.call 81 [(Z 0), (Y 0), (Y (-1)), (Y (-1))] (.frz 5 (Z 1) (D .neq (Z 1) (Y 0) (P 0 (Q (.bld [(iv 0), nilS] [(0, 1), (1, 1)] [(0, (Z 2))]) (.sto 2 (Z 8) (Z 0) (Q (.lodA 2 (Z 8)) (.ret (Z 0))))) (Q (F 1 1) (M 0 (O 0 (D .gtr (Z 0) (Y 160) (P 0 (Q (.bld [(iv 0), nilS] [(0, 1), (1, 1)] [(0, (Y 2))]) (.sto 2 (Z 12) (Z 0) (Q (.lodA 2 (Z 12)) (.ret (Z 0))))) (Q (F 1 5) (M 0 (Q (.bld [(iv 0), nilS] [(0, 1), (1, 1)] [(1, (Z 0))]) (.sto 2 (Z 14) (Z 0) (Q (.lodA 2 (Z 14)) (.ret (Z 0))))))))))))))))))))))
theorem x57_ok : okF TT Tryz.f57 1 x57 = true := by decide +kernel
theorem s_spec_ExpandData_ok (h : s_spec_ExpandData a0 σ R) : acall TP fn_spec_ExpandData [a0] σ R :=
 acall_okF (ρ := [a0]) TT_ok Tryz.func57 rfl x57 x57_ok rfl h
def s_spec_l4Datum (a0 : AV) (σ : AH) (R : AEnd → AH → Prop) : Prop :=
 bsl 1 [(iv 0)] 3 [(0, (iv 2)), (1, (iv 3)), (2, (iv 3))] σ fun v7 σ =>
 acall TP fn_spec_l1Pick [a0, v7] σ (onr (fun v8 σ =>
 acall TP fn_spec_l4Source [a0, nilS, v8] σ (onr (fun v9 σ =>
 jn (X := Tup [3]) (fun x1 σ =>
 acall TP fn_spec_ReadData [x1.1] σ (onr (fun v23 σ =>
 new [(iv 0), (iv 0), nilS] σ fun v4 σ =>
 sto 3 v4 v23 σ fun σ =>
 frz v4 σ fun f4 σ =>
 og (fldA 0 f4) fun v24 =>
 og (lod v24 σ) fun v25 =>
 og (ibin .neq v25 (iv 0)) fun v26 =>
 apick v26 (
 og (bld [(iv 0), (iv 0), (iv 0), (str ⟨#[]⟩)] [(0, 1), (1, 1), (2, 1), (3, 1)] [(0, (iv 1)), (1, (iv (-1))), (2, (iv 1))]) fun v27 =>
 bsl 4 [(iv 0), (iv 0), (iv 0), (str ⟨#[]⟩)] 1 [(0, v27)] σ fun v28 σ =>
 aret v28 σ R) (
 og (fldA 2 f4) fun v29 =>
 og (lod v29 σ) fun v30 =>
 aret v30 σ R)) (pn R))) fun k1 =>
 acall TP fn_spec_l1Chance [a0, (iv 5)] σ (onr (fun v11 σ =>
 apick v11 (
 bsl 1 [(str ⟨#[]⟩)] 3 [(0, (.val (.string ⟨#[103]⟩))), (1, (.val (.string ⟨#[104]⟩))), (2, (.val (.string ⟨#[99, 97, 114]⟩)))] σ fun v12 σ =>
 acall TP fn_spec_l1Next [a0, (iv 3)] σ (onr (fun v14 σ =>
 og (idx 1 v12 v14 σ) fun v15 =>
 og (lod v15 σ) fun v16 =>
 og (sbin .add (.val (.string ⟨#[40, 100, 101, 102, 105, 110, 101, 32]⟩)) v16) fun v17 =>
 og (sbin .add v17 (.val (.string ⟨#[32]⟩))) fun v18 =>
 og (sbin .add v18 v9) fun v20 =>
 og (sbin .add v20 (.val (.string ⟨#[41]⟩))) fun v21 =>
 k1 (v21, ()) σ) (pn R))) (
 k1 (v9, ()) σ)) (pn R))) (pn R))) (pn R))
def x58 : Sx := .bsl 1 [(iv 0)] 3 [(0, (Y 2)), (1, (Y 3)), (2, (Y 3))] (.call 36 [(Z 1), (Z 0)] (.call 82 [(Z 2), (.lit nilS), (Z 0)] (.jn 15 [3] (.call 84 [(Z 0)] (.new [(iv 0), (iv 0), nilS] (.sto 3 (Z 0) (Z 1) (.frz 2 (Z 0) (Q (F 0 0) (M 0 (D .neq (Z 0) (Y 0) (P 0 (Q (.bld [(iv 0), (iv 0), (iv 0), (str ⟨#[]⟩)] [(0, 1), (1, 1), (2, 1), (3, 1)] [(0, (Y 1)), (1, (Y (-1))), (2, (Y 1))]) (.bsl 4 [(iv 0), (iv 0), (iv 0), (str ⟨#[]⟩)] 1 [(0, (Z 0))] (.ret (Z 0)))) (Q (F 2 3) (M 0 (.ret (Z 0)))))))))))) (.call 83 [(Z 3), (Y 5)] (P 0 (.bsl 1 [(str ⟨#[]⟩)] 3 [(0, (.lit (.val (.string ⟨#[103]⟩)))), (1, (.lit (.val (.string ⟨#[104]⟩)))), (2, (.lit (.val (.string ⟨#[99, 97, 114]⟩))))] (.call 17 [(Z 5), (Y 3)] (J 1 1 0 (M 0 (Q (.sbin .add (.lit (.val (.string ⟨#[40, 100, 101, 102, 105, 110, 101, 32]⟩))) (Z 0)) (Q (.sbin .add (Z 0) (.lit (.val (.string ⟨#[32]⟩)))) (Q (.sbin .add (Z 0) (Z 7)) (Q (.sbin .add (Z 0) (.lit (.val (.string ⟨#[41]⟩)))) (.jump 0 [(Z 0)]))))))))) (.jump 0 [(Z 1)]))))))
theorem x58_ok : okF TT Tryz.f58 1 x58 = true := by decide +kernel
theorem s_spec_l4Datum_ok (h : s_spec_l4Datum a0 σ R) : acall TP fn_spec_l4Datum [a0] σ R :=
 acall_okF (ρ := [a0]) TT_ok Tryz.func58 rfl x58 x58_ok rfl h
def s_spec_l9Code (a0 : AV) (σ : AH) (R : AEnd → AH → Prop) : Prop :=
 og (bld [(iv 0), nilS] [(0, 1), (1, 1)] []) fun v8 =>
 bsl 2 [(iv 0), nilS] 1 [(0, v8)] σ fun v9 σ =>
 og (bld [nilS, nilS] [(0, 1), (1, 1)] [(0, a0), (1, v9)]) fun v10 =>
 new [nilS, nilS] σ fun v4 σ =>
 sto 2 v4 v10 σ fun σ =>
 acall TP fn_spec_l9Make [v4, (iv 0), (iv 0), (.val (.bool true))] σ (onr (fun v11 σ =>
 frz v4 σ fun f4 σ =>
 og (fldA 1 f4) fun v12 =>
 og (lod v12 σ) fun v13 =>
 og (lenS v13) fun v14 =>
 og (ibin .leq v14 (iv 60)) fun v15 =>
 lp (X := Tup [4, 5, 6]) (fun R1 y1 σ =>
 og (fldA 1 y1.1) fun v17 =>
 og (lod v17 σ) fun v18 =>
 og (lenS v18) fun v19 =>
 og (ibin .lss y1.2.2.1 v19) fun v20 =>
 apick v20 (
 og (gval y1.2.1 true false (fldA 1 y1.1)) fun v25 =>
 og (gval y1.2.1 true false (lod v25 σ)) fun v26 =>
 og (gval y1.2.1 true false (some y1.2.2.1)) fun v27 =>
 og (gval y1.2.1 true false (idx 2 v26 v27 σ)) fun v28 =>
 og (gval y1.2.1 true false (fldA 1 v28)) fun v29 =>
 og (gval y1.2.1 true false (lod v29 σ)) fun v30 =>
 og (gval y1.2.1 true false (lenS v30)) fun v31 =>
 og (gval y1.2.1 true false (ibin .leq v31 (iv 200))) fun v32 =>
 og (pickV y1.2.1 v32 (.val (.bool false))) fun v33 =>
 og (ibin .add y1.2.2.1 (iv 1)) fun v22 =>
 R1 (y1.1, v33, v22, ()) σ) (
 og (fldA 1 y1.1) fun v34 =>
 og (lod v34 σ) fun v35 =>
 aret (.tup [v35, y1.2.1]) σ R)) (f4, v15, (iv 0), ()) σ) (pn R))
def x59 : Sx := Q (.bld [(iv 0), nilS] [(0, 1), (1, 1)] []) (.bsl 2 [(iv 0), nilS] 1 [(0, (Z 0))] (Q (.bld [nilS, nilS] [(0, 1), (1, 1)] [(0, (Z 2)), (1, (Z 0))]) (.new [nilS, nilS] (.sto 2 (Z 0) (Z 1) (.call 85 [(Z 0), (Y 0), (Y 0), (.lit (.val (.bool true)))] (.frz 4 (Z 1) (Q (F 1 0) (M 0 (O 0 (D .leq (Z 0) (Y 60) (.lp [4, 5, 6] (Q (F 1 0) (M 0 (O 0 (D .lss (Z 5) (Z 0) (P 0 (H 5 (F 1 4) (H 6 (L 0) (H 7 (.ret (Z 8)) (H 8 (I 2 1 0) (H 9 (F 1 0) (H 10 (L 0) (H 11 (N 0) (H 12 (B .leq (Z 0) (Y 200)) (Q (.pickV (Z 13) (Z 0) (.lit (.val (.bool false)))) (D .add (Z 15) (Y 1) (.jump 0 [(Z 14), (Z 1), (Z 0)]))))))))))) (Q (F 1 4) (M 0 (.rets [(Z 0), (Z 7)])))))))) [(Z 4), (Z 0), (Y 0)])))))))))))
theorem x59_ok : okF TT Tryz.f59 1 x59 = true := by decide +kernel
theorem s_spec_l9Code_ok (h : s_spec_l9Code a0 σ R) : acall TP fn_spec_l9Code [a0] σ R :=
 acall_okF (ρ := [a0]) TT_ok Tryz.func59 rfl x59 x59_ok rfl h
def s_spec_l3Make (a0 a1 a2 a3 : AV) (σ : AH) (R : AEnd → AH → Prop) : Prop :=
 jn (X := Tup [0, 1, 2, 3, 21]) (fun x1 σ =>
 apick x1.2.2.2.2.1 (
 acall TP fn_spec_l3Leaf [x1.1, x1.2.2.1] σ (onr (fun v25 σ =>
 bsl 4 [(iv 0), (iv 0), (iv 0), (str ⟨#[]⟩)] 1 [(0, v25)] σ fun v26 σ =>
 app 4 x1.2.1 v26 σ fun v27 σ =>
 aret v27 σ R) (pn R))) (
 og (lenS x1.2.1) fun v29 =>
 og (bld [(iv 0), (iv 0), (iv 0), (str ⟨#[]⟩)] [(0, 1), (1, 1), (2, 1), (3, 1)] [(0, (iv 4)), (1, x1.2.2.1)]) fun v32 =>
 bsl 4 [(iv 0), (iv 0), (iv 0), (str ⟨#[]⟩)] 1 [(0, v32)] σ fun v33 σ =>
 app 4 x1.2.1 v33 σ fun v34 σ =>
 acall TP fn_spec_l1Next [x1.1, (iv 4)] σ (onr (fun v36 σ =>
 lp (X := Tup [0, 1, 3, 9, 10]) (fun R2 y2 σ =>
 og (ibin .gtr y2.2.2.2.2.1 (iv 0)) fun v38 =>
 apick v38 (
 og (ibin .sub y2.2.2.1 (iv 1)) fun v45 =>
 acall TP fn_spec_l3Make [y2.1, y2.2.1, y2.2.2.2.1, v45] σ (onr (fun v46 σ =>
 og (ibin .sub y2.2.2.2.2.1 (iv 1)) fun v40 =>
 R2 (y2.1, v46, y2.2.2.1, y2.2.2.2.1, v40, ()) σ) (pn R))) (
 aret y2.2.1 σ R)) (x1.1, v34, x1.2.2.2.1, v29, v36, ()) σ) (pn R)))) fun k1 =>
 og (ibin .eql a3 (iv 0)) fun v12 =>
 og (gval v12 false false (some a1)) fun v14 =>
 og (gval v12 false false (lenS v14)) fun v15 =>
 og (gval v12 false false (ibin .gtr v15 (iv 30))) fun v16 =>
 og (pickV v12 (.val (.bool true)) v16) fun v17 =>
 og (gval v17 false false (some a0)) fun v19 =>
 gpick v17 (
 k1 (a0, a1, a2, a3, (.val (.bool true)), ()) σ) (
 acall TP fn_spec_l1Chance [v19, (iv 3)] σ (onr (fun v20 σ =>
 k1 (a0, a1, a2, a3, v20, ()) σ) (pn R))) (False)
def x60 : Sx := .jn 13 [0, 1, 2, 3, 21] (P 4 (.call 86 [(Z 0), (Z 2)] (.bsl 4 [(iv 0), (iv 0), (iv 0), (str ⟨#[]⟩)] 1 [(0, (Z 0))] (.app 4 (Z 3) (Z 0) (.ret (Z 0))))) (O 1 (Q (.bld [(iv 0), (iv 0), (iv 0), (str ⟨#[]⟩)] [(0, 1), (1, 1), (2, 1), (3, 1)] [(0, (Y 4)), (1, (Z 3))]) (.bsl 4 [(iv 0), (iv 0), (iv 0), (str ⟨#[]⟩)] 1 [(0, (Z 0))] (.app 4 (Z 4) (Z 0) (.call 17 [(Z 4), (Y 4)] (.lp [0, 1, 3, 9, 10] (D .gtr (Z 4) (Y 0) (P 0 (D .sub (Z 3) (Y 1) (.call 60 [(Z 2), (Z 3), (Z 5), (Z 0)] (D .sub (Z 7) (Y 1) (.jump 0 [(Z 4), (Z 1), (Z 6), (Z 7), (Z 0)])))) (.ret (Z 2)))) [(Z 5), (Z 1), (Z 8), (Z 4), (Z 0)]))))))) (D .eql (Z 0) (Y 0) (G 0 (.ret (Z 3)) (G 1 (N 0) (G 2 (B .gtr (Z 0) (Y 30)) (Q (.pickV (Z 3) (.lit (.val (.bool true))) (Z 0)) (G 0 (.ret (Z 8)) (.gpick (Z 1) (.jump 0 [(Z 9), (Z 8), (Z 7), (Z 6), (.lit (.val (.bool true)))]) (.call 83 [(Z 0), (Y 3)] (.jump 0 [(Z 10), (Z 9), (Z 8), (Z 7), (Z 0)])) (.no))))))))
theorem x60_ok : okF TT Tryz.f60 4 x60 = true := by decide +kernel
theorem s_spec_l3Make_ok (h : s_spec_l3Make a0 a1 a2 a3 σ R) : acall TP fn_spec_l3Make [a0, a1, a2, a3] σ R :=
 acall_okF (ρ := [a3, a2, a1, a0]) TT_ok Tryz.func60 rfl x60 x60_ok rfl h
def s_spec_l9Op (a0 : AV) (σ : AH) (R : AEnd → AH → Prop) : Prop :=
 og (anil a0) fun v7 =>
 og (fldA 0 v7) fun v8 =>
 og (lod v8 σ) fun v9 =>
 acall TP fn_spec_l1In [v9, (iv 1), (iv 16)] σ (onr (fun v10 σ =>
 og (aun .not v10) fun v11 =>
 apick v11 (
 aret (iv 1) σ R) (
 acall TP fn_spec_l9All [a0] σ (onr (fun v13 σ =>
 og (anil a0) fun v15 =>
 og (fldA 0 v15) fun v16 =>
 og (lod v16 σ) fun v17 =>
 acall TP fn_spec_l9Nums [v17] σ (onr (fun v18 σ =>
 lp (X := Tup [0, 3, 4]) (fun R1 y1 σ =>
 og (ibin .lss y1.2.2.1 (iv 4)) fun v20 =>
 apick v20 (
 og (idx 1 y1.2.1 y1.2.2.1 σ) fun v25 =>
 og (lod v25 σ) fun v26 =>
 og (ibin .neq v26 (iv 0)) fun v27 =>
 apick v27 (
 aret (iv 1) σ R) (
 og (ibin .add y1.2.2.1 (iv 1)) fun v22 =>
 R1 (y1.1, y1.2.1, v22, ()) σ)) (
 jn (X := Tup [0, 3, 56]) (fun x2 σ =>
 apick x2.2.2.1 (
 aret (iv 1) σ R) (
 lp (X := Tup [0, 3, 5]) (fun R3 y3 σ =>
 og (ibin .lss y3.2.2.1 (iv 4)) fun v58 =>
 apick v58 (
 og (idx 1 y3.2.1 y3.2.2.1 σ) fun v63 =>
 og (lod v63 σ) fun v64 =>
 acall TP fn_spec_l1In [v64, (iv 0), (iv 999)] σ (onr (fun v65 σ =>
 og (aun .not v65) fun v66 =>
 apick v66 (
 aret (iv 3) σ R) (
 og (ibin .add y3.2.2.1 (iv 1)) fun v60 =>
 R3 (y3.1, y3.2.1, v60, ()) σ)) (pn R))) (
 og (anil y3.1) fun v68 =>
 og (fldA 0 v68) fun v69 =>
 og (lod v69 σ) fun v70 =>
 og (ibin .eql v70 (iv 10)) fun v71 =>
 og (gval v71 false false (some y3.1)) fun v73 =>
 og (gval v71 false false (anil v73)) fun v74 =>
 og (gval v71 false false (fldA 0 v74)) fun v75 =>
 og (gval v71 false false (lod v75 σ)) fun v76 =>
 og (gval v71 false false (ibin .eql v76 (iv 11))) fun v77 =>
 og (pickV v71 (.val (.bool true)) v77) fun v78 =>
 og (gval v78 true false (some y3.1)) fun v80 =>
 og (gval v78 true false (anil v80)) fun v81 =>
 og (gval v78 true false (fldA 1 v81)) fun v82 =>
 og (gval v78 true false (lod v82 σ)) fun v83 =>
 og (gval v78 true false (ibin .gtr v83 (iv 3))) fun v84 =>
 og (pickV v78 v84 (.val (.bool false))) fun v85 =>
 apick v85 (
 aret (iv 3) σ R) (
 jn (X := Tup [0, 98]) (fun x4 σ =>
 apick x4.2.1 (
 aret (iv 5) σ R) (
 og (anil x4.1) fun v100 =>
 og (fldA 0 v100) fun v101 =>
 og (lod v101 σ) fun v102 =>
 acall TP fn_spec_l9Const [v102] σ (onr (fun v103 σ =>
 apick v103 (
 og (anil x4.1) fun v105 =>
 og (fldA 6 v105) fun v106 =>
 og (lod v106 σ) fun v107 =>
 acall TP fn_spec_l3Fault [v107] σ (onr (fun v108 σ =>
 aret v108 σ R) (pn R))) (
 aret (iv 0) σ R)) (pn R)))) fun k4 =>
 og (anil y3.1) fun v87 =>
 og (fldA 0 v87) fun v88 =>
 og (lod v88 σ) fun v89 =>
 acall TP fn_spec_l9Named [v89] σ (onr (fun v90 σ =>
 og (gval v90 true false (some y3.1)) fun v92 =>
 og (gval v90 true false (anil v92)) fun v93 =>
 og (gval v90 true false (fldA 5 v93)) fun v94 =>
 og (gval v90 true false (lod v94 σ)) fun v95 =>
 gpick v90 (
 acall TP fn_spec_l2Sym [v95] σ (onr (fun v96 σ =>
 og (aun .not v96) fun v97 =>
 k4 (y3.1, v97, ()) σ) (pn R))) (
 k4 (y3.1, (.val (.bool false)), ()) σ) (False)) (pn R))))) (x2.1, x2.2.1, (iv 0), ()) σ)) fun k2 =>
 og (anil y1.1) fun v29 =>
 og (fldA 0 v29) fun v30 =>
 og (lod v30 σ) fun v31 =>
 acall TP fn_spec_l9Named [v31] σ (onr (fun v32 σ =>
 og (aun .not v32) fun v33 =>
 og (gval v33 true false (some y1.1)) fun v35 =>
 og (gval v33 true false (anil v35)) fun v36 =>
 og (gval v33 true false (fldA 5 v36)) fun v37 =>
 og (gval v33 true false (lod v37 σ)) fun v38 =>
 og (gval v33 true false (sbin .neq v38 (str ⟨#[]⟩))) fun v39 =>
 og (pickV v33 v39 (.val (.bool false))) fun v40 =>
 og (gval v40 false false (some y1.1)) fun v42 =>
 og (gval v40 false false (anil v42)) fun v43 =>
 og (gval v40 false false (fldA 0 v43)) fun v44 =>
 og (gval v40 false false (lod v44 σ)) fun v45 =>
 gpick v40 (
 k2 (y1.1, y1.2.1, (.val (.bool true)), ()) σ) (
 acall TP fn_spec_l9Const [v45] σ (onr (fun v46 σ =>
 og (aun .not v46) fun v47 =>
 og (gval v47 true true (some y1.1)) fun v49 =>
 og (gval v47 true true (anil v49)) fun v50 =>
 og (gval v47 true true (fldA 6 v50)) fun v51 =>
 og (gval v47 true true (lod v51 σ)) fun v52 =>
 og (gval v47 true true (lenS v52)) fun v53 =>
 og (gval v47 true true (ibin .gtr v53 (iv 0))) fun v54 =>
 og (pickV v47 v54 (.val (.bool false))) fun v55 =>
 k2 (y1.1, y1.2.1, v55, ()) σ) (pn R))) (False)) (pn R)))) (a0, v13, v18, ()) σ) (pn R))) (pn R)))) (pn R))
def x61 : Sx := Q (A 0) (Q (F 0 0) (M 0 (.call 26 [(Z 0), (Y 1), (Y 16)] (Q (.aun .not (Z 0)) (P 0 (.ret (Y 1)) (.call 87 [(Z 5)] (Q (A 6) (Q (F 0 0) (M 0 (.call 88 [(Z 0)] (.lp [0, 3, 4] (D .lss (Z 2) (Y 4) (P 0 (J 1 2 3 (M 0 (D .neq (Z 0) (Y 0) (P 0 (.ret (Y 1)) (D .add (Z 6) (Y 1) (.jump 0 [(Z 5), (Z 6), (Z 0)])))))) (.jn 125 [0, 3, 56] (P 2 (.ret (Y 1)) (.lp [0, 3, 5] (D .lss (Z 2) (Y 4) (P 0 (J 1 2 3 (M 0 (.call 26 [(Z 0), (Y 0), (Y 999)] (Q (.aun .not (Z 0)) (P 0 (.ret (Y 3)) (D .add (Z 7) (Y 1) (.jump 0 [(Z 6), (Z 7), (Z 0)]))))))) (Q (A 1) (Q (F 0 0) (M 0 (D .eql (Z 0) (Y 10) (G 0 (.ret (Z 5)) (G 1 (A 0) (G 2 (F 0 0) (G 3 (L 0) (G 4 (B .eql (Z 0) (Y 11)) (Q (.pickV (Z 5) (.lit (.val (.bool true))) (Z 0)) (H 0 (.ret (Z 11)) (H 1 (A 0) (H 2 (F 1 0) (H 3 (L 0) (H 4 (B .gtr (Z 0) (Y 3)) (Q (.pickV (Z 5) (Z 0) (.lit (.val (.bool false)))) (P 0 (.ret (Y 3)) (.jn 1021 [0, 98] (P 1 (.ret (Y 5)) (Q (A 0) (Q (F 0 0) (M 0 (.call 90 [(Z 0)] (P 0 (Q (A 4) (Q (F 6 0) (M 0 (.call 80 [(Z 0)] (.ret (Z 0)))))) (.ret (Y 0)))))))) (Q (A 17) (Q (F 0 0) (M 0 (.call 89 [(Z 0)] (H 0 (.ret (Z 21)) (H 1 (A 0) (H 2 (F 5 0) (H 3 (L 0) (.gpick (Z 4) (.call 91 [(Z 0)] (Q (.aun .not (Z 0)) (.jump 0 [(Z 27), (Z 0)]))) (.jump 0 [(Z 25), (.lit (.val (.bool false)))]) (.no)))))))))))))))))))))))))))))) [(Z 0), (Z 1), (Y 0)])) (Q (A 1) (Q (F 0 0) (M 0 (.call 89 [(Z 0)] (Q (.aun .not (Z 0)) (H 0 (.ret (Z 6)) (H 1 (A 0) (H 2 (F 5 0) (H 3 (L 0) (H 4 (.sbin .neq (Z 0) (.lit (str ⟨#[]⟩))) (Q (.pickV (Z 5) (Z 0) (.lit (.val (.bool false)))) (G 0 (.ret (Z 12)) (G 1 (A 0) (G 2 (F 0 0) (G 3 (L 0) (.gpick (Z 4) (.jump 0 [(Z 16), (Z 17), (.lit (.val (.bool true)))]) (.call 90 [(Z 0)] (Q (.aun .not (Z 0)) (.gog (Z 0) true true (.ret (Z 18)) (.gog (Z 1) true true (A 0) (.gog (Z 2) true true (F 6 0) (.gog (Z 3) true true (L 0) (.gog (Z 4) true true (N 0) (.gog (Z 5) true true (B .gtr (Z 0) (Y 0)) (Q (.pickV (Z 6) (Z 0) (.lit (.val (.bool false)))) (.jump 0 [(Z 25), (Z 26), (Z 0)])))))))))) (.no)))))))))))))))))))) [(Z 10), (Z 4), (Z 0)])))))))))))
theorem x61_ok : okF TT Tryz.f61 1 x61 = true := by decide +kernel
theorem s_spec_l9Op_ok (h : s_spec_l9Op a0 σ R) : acall TP fn_spec_l9Op [a0] σ R :=
 acall_okF (ρ := [a0]) TT_ok Tryz.func61 rfl x61 x61_ok rfl h
def s_spec_l10High (a0 a1 : AV) (σ : AH) (R : AEnd → AH → Prop) : Prop :=
 og (anil a0) fun v8 =>
 og (fldA 0 v8) fun v9 =>
 og (lod v9 σ) fun v10 =>
 og (ibin .eql v10 (iv 12)) fun v12 =>
 apick v12 (
 og (ibin .eql a1 (iv 1)) fun v14 =>
 aret v14 σ R) (
 og (ibin .eql v10 (iv 11)) fun v16 =>
 apick v16 (
 og (anil a0) fun v19 =>
 og (fldA 1 v19) fun v20 =>
 og (lod v20 σ) fun v21 =>
 og (ibin .add v21 (iv 1)) fun v22 =>
 og (ibin .eql a1 v22) fun v23 =>
 aret v23 σ R) (
 jn (X := Tup [0, 1, 24]) (fun x1 σ =>
 apick x1.2.2.1 (
 og (ibin .eql x1.2.1 (iv 0)) fun v28 =>
 aret v28 σ R) (
 acall TP fn_spec_l10Takes [x1.1] σ (onr (fun v31 σ =>
 og (aext v31 0) fun v32 =>
 og (aext v31 1) fun v33 =>
 og (ibin .geq x1.2.1 v32) fun v36 =>
 aret v36 σ R) (pn R)))) fun k1 =>
 og (ibin .eql v10 (iv 13)) fun v25 =>
 apick v25 (
 k1 (a0, a1, v25, ()) σ) (
 og (ibin .eql v10 (iv 14)) fun v26 =>
 k1 (a0, a1, v26, ()) σ)))
def x62 : Sx := Q (A 1) (Q (F 0 0) (M 0 (D .eql (Z 0) (Y 12) (P 0 (D .eql (Z 4) (Y 1) (.ret (Z 0))) (D .eql (Z 1) (Y 11) (P 0 (Q (A 6) (Q (F 1 0) (M 0 (D .add (Z 0) (Y 1) (D .eql (Z 9) (Z 0) (.ret (Z 0))))))) (.jn 863 [0, 1, 24] (P 2 (D .eql (Z 1) (Y 0) (.ret (Z 0))) (.call 63 [(Z 0)] (Q (.aext (Z 0) 0) (Q (.aext (Z 1) 1) (D .geq (Z 4) (Z 1) (.ret (Z 0))))))) (D .eql (Z 2) (Y 13) (P 0 (.jump 0 [(Z 7), (Z 6), (Z 0)]) (D .eql (Z 3) (Y 14) (.jump 0 [(Z 8), (Z 7), (Z 0)])))))))))))
theorem x62_ok : okF TT Tryz.f62 2 x62 = true := by decide +kernel
theorem s_spec_l10High_ok (h : s_spec_l10High a0 a1 σ R) : acall TP fn_spec_l10High [a0, a1] σ R :=
 acall_okF (ρ := [a1, a0]) TT_ok Tryz.func62 rfl x62 x62_ok rfl h
def s_spec_l10Takes (a0 : AV) (σ : AH) (R : AEnd → AH → Prop) : Prop :=
 og (anil a0) fun v5 =>
 og (fldA 0 v5) fun v6 =>
 og (lod v6 σ) fun v7 =>
 jn (X := Tup [0, 7, 8]) (fun x1 σ =>
 apick x1.2.2.1 (
 aret (.tup [(iv 0), (iv 1)]) σ R) (
 jn (X := Tup [0, 7, 13]) (fun x2 σ =>
 apick x2.2.2.1 (
 aret (.tup [(iv 1), (iv 0)]) σ R) (
 jn (X := Tup [0, 7, 16]) (fun x3 σ =>
 apick x3.2.2.1 (
 aret (.tup [(iv 1), (iv 1)]) σ R) (
 og (ibin .eql x3.2.1 (iv 10)) fun v20 =>
 apick v20 (
 og (anil x3.1) fun v22 =>
 og (fldA 1 v22) fun v23 =>
 og (lod v23 σ) fun v24 =>
 og (ibin .add v24 (iv 1)) fun v25 =>
 aret (.tup [v25, (iv 1)]) σ R) (
 og (ibin .eql x3.2.1 (iv 15)) fun v27 =>
 apick v27 (
 aret (.tup [(iv 0), (iv 2)]) σ R) (
 aret (.tup [(iv 0), (iv 0)]) σ R)))) fun k3 =>
 og (ibin .eql x2.2.1 (iv 8)) fun v17 =>
 apick v17 (
 k3 (x2.1, x2.2.1, v17, ()) σ) (
 og (ibin .eql x2.2.1 (iv 9)) fun v18 =>
 k3 (x2.1, x2.2.1, v18, ()) σ))) fun k2 =>
 og (ibin .eql x1.2.1 (iv 6)) fun v14 =>
 apick v14 (
 k2 (x1.1, x1.2.1, v14, ()) σ) (
 og (ibin .eql x1.2.1 (iv 7)) fun v15 =>
 k2 (x1.1, x1.2.1, v15, ()) σ))) fun k1 =>
 og (ibin .eql v7 (iv 1)) fun v9 =>
 apick v9 (
 k1 (a0, v7, v9, ()) σ) (
 og (ibin .eql v7 (iv 2)) fun v10 =>
 apick v10 (
 k1 (a0, v7, v10, ()) σ) (
 og (ibin .eql v7 (iv 3)) fun v11 =>
 apick v11 (
 k1 (a0, v7, v11, ()) σ) (
 og (ibin .eql v7 (iv 4)) fun v12 =>
 k1 (a0, v7, v12, ()) σ)))
def x63 : Sx := Q (A 0) (Q (F 0 0) (M 0 (.jn 53 [0, 7, 8] (P 2 (.rets [(Y 0), (Y 1)]) (.jn 215 [0, 7, 13] (P 2 (.rets [(Y 1), (Y 0)]) (.jn 863 [0, 7, 16] (P 2 (.rets [(Y 1), (Y 1)]) (D .eql (Z 1) (Y 10) (P 0 (Q (A 1) (Q (F 1 0) (M 0 (D .add (Z 0) (Y 1) (.rets [(Z 0), (Y 1)]))))) (D .eql (Z 2) (Y 15) (P 0 (.rets [(Y 0), (Y 2)]) (.rets [(Y 0), (Y 0)])))))) (D .eql (Z 1) (Y 8) (P 0 (.jump 0 [(Z 1), (Z 2), (Z 0)]) (D .eql (Z 2) (Y 9) (.jump 0 [(Z 2), (Z 3), (Z 0)])))))) (D .eql (Z 1) (Y 6) (P 0 (.jump 0 [(Z 1), (Z 2), (Z 0)]) (D .eql (Z 2) (Y 7) (.jump 0 [(Z 2), (Z 3), (Z 0)])))))) (D .eql (Z 0) (Y 1) (P 0 (.jump 0 [(Z 4), (Z 1), (Z 0)]) (D .eql (Z 1) (Y 2) (P 0 (.jump 0 [(Z 5), (Z 2), (Z 0)]) (D .eql (Z 2) (Y 3) (P 0 (.jump 0 [(Z 6), (Z 3), (Z 0)]) (D .eql (Z 3) (Y 4) (.jump 0 [(Z 7), (Z 4), (Z 0)])))))))))))
theorem x63_ok : okF TT Tryz.f63 1 x63 = true := by decide +kernel
theorem s_spec_l10Takes_ok (h : s_spec_l10Takes a0 σ R) : acall TP fn_spec_l10Takes [a0] σ R :=
 acall_okF (ρ := [a0]) TT_ok Tryz.func63 rfl x63 x63_ok rfl h
def s_spec_l10Ends (a0 : AV) (σ : AH) (R : AEnd → AH → Prop) : Prop :=
 jn (X := Tup [2]) (fun x1 σ =>
 aret x1.1 σ R) fun k1 =>
 og (ibin .eql a0 (iv 5)) fun v4 =>
 og (gval v4 false false (some a0)) fun v6 =>
 og (gval v4 false false (ibin .eql v6 (iv 11))) fun v7 =>
 og (pickV v4 (.val (.bool true)) v7) fun v8 =>
 og (gval v8 false false (some a0)) fun v10 =>
 gpick v8 (
 k1 ((.val (.bool true)), ()) σ) (
 acall TP fn_spec_l1In [v10, (iv 12), (iv 14)] σ (onr (fun v11 σ =>
 k1 (v11, ()) σ) (pn R))) (False)
def x64 : Sx := .jn 7 [2] (.ret (Z 0)) (D .eql (Z 0) (Y 5) (G 0 (.ret (Z 1)) (G 1 (B .eql (Z 0) (Y 11)) (Q (.pickV (Z 2) (.lit (.val (.bool true))) (Z 0)) (G 0 (.ret (Z 4)) (.gpick (Z 1) (.jump 0 [(.lit (.val (.bool true)))]) (.call 26 [(Z 0), (Y 12), (Y 14)] (.jump 0 [(Z 0)])) (.no)))))))
theorem x64_ok : okF TT Tryz.f64 1 x64 = true := by decide +kernel
theorem s_spec_l10Ends_ok (h : s_spec_l10Ends a0 σ R) : acall TP fn_spec_l10Ends [a0] σ R :=
 acall_okF (ρ := [a0]) TT_ok Tryz.func64 rfl x64 x64_ok rfl h
def s_spec_l10Lead (a0 a1 a2 : AV) (σ : AH) (R : AEnd → AH → Prop) : Prop :=
 og (lenS a0) fun v10 =>
 og (ibin .sub v10 (iv 1)) fun v11 =>
 acall TP fn_spec_l1In [a1, (iv 0), v11] σ (onr (fun v12 σ =>
 og (aun .not v12) fun v13 =>
 apick v13 (
 aret (.tup [(.val (.bool false)), (.val (.bool false))]) σ R) (
 og (idx 1 a0 a1 σ) fun v16 =>
 og (lod v16 σ) fun v17 =>
 og (ibin .lss v17 (iv 0)) fun v18 =>
 apick v18 (
 og (idx 1 a0 a1 σ) fun v22 =>
 sto 1 v22 a2 σ fun σ =>
 aret (.tup [(.val (.bool true)), (.val (.bool true))]) σ R) (
 og (idx 1 a0 a1 σ) fun v25 =>
 og (lod v25 σ) fun v26 =>
 og (ibin .eql v26 a2) fun v28 =>
 aret (.tup [(.val (.bool false)), v28]) σ R))) (pn R))
def x65 : Sx := O 2 (D .sub (Z 0) (Y 1) (.call 26 [(Z 3), (Y 0), (Z 0)] (Q (.aun .not (Z 0)) (P 0 (.rets [(.lit (.val (.bool false))), (.lit (.val (.bool false)))]) (J 1 6 5 (M 0 (D .lss (Z 0) (Y 0) (P 0 (J 1 9 8 (.sto 1 (Z 0) (Z 8) (.rets [(.lit (.val (.bool true))), (.lit (.val (.bool true)))]))) (.ord [0, 1, 2, 3, 4, 5, 6, 7] [0, 0, 3, 7, 0, 31, 0, 127] (J 1 9 8 (M 0 (D .eql (Z 0) (Z 9) (.rets [(.lit (.val (.bool false))), (Z 0)])))))))))))))
theorem x65_ok : okF TT Tryz.f65 3 x65 = true := by decide +kernel
theorem s_spec_l10Lead_ok (h : s_spec_l10Lead a0 a1 a2 σ R) : acall TP fn_spec_l10Lead [a0, a1, a2] σ R :=
 acall_okF (ρ := [a2, a1, a0]) TT_ok Tryz.func65 rfl x65 x65_ok rfl h
def s_spec_l10Local (a0 a1 a2 a3 a4 : AV) (σ : AH) (R : AEnd → AH → Prop) : Prop :=
 lp (X := Tup [0, 1, 2, 3, 4]) (fun R1 y1 σ =>
 og (ibin .gtr y1.2.2.2.1 (iv 0)) fun v12 =>
 og (gval v12 true false (some y1.2.2.1)) fun v14 =>
 og (gval v12 true false (ibin .gtr v14 (iv 0))) fun v15 =>
 og (pickV v12 v15 (.val (.bool false))) fun v16 =>
 apick v16 (
 og (idx 1 y1.2.1 y1.2.2.1 σ) fun v21 =>
 og (lod v21 σ) fun v22 =>
 og (ibin .sub y1.2.2.2.1 (iv 1)) fun v18 =>
 R1 (y1.1, y1.2.1, v22, v18, y1.2.2.2.2.1, ()) σ) (
 og (ibin .gtr y1.2.2.1 (iv 0)) fun v24 =>
 og (gval v24 true false (some y1.2.2.2.2.1)) fun v26 =>
 og (gval v24 true false (some y1.1)) fun v27 =>
 og (gval v24 true false (some y1.2.2.1)) fun v28 =>
 og (gval v24 true false (idx 2 v27 v28 σ)) fun v29 =>
 og (gval v24 true false (fldA 0 v29)) fun v30 =>
 og (gval v24 true false (lod v30 σ)) fun v31 =>
 og (gval v24 true false (ibin .lss v26 v31)) fun v32 =>
 og (pickV v24 v32 (.val (.bool false))) fun v33 =>
 aret v33 σ R)) (a0, a1, a2, a3, a4, ()) σ
def x68 : Sx := .lp [0, 1, 2, 3, 4] (D .gtr (Z 3) (Y 0) (H 0 (.ret (Z 3)) (H 1 (B .gtr (Z 0) (Y 0)) (Q (.pickV (Z 2) (Z 0) (.lit (.val (.bool false)))) (P 0 (J 1 5 6 (M 0 (D .sub (Z 9) (Y 1) (.jump 0 [(Z 7), (Z 8), (Z 1), (Z 0), (Z 11)])))) (D .gtr (Z 6) (Y 0) (H 0 (.ret (Z 9)) (H 1 (.ret (Z 6)) (H 2 (.ret (Z 9)) (H 3 (I 2 1 0) (H 4 (F 0 0) (H 5 (L 0) (H 6 (B .lss (Z 5) (Z 0)) (Q (.pickV (Z 7) (Z 0) (.lit (.val (.bool false)))) (.ret (Z 0)))))))))))))))) [(Z 4), (Z 3), (Z 2), (Z 1), (Z 0)]
theorem x68_ok : okF TT Tryz.f68 5 x68 = true := by decide +kernel
theorem s_spec_l10Local_ok (h : s_spec_l10Local a0 a1 a2 a3 a4 σ R) : acall TP fn_spec_l10Local [a0, a1, a2, a3, a4] σ R :=
 acall_okF (ρ := [a4, a3, a2, a1, a0]) TT_ok Tryz.func68 rfl x68 x68_ok rfl h
def s_strings_makeASCIISet (a0 : AV) (σ : AH) (R : AEnd → AH → Prop) : Prop :=
 new (List.replicate 256 (.val (.bool false))) σ fun v2 σ =>
 lp (X := Tup [0, 2, 4]) (fun R1 y1 σ =>
 og (lenStr y1.1) fun v8 =>
 og (ibin .lss y1.2.2.1 v8) fun v9 =>
 apick v9 (
 og (idxStr y1.1 y1.2.2.1) fun v14 =>
 og (ibin .geq v14 (.val (.int .u8 128))) fun v16 =>
 apick v16 (
 og (lodA 256 y1.2.1 σ) fun v17 =>
 sto 256 y1.2.1 v17 σ fun σ =>
 og (lodA 256 y1.2.1 σ) fun r2 =>
 aret (.tup [r2, (.val (.bool false))]) σ R) (
 og (idxArr 256 1 y1.2.1 v14) fun v19 =>
 sto 1 v19 (.val (.bool true)) σ fun σ =>
 og (ibin .add y1.2.2.1 (iv 1)) fun v11 =>
 R1 (y1.1, y1.2.1, v11, ()) σ)) (
 og (lodA 256 y1.2.1 σ) fun v20 =>
 sto 256 y1.2.1 v20 σ fun σ =>
 og (lodA 256 y1.2.1 σ) fun r2 =>
 aret (.tup [r2, (.val (.bool true))]) σ R)) (a0, v2, (iv 0), ()) σ
def x71 : Sx := .new (List.replicate 256 (.val (.bool false))) (.lp [0, 2, 4] (Q (.lenStr (Z 0)) (D .lss (Z 3) (Z 0) (P 0 (Q (.idxStr (Z 2) (Z 4)) (D .geq (Z 0) (.lit (.val (.int .u8 128))) (P 0 (Q (.lodA 256 (Z 5)) (.sto 256 (Z 6) (Z 0) (Q (.lodA 256 (Z 6)) (.rets [(Z 0), (.lit (.val (.bool false)))])))) (Q (.idxArr 256 1 (Z 5) (Z 1)) (.sto 1 (Z 0) (.lit (.val (.bool true))) (D .add (Z 7) (Y 1) (.jump 0 [(Z 6), (Z 7), (Z 0)]))))))) (Q (.lodA 256 (Z 3)) (.sto 256 (Z 4) (Z 0) (Q (.lodA 256 (Z 4)) (.rets [(Z 0), (.lit (.val (.bool true)))]))))))) [(Z 1), (Z 0), (Y 0)])
theorem x71_ok : okF TT Tryz.f71 1 x71 = true := by decide +kernel
theorem s_strings_makeASCIISet_ok (h : s_strings_makeASCIISet a0 σ R) : acall TP fn_strings_makeASCIISet [a0] σ R :=
 acall_okF (ρ := [a0]) TT_ok Tryz.func71 rfl x71 x71_ok rfl h
def s_strings_trimLeftASCII (a0 a1 : AV) (σ : AH) (R : AEnd → AH → Prop) : Prop :=
 jn (X := Tup [0]) (fun x1 σ =>
 aret x1.1 σ R) fun k1 =>
 lp (X := Tup [0, 1]) (fun R2 y2 σ =>
 og (lenStr y2.1) fun v6 =>
 og (ibin .gtr v6 (iv 0)) fun v7 =>
 apick v7 (
 og (idxStr y2.1 (iv 0)) fun v10 =>
 acall TP fn_strings_asciiSet_contains [y2.2.1, v10] σ (onr (fun v11 σ =>
 og (aun .not v11) fun v12 =>
 apick v12 (
 k1 (y2.1, ()) σ) (
 og (slcStr y2.1 (some (iv 1)) none) fun v14 =>
 R2 (v14, y2.2.1, ()) σ)) (pn R))) (
 k1 (y2.1, ()) σ)) (a0, a1, ()) σ
def x72 : Sx := .jn 7 [0] (.ret (Z 0)) (.lp [0, 1] (Q (.lenStr (Z 0)) (D .gtr (Z 0) (Y 0) (P 0 (Q (.idxStr (Z 2) (Y 0)) (.call 103 [(Z 4), (Z 0)] (Q (.aun .not (Z 0)) (P 0 (.jump 1 [(Z 5)]) (Q (.slcStr (Z 5) (some (Y 1)) none) (.jump 0 [(Z 0), (Z 7)])))))) (.jump 1 [(Z 2)])))) [(Z 1), (Z 0)])
theorem x72_ok : okF TT Tryz.f72 2 x72 = true := by decide +kernel
theorem s_strings_trimLeftASCII_ok (h : s_strings_trimLeftASCII a0 a1 σ R) : acall TP fn_strings_trimLeftASCII [a0, a1] σ R :=
 acall_okF (ρ := [a1, a0]) TT_ok Tryz.func72 rfl x72 x72_ok rfl h
def s_strings_trimRightASCII (a0 a1 : AV) (σ : AH) (R : AEnd → AH → Prop) : Prop :=
 jn (X := Tup [0]) (fun x1 σ =>
 aret x1.1 σ R) fun k1 =>
 lp (X := Tup [0, 1]) (fun R2 y2 σ =>
 og (lenStr y2.1) fun v6 =>
 og (ibin .gtr v6 (iv 0)) fun v7 =>
 apick v7 (
 og (lenStr y2.1) fun v11 =>
 og (ibin .sub v11 (iv 1)) fun v12 =>
 og (idxStr y2.1 v12) fun v13 =>
 acall TP fn_strings_asciiSet_contains [y2.2.1, v13] σ (onr (fun v14 σ =>
 og (aun .not v14) fun v15 =>
 apick v15 (
 k1 (y2.1, ()) σ) (
 og (lenStr y2.1) fun v18 =>
 og (ibin .sub v18 (iv 1)) fun v19 =>
 og (slcStr y2.1 none (some v19)) fun v20 =>
 R2 (v20, y2.2.1, ()) σ)) (pn R))) (
 k1 (y2.1, ()) σ)) (a0, a1, ()) σ
def x73 : Sx := .jn 7 [0] (.ret (Z 0)) (.lp [0, 1] (Q (.lenStr (Z 0)) (D .gtr (Z 0) (Y 0) (P 0 (Q (.lenStr (Z 2)) (D .sub (Z 0) (Y 1) (Q (.idxStr (Z 4) (Z 0)) (.call 103 [(Z 6), (Z 0)] (Q (.aun .not (Z 0)) (P 0 (.jump 1 [(Z 7)]) (Q (.lenStr (Z 7)) (D .sub (Z 0) (Y 1) (Q (.slcStr (Z 9) none (some (Z 0))) (.jump 0 [(Z 0), (Z 11)])))))))))) (.jump 1 [(Z 2)])))) [(Z 1), (Z 0)])
theorem x73_ok : okF TT Tryz.f73 2 x73 = true := by decide +kernel
theorem s_strings_trimRightASCII_ok (h : s_strings_trimRightASCII a0 a1 σ R) : acall TP fn_strings_trimRightASCII [a0, a1] σ R :=
 acall_okF (ρ := [a1, a0]) TT_ok Tryz.func73 rfl x73 x73_ok rfl h
def s_impl_kindFault (a0 a1 a2 a3 a4 a5 : AV) (σ : AH) (R : AEnd → AH → Prop) : Prop :=
 jn (X := Tup []) (fun x1 σ =>
 aret (iv 0) σ R) fun k1 =>
 og (ibin .eql a0 a1) fun v16 =>
 apick v16 (
 acall TP fn_impl_NumFault [a4] σ (onr (fun v18 σ =>
 aret v18 σ R) (pn R))) (
 og (ibin .eql a0 a3) fun v21 =>
 apick v21 (
 acall TP fn_impl_in [a4, (iv 0), (iv 1)] σ (onr (fun v23 σ =>
 og (aun .not v23) fun v24 =>
 apick v24 (
 aret (iv 3) σ R) (
 k1 (()) σ)) (pn R))) (
 og (ibin .eql a0 a2) fun v27 =>
 apick v27 (
 acall TP fn_impl_SymFault [a5] σ (onr (fun v29 σ =>
 aret v29 σ R) (pn R))) (
 k1 (()) σ)))
def x76 : Sx := .jn 7 [] (.ret (Y 0)) (D .eql (Z 5) (Z 4) (P 0 (.call 107 [(Z 2)] (.ret (Z 0))) (D .eql (Z 6) (Z 3) (P 0 (.call 23 [(Z 3), (Y 0), (Y 1)] (Q (.aun .not (Z 0)) (P 0 (.ret (Y 3)) (.jump 0 [])))) (D .eql (Z 7) (Z 5) (P 0 (.call 33 [(Z 3)] (.ret (Z 0))) (.jump 0 [])))))))
theorem x76_ok : okF TT Tryz.f76 6 x76 = true := by decide +kernel
theorem s_impl_kindFault_ok (h : s_impl_kindFault a0 a1 a2 a3 a4 a5 σ R) : acall TP fn_impl_kindFault [a0, a1, a2, a3, a4, a5] σ R :=
 acall_okF (ρ := [a5, a4, a3, a2, a1, a0]) TT_ok Tryz.func76 rfl x76 x76_ok rfl h
def s_impl_isUp (a0 a1 a2 : AV) (σ : AH) (R : AEnd → AH → Prop) : Prop :=
 lp (X := Tup [0, 2, 7]) (fun R1 y1 σ =>
 og (ibin .geq y1.2.2.1 (iv 0)) fun v10 =>
 apick v10 (
 og (ibin .eql y1.2.2.1 y1.2.1) fun v16 =>
 apick v16 (
 aret (.val (.bool true)) σ R) (
 acallv TP y1.1 [y1.2.2.1] σ (onr (fun v13 σ =>
 R1 (y1.1, y1.2.1, v13, ()) σ) (pn R)))) (
 aret (.val (.bool false)) σ R)) (a0, a2, a1, ()) σ
def x77 : Sx := .lp [0, 2, 7] (D .geq (Z 2) (Y 0) (P 0 (D .eql (Z 3) (Z 2) (P 0 (.ret (.lit (.val (.bool true)))) (.callv (Z 2) [(Z 4)] (.jump 0 [(Z 3), (Z 4), (Z 0)])))) (.ret (.lit (.val (.bool false)))))) [(Z 2), (Z 0), (Z 1)]
theorem x77_ok : okF TT Tryz.f77 3 x77 = true := by decide +kernel
theorem s_impl_isUp_ok (h : s_impl_isUp a0 a1 a2 σ R) : acall TP fn_impl_isUp [a0, a1, a2] σ R :=
 acall_okF (ρ := [a2, a1, a0]) TT_ok Tryz.func77 rfl x77 x77_ok rfl h
def s_impl_datumFault_1 (a0 a1 : AV) (σ : AH) (R : AEnd → AH → Prop) : Prop :=
 og (lod a1 σ) fun v4 =>
 og (idx 4 v4 a0 σ) fun v6 =>
 og (fldA 1 v6) fun v7 =>
 og (lod v7 σ) fun v8 =>
 aret v8 σ R
def x78 : Sx := M 0 (J 4 0 2 (Q (F 1 0) (M 0 (.ret (Z 0)))))
theorem x78_ok : okF TT Tryz.f78 2 x78 = true := by decide +kernel
theorem s_impl_datumFault_1_ok (h : s_impl_datumFault_1 a0 a1 σ R) : acall TP fn_impl_datumFault_1 [a0, a1] σ R :=
 acall_okF (ρ := [a1, a0]) TT_ok Tryz.func78 rfl x78 x78_ok rfl h
def s_impl_deep (a0 a1 : AV) (σ : AH) (R : AEnd → AH → Prop) : Prop :=
 lp (X := Tup [0, 1, 5]) (fun R1 y1 σ =>
 og (ibin .geq y1.2.1 (iv 0)) fun v7 =>
 apick v7 (
 og (ibin .add y1.2.2.1 (iv 1)) fun v14 =>
 og (idx 4 y1.1 y1.2.1 σ) fun v10 =>
 og (fldA 1 v10) fun v11 =>
 og (lod v11 σ) fun v12 =>
 R1 (y1.1, v12, v14, ()) σ) (
 aret y1.2.2.1 σ R)) (a0, a1, (iv 0), ()) σ
def x79 : Sx := .lp [0, 1, 5] (D .geq (Z 1) (Y 0) (P 0 (D .add (Z 3) (Y 1) (J 4 2 3 (Q (F 1 0) (M 0 (.jump 0 [(Z 5), (Z 0), (Z 3)]))))) (.ret (Z 3)))) [(Z 1), (Z 0), (Y 0)]
theorem x79_ok : okF TT Tryz.f79 2 x79 = true := by decide +kernel
theorem s_impl_deep_ok (h : s_impl_deep a0 a1 σ R) : acall TP fn_impl_deep [a0, a1] σ R :=
 acall_okF (ρ := [a1, a0]) TT_ok Tryz.func79 rfl x79 x79_ok rfl h
def s_spec_l3Fault (a0 : AV) (σ : AH) (R : AEnd → AH → Prop) : Prop :=
 og (lenS a0) fun v6 =>
 og (ibin .lss v6 (iv 1)) fun v7 =>
 og (gval v7 false false (some a0)) fun v9 =>
 og (gval v7 false false (lenS v9)) fun v10 =>
 og (gval v7 false false (ibin .gtr v10 (iv 80))) fun v11 =>
 og (pickV v7 (.val (.bool true)) v11) fun v12 =>
 apick v12 (
 aret (iv 2) σ R) (
 lp (X := Tup [0, 3]) (fun R1 y1 σ =>
 og (lenS y1.1) fun v15 =>
 og (ibin .lss y1.2.1 v15) fun v16 =>
 apick v16 (
 og (idx 4 y1.1 y1.2.1 σ) fun v21 =>
 acall TP fn_spec_l3Bare [v21] σ (onr (fun v23 σ =>
 og (aun .not v23) fun v24 =>
 apick v24 (
 aret (iv 1) σ R) (
 jn (X := Tup [0, 3, 4, 52]) (fun x2 σ =>
 apick x2.2.2.2.1 (
 aret (iv 3) σ R) (
 jn (X := Tup [0, 3, 4, 65]) (fun x3 σ =>
 apick x3.2.2.2.1 (
 aret (iv 5) σ R) (
 jn (X := Tup [0, 3, 88]) (fun x4 σ =>
 apick x4.2.2.1 (
 aret (iv 3) σ R) (
 jn (X := Tup [0, 3, 96]) (fun x5 σ =>
 apick x5.2.2.1 (
 aret (iv 1) σ R) (
 acall TP fn_spec_l3Deep [x5.1, x5.2.1] σ (onr (fun v99 σ =>
 og (ibin .gtr v99 (iv 12)) fun v100 =>
 apick v100 (
 aret (iv 2) σ R) (
 og (ibin .add x5.2.1 (iv 1)) fun v18 =>
 R1 (x5.1, v18, ()) σ)) (pn R)))) fun k5 =>
 og (ibin .gtr x4.2.1 (iv 0)) fun v90 =>
 og (gval v90 true false (some x4.1)) fun v92 =>
 og (gval v90 true false (some x4.2.1)) fun v93 =>
 gpick v90 (
 acall TP fn_spec_l3Line [v92, v93] σ (onr (fun v94 σ =>
 og (aun .not v94) fun v95 =>
 k5 (x4.1, x4.2.1, v95, ()) σ) (pn R))) (
 k5 (x4.1, x4.2.1, (.val (.bool false)), ()) σ) (False))) fun k4 =>
 og (ibin .eql x3.2.1 (iv 0)) fun v67 =>
 og (gval v67 true false (some x3.2.2.1)) fun v69 =>
 og (gval v67 true false (anil v69)) fun v70 =>
 og (gval v67 true false (fldA 1 v70)) fun v71 =>
 og (gval v67 true false (lod v71 σ)) fun v72 =>
 og (gval v67 true false (ibin .neq v72 (iv (-1)))) fun v73 =>
 og (pickV v67 v73 (.val (.bool false))) fun v74 =>
 og (gval v74 false false (some x3.2.1)) fun v76 =>
 og (gval v74 false false (ibin .gtr v76 (iv 0))) fun v77 =>
 og (gval v74 false false (some v77)) fun v78 =>
 og (gval v78 true true (some x3.2.2.1)) fun v79 =>
 og (gval v78 true true (anil v79)) fun v80 =>
 og (gval v78 true true (fldA 1 v80)) fun v81 =>
 og (gval v78 true true (lod v81 σ)) fun v82 =>
 og (gval v78 true true (some x3.2.1)) fun v83 =>
 og (gval v78 true true (ibin .sub v83 (iv 1))) fun v84 =>
 gpick v78 (
 acall TP fn_spec_l1In [v82, (iv 0), v84] σ (onr (fun v85 σ =>
 og (aun .not v85) fun v86 =>
 og (gval v74 false false (some v86)) fun v87 =>
 og (pickV v74 (.val (.bool true)) v87) fun v88 =>
 k4 (x3.1, x3.2.1, v88, ()) σ) (pn R))) (
 og (gval v74 false false (some (.val (.bool false)))) fun v87 =>
 og (pickV v74 (.val (.bool true)) v87) fun v88 =>
 k4 (x3.1, x3.2.1, v88, ()) σ) (
 og (gval v74 false false (pickV (.tup []) (.tup []) (.val (.bool false)))) fun v87 =>
 og (pickV v74 (.val (.bool true)) v87) fun v88 =>
 k4 (x3.1, x3.2.1, v88, ()) σ))) fun k3 =>
 og (anil x2.2.2.1) fun v54 =>
 og (fldA 0 v54) fun v55 =>
 og (lod v55 σ) fun v56 =>
 og (ibin .eql v56 (iv 3)) fun v57 =>
 og (gval v57 true false (some x2.2.2.1)) fun v59 =>
 og (gval v57 true false (anil v59)) fun v60 =>
 og (gval v57 true false (fldA 3 v60)) fun v61 =>
 og (gval v57 true false (lod v61 σ)) fun v62 =>
 gpick v57 (
 acall TP fn_spec_l2Sym [v62] σ (onr (fun v63 σ =>
 og (aun .not v63) fun v64 =>
 k3 (x2.1, x2.2.1, x2.2.2.1, v64, ()) σ) (pn R))) (
 k3 (x2.1, x2.2.1, x2.2.2.1, (.val (.bool false)), ()) σ) (False))) fun k2 =>
 og (anil v21) fun v26 =>
 og (fldA 0 v26) fun v27 =>
 og (lod v27 σ) fun v28 =>
 og (ibin .eql v28 (iv 1)) fun v29 =>
 og (gval v29 true false (some v21)) fun v31 =>
 og (gval v29 true false (anil v31)) fun v32 =>
 og (gval v29 true false (fldA 2 v32)) fun v33 =>
 og (gval v29 true false (lod v33 σ)) fun v34 =>
 gpick v29 (
 acall TP fn_spec_l1Num [v34] σ (onr (fun v35 σ =>
 og (aun .not v35) fun v36 =>
 og (gval v36 false false (some v21)) fun v39 =>
 og (gval v36 false false (anil v39)) fun v40 =>
 og (gval v36 false false (fldA 0 v40)) fun v41 =>
 og (gval v36 false false (lod v41 σ)) fun v42 =>
 og (gval v36 false false (ibin .eql v42 (iv 2))) fun v43 =>
 og (gval v36 false false (some v43)) fun v44 =>
 og (gval v44 true true (some v21)) fun v45 =>
 og (gval v44 true true (anil v45)) fun v46 =>
 og (gval v44 true true (fldA 2 v46)) fun v47 =>
 og (gval v44 true true (lod v47 σ)) fun v48 =>
 gpick v44 (
 acall TP fn_spec_l1In [v48, (iv 0), (iv 1)] σ (onr (fun v49 σ =>
 og (aun .not v49) fun v50 =>
 og (gval v36 false false (some v50)) fun v51 =>
 og (pickV v36 (.val (.bool true)) v51) fun v52 =>
 k2 (y1.1, y1.2.1, v21, v52, ()) σ) (pn R))) (
 og (gval v36 false false (some (.val (.bool false)))) fun v51 =>
 og (pickV v36 (.val (.bool true)) v51) fun v52 =>
 k2 (y1.1, y1.2.1, v21, v52, ()) σ) (
 og (gval v36 false false (pickV (.tup []) (.tup []) (.val (.bool false)))) fun v51 =>
 og (pickV v36 (.val (.bool true)) v51) fun v52 =>
 k2 (y1.1, y1.2.1, v21, v52, ()) σ)) (pn R))) (
 og (anil v21) fun v40 =>
 og (fldA 0 v40) fun v41 =>
 og (lod v41 σ) fun v42 =>
 og (ibin .eql v42 (iv 2)) fun v43 =>
 og (gval v43 true true (some v21)) fun v45 =>
 og (gval v43 true true (anil v45)) fun v46 =>
 og (gval v43 true true (fldA 2 v46)) fun v47 =>
 og (gval v43 true true (lod v47 σ)) fun v48 =>
 gpick v43 (
 acall TP fn_spec_l1In [v48, (iv 0), (iv 1)] σ (onr (fun v49 σ =>
 og (aun .not v49) fun v50 =>
 k2 (y1.1, y1.2.1, v21, v50, ()) σ) (pn R))) (
 k2 (y1.1, y1.2.1, v21, (.val (.bool false)), ()) σ) (
 og (pickV (.tup []) (.tup []) (.val (.bool false))) fun v51 =>
 k2 (y1.1, y1.2.1, v21, v51, ()) σ)) (False))) (pn R))) (
 aret (iv 0) σ R)) (a0, (iv 0), ()) σ)
def x80 : Sx := O 0 (D .lss (Z 0) (Y 1) (G 0 (.ret (Z 2)) (G 1 (N 0) (G 2 (B .gtr (Z 0) (Y 80)) (Q (.pickV (Z 3) (.lit (.val (.bool true))) (Z 0)) (P 0 (.ret (Y 2)) (.lp [0, 3] (O 0 (D .lss (Z 2) (Z 0) (P 0 (J 4 2 3 (.call 108 [(Z 0)] (Q (.aun .not (Z 0)) (P 0 (.ret (Y 1)) (.jn 14925 [0, 3, 4, 52] (P 3 (.ret (Y 3)) (.jn 29853 [0, 3, 4, 65] (P 3 (.ret (Y 5)) (.jn 59709 [0, 3, 88] (P 2 (.ret (Y 3)) (.jn 119421 [0, 3, 96] (P 2 (.ret (Y 1)) (.call 111 [(Z 0), (Z 1)] (D .gtr (Z 0) (Y 12) (P 0 (.ret (Y 2)) (D .add (Z 3) (Y 1) (.jump 0 [(Z 3), (Z 0)])))))) (D .gtr (Z 1) (Y 0) (H 0 (.ret (Z 1)) (H 1 (.ret (Z 3)) (.gpick (Z 2) (.call 110 [(Z 1), (Z 0)] (Q (.aun .not (Z 0)) (.jump 0 [(Z 5), (Z 6), (Z 0)]))) (.jump 0 [(Z 3), (Z 4), (.lit (.val (.bool false)))]) (.no))))))) (D .eql (Z 1) (Y 0) (H 0 (.ret (Z 3)) (H 1 (A 0) (H 2 (F 1 0) (H 3 (L 0) (H 4 (B .neq (Z 0) (Y (-1))) (Q (.pickV (Z 5) (Z 0) (.lit (.val (.bool false)))) (G 0 (.ret (Z 8)) (G 1 (B .gtr (Z 0) (Y 0)) (G 2 (.ret (Z 0)) (.gog (Z 0) true true (.ret (Z 12)) (.gog (Z 1) true true (A 0) (.gog (Z 2) true true (F 1 0) (.gog (Z 3) true true (L 0) (.gog (Z 4) true true (.ret (Z 15)) (.gog (Z 5) true true (B .sub (Z 0) (Y 1)) (.gpick (Z 6) (.call 26 [(Z 2), (Y 0), (Z 0)] (Q (.aun .not (Z 0)) (G 11 (.ret (Z 0)) (Q (.pickV (Z 12) (.lit (.val (.bool true))) (Z 0)) (.jump 0 [(Z 20), (Z 21), (Z 0)]))))) (G 9 (.ret (.lit (.val (.bool false)))) (Q (.pickV (Z 10) (.lit (.val (.bool true))) (Z 0)) (.jump 0 [(Z 18), (Z 19), (Z 0)]))) (G 9 (.pickV (.lit (.tup [])) (.lit (.tup [])) (.lit (.val (.bool false)))) (Q (.pickV (Z 10) (.lit (.val (.bool true))) (Z 0)) (.jump 0 [(Z 18), (Z 19), (Z 0)])))))))))))))))))))))) (Q (A 2) (Q (F 0 0) (M 0 (D .eql (Z 0) (Y 3) (H 0 (.ret (Z 6)) (H 1 (A 0) (H 2 (F 3 0) (H 3 (L 0) (.gpick (Z 4) (.call 91 [(Z 0)] (Q (.aun .not (Z 0)) (.jump 0 [(Z 10), (Z 11), (Z 12), (Z 0)]))) (.jump 0 [(Z 8), (Z 9), (Z 10), (.lit (.val (.bool false)))]) (.no)))))))))))) (Q (A 2) (Q (F 0 0) (M 0 (D .eql (Z 0) (Y 1) (H 0 (.ret (Z 6)) (H 1 (A 0) (H 2 (F 2 0) (H 3 (L 0) (.gpick (Z 4) (.call 109 [(Z 0)] (Q (.aun .not (Z 0)) (G 0 (.ret (Z 12)) (G 1 (A 0) (G 2 (F 0 0) (G 3 (L 0) (G 4 (B .eql (Z 0) (Y 2)) (G 5 (.ret (Z 0)) (.gog (Z 0) true true (.ret (Z 18)) (.gog (Z 1) true true (A 0) (.gog (Z 2) true true (F 2 0) (.gog (Z 3) true true (L 0) (.gpick (Z 4) (.call 26 [(Z 0), (Y 0), (Y 1)] (Q (.aun .not (Z 0)) (G 12 (.ret (Z 0)) (Q (.pickV (Z 13) (.lit (.val (.bool true))) (Z 0)) (.jump 0 [(Z 29), (Z 30), (Z 26), (Z 0)]))))) (G 10 (.ret (.lit (.val (.bool false)))) (Q (.pickV (Z 11) (.lit (.val (.bool true))) (Z 0)) (.jump 0 [(Z 27), (Z 28), (Z 24), (Z 0)]))) (G 10 (.pickV (.lit (.tup [])) (.lit (.tup [])) (.lit (.val (.bool false)))) (Q (.pickV (Z 11) (.lit (.val (.bool true))) (Z 0)) (.jump 0 [(Z 27), (Z 28), (Z 24), (Z 0)])))))))))))))))) (Q (A 10) (Q (F 0 0) (M 0 (D .eql (Z 0) (Y 2) (.gog (Z 0) true true (.ret (Z 14)) (.gog (Z 1) true true (A 0) (.gog (Z 2) true true (F 2 0) (.gog (Z 3) true true (L 0) (.gpick (Z 4) (.call 26 [(Z 0), (Y 0), (Y 1)] (Q (.aun .not (Z 0)) (.jump 0 [(Z 23), (Z 24), (Z 20), (Z 0)]))) (.jump 0 [(Z 21), (Z 22), (Z 18), (.lit (.val (.bool false)))]) (Q (.pickV (.lit (.tup [])) (.lit (.tup [])) (.lit (.val (.bool false)))) (.jump 0 [(Z 22), (Z 23), (Z 19), (Z 0)]))))))))))) (.no))))))))))))))) (.ret (Y 0))))) [(Z 6), (Y 0)])))))))
theorem x80_ok : okF TT Tryz.f80 1 x80 = true := by decide +kernel
theorem s_spec_l3Fault_ok (h : s_spec_l3Fault a0 σ R) : acall TP fn_spec_l3Fault [a0] σ R :=
 acall_okF (ρ := [a0]) TT_ok Tryz.func80 rfl x80 x80_ok rfl h
def s_spec_l4Expand (a0 a1 a2 a3 : AV) (σ : AH) (R : AEnd → AH → Prop) : Prop :=
 og (anil a0) fun v16 =>
 og (fldA 0 v16) fun v17 =>
 og (lod v17 σ) fun v18 =>
 og (idx 4 v18 a1 σ) fun v20 =>
 og (anil v20) fun v22 =>
 og (fldA 0 v22) fun v23 =>
 og (lod v23 σ) fun v24 =>
 jn (X := Tup [0, 1, 2, 3, 9, 24, 25]) (fun x1 σ =>
 apick x1.2.2.2.2.2.2.1 (
 og (anil x1.1) fun v31 =>
 og (fldA 0 v31) fun v32 =>
 og (lod v32 σ) fun v33 =>
 acall TP fn_spec_l3Sub [v33, x1.2.1] σ (onr (fun v35 σ =>
 og (bld [(iv 0), (iv 0), (iv 0), (iv 0), (str ⟨#[]⟩), nilS] [(0, 1), (1, 1), (2, 1), (3, 1), (4, 1), (5, 1)] [(0, (iv 1)), (1, x1.2.2.1), (5, v35)]) fun v36 =>
 acall TP fn_spec_l4Put [x1.1, v36] σ (onr (fun v37 σ =>
 aret (iv 0) σ R) (pn R))) (pn R))) (
 og (ibin .eql x1.2.2.2.2.2.1 (iv 3)) fun v39 =>
 apick v39 (
 og (anil x1.2.2.2.2.1) fun v41 =>
 og (fldA 3 v41) fun v42 =>
 og (lod v42 σ) fun v43 =>
 acall TP fn_spec_IsKeyword [v43] σ (onr (fun v44 σ =>
 apick v44 (
 aret (iv 1) σ R) (
 og (anil x1.2.2.2.2.1) fun v49 =>
 og (fldA 3 v49) fun v50 =>
 og (lod v50 σ) fun v51 =>
 acall TP fn_spec_l4Find [x1.1, x1.2.2.2.1, v51] σ (onr (fun v52 σ =>
 og (aext v52 0) fun v53 =>
 og (aext v52 1) fun v54 =>
 og (aext v52 2) fun v55 =>
 apick v55 (
 og (bld [(iv 0), (iv 0), (iv 0), (iv 0), (str ⟨#[]⟩), nilS] [(0, 1), (1, 1), (2, 1), (3, 1), (4, 1), (5, 1)] [(0, (iv 2)), (1, x1.2.2.1), (2, v53), (3, v54)]) fun v61 =>
 acall TP fn_spec_l4Put [x1.1, v61] σ (onr (fun v62 σ =>
 aret (iv 0) σ R) (pn R))) (
 og (anil x1.2.2.2.2.1) fun v66 =>
 og (fldA 3 v66) fun v67 =>
 og (lod v67 σ) fun v68 =>
 og (bld [(iv 0), (iv 0), (iv 0), (iv 0), (str ⟨#[]⟩), nilS] [(0, 1), (1, 1), (2, 1), (3, 1), (4, 1), (5, 1)] [(0, (iv 3)), (1, x1.2.2.1), (4, v68)]) fun v69 =>
 acall TP fn_spec_l4Put [x1.1, v69] σ (onr (fun v70 σ =>
 aret (iv 0) σ R) (pn R)))) (pn R)))) (pn R))) (
 og (anil x1.1) fun v72 =>
 og (fldA 0 v72) fun v73 =>
 og (lod v73 σ) fun v74 =>
 acall TP fn_spec_l3Parts [v74, x1.2.1] σ (onr (fun v76 σ =>
 og (lenS v76) fun v78 =>
 og (ibin .eql v78 (iv 0)) fun v79 =>
 apick v79 (
 aret (iv 1) σ R) (
 og (anil x1.1) fun v81 =>
 og (fldA 0 v81) fun v82 =>
 og (lod v82 σ) fun v83 =>
 og (idx 1 v76 (iv 0) σ) fun v85 =>
 og (lod v85 σ) fun v86 =>
 og (idx 4 v83 v86 σ) fun v87 =>
 jn (X := Tup [0, 2, 3, 13, 14, 99]) (fun x2 σ =>
 apick x2.2.2.2.2.2.1 (
 og (anil x2.2.2.2.2.1) fun v102 =>
 og (fldA 3 v102) fun v103 =>
 og (lod v103 σ) fun v104 =>
 acall TP fn_spec_l4Form [x2.1, v104, x2.2.2.2.1, x2.2.1, x2.2.2.1] σ (onr (fun v108 σ =>
 aret v108 σ R) (pn R))) (
 og (lenS x2.2.2.2.1) fun v110 =>
 og (ibin .gtr v110 (iv 4)) fun v111 =>
 apick v111 (
 aret (iv 2) σ R) (
 og (bld [(iv 0), (iv 0), (iv 0), (iv 0), (str ⟨#[]⟩), nilS] [(0, 1), (1, 1), (2, 1), (3, 1), (4, 1), (5, 1)] [(0, (iv 9)), (1, x2.2.1)]) fun v116 =>
 acall TP fn_spec_l4Put [x2.1, v116] σ (onr (fun v117 σ =>
 acall TP fn_spec_l4All [x2.1, x2.2.2.2.1, v117, x2.2.2.1] σ (onr (fun v119 σ =>
 aret v119 σ R) (pn R))) (pn R))))) fun k2 =>
 og (anil v87) fun v89 =>
 og (fldA 0 v89) fun v90 =>
 og (lod v90 σ) fun v91 =>
 og (ibin .eql v91 (iv 3)) fun v92 =>
 og (gval v92 true false (some v87)) fun v94 =>
 og (gval v92 true false (anil v94)) fun v95 =>
 og (gval v92 true false (fldA 3 v95)) fun v96 =>
 og (gval v92 true false (lod v96 σ)) fun v97 =>
 gpick v92 (
 acall TP fn_spec_IsKeyword [v97] σ (onr (fun v98 σ =>
 k2 (x1.1, x1.2.2.1, x1.2.2.2.1, v76, v87, v98, ()) σ) (pn R))) (
 k2 (x1.1, x1.2.2.1, x1.2.2.2.1, v76, v87, (.val (.bool false)), ()) σ) (False))) (pn R))))) fun k1 =>
 og (ibin .eql v24 (iv 1)) fun v26 =>
 apick v26 (
 k1 (a0, a1, a2, a3, v20, v24, v26, ()) σ) (
 og (ibin .eql v24 (iv 2)) fun v27 =>
 k1 (a0, a1, a2, a3, v20, v24, v27, ()) σ)
def x81 : Sx := Q (A 3) (Q (F 0 0) (M 0 (J 4 0 5 (Q (A 0) (Q (F 0 0) (M 0 (.jn 117 [0, 1, 2, 3, 9, 24, 25] (P 6 (Q (A 0) (Q (F 0 0) (M 0 (.call 113 [(Z 0), (Z 4)] (Q (.bld [(iv 0), (iv 0), (iv 0), (iv 0), (str ⟨#[]⟩), nilS] [(0, 1), (1, 1), (2, 1), (3, 1), (4, 1), (5, 1)] [(0, (Y 1)), (1, (Z 6)), (5, (Z 0))]) (.call 112 [(Z 5), (Z 0)] (.ret (Y 0)))))))) (D .eql (Z 5) (Y 3) (P 0 (Q (A 5) (Q (F 3 0) (M 0 (.call 114 [(Z 0)] (P 0 (.ret (Y 1)) (Q (A 9) (Q (F 3 0) (M 0 (.call 115 [(Z 8), (Z 11), (Z 0)] (Q (.aext (Z 0) 0) (Q (.aext (Z 1) 1) (Q (.aext (Z 2) 2) (P 0 (Q (.bld [(iv 0), (iv 0), (iv 0), (iv 0), (str ⟨#[]⟩), nilS] [(0, 1), (1, 1), (2, 1), (3, 1), (4, 1), (5, 1)] [(0, (Y 2)), (1, (Z 14)), (2, (Z 2)), (3, (Z 1))]) (.call 112 [(Z 13), (Z 0)] (.ret (Y 0)))) (Q (A 16) (Q (F 3 0) (M 0 (Q (.bld [(iv 0), (iv 0), (iv 0), (iv 0), (str ⟨#[]⟩), nilS] [(0, 1), (1, 1), (2, 1), (3, 1), (4, 1), (5, 1)] [(0, (Y 3)), (1, (Z 17)), (4, (Z 0))]) (.call 112 [(Z 16), (Z 0)] (.ret (Y 0)))))))))))))))))))) (Q (A 1) (Q (F 0 0) (M 0 (.call 116 [(Z 0), (Z 5)] (O 0 (D .eql (Z 0) (Y 0) (P 0 (.ret (Y 1)) (.ord [0, 1, 2, 3, 4, 5, 6, 7, 8] [0, 1, 3, 7, 0, 16, 48, 127, 255] (Q (A 7) (Q (F 0 0) (M 0 (Q (.idx 1 (Z 5) (Y 0)) (M 0 (J 4 2 0 (.jn 507 [0, 2, 3, 13, 14, 99] (P 5 (Q (A 4) (Q (F 3 0) (M 0 (.call 117 [(Z 3), (Z 0), (Z 6), (Z 4), (Z 5)] (.ret (Z 0)))))) (O 3 (D .gtr (Z 0) (Y 4) (P 0 (.ret (Y 2)) (Q (.bld [(iv 0), (iv 0), (iv 0), (iv 0), (str ⟨#[]⟩), nilS] [(0, 1), (1, 1), (2, 1), (3, 1), (4, 1), (5, 1)] [(0, (Y 9)), (1, (Z 3))]) (.call 112 [(Z 3), (Z 0)] (.call 118 [(Z 4), (Z 7), (Z 0), (Z 6)] (.ret (Z 0))))))))) (Q (A 0) (Q (F 0 0) (M 0 (D .eql (Z 0) (Y 3) (H 0 (.ret (Z 4)) (H 1 (A 0) (H 2 (F 3 0) (H 3 (L 0) (.gpick (Z 4) (.call 114 [(Z 0)] (.jump 0 [(Z 22), (Z 24), (Z 25), (Z 17), (Z 9), (Z 0)])) (.jump 0 [(Z 21), (Z 23), (Z 24), (Z 16), (Z 8), (.lit (.val (.bool false)))]) (.no)))))))))))))))))))))))))))) (D .eql (Z 0) (Y 1) (P 0 (.jump 0 [(Z 11), (Z 10), (Z 9), (Z 8), (Z 4), (Z 1), (Z 0)]) (D .eql (Z 1) (Y 2) (.jump 0 [(Z 12), (Z 11), (Z 10), (Z 9), (Z 5), (Z 2), (Z 0)])))))))))))
theorem x81_ok : okF TT Tryz.f81 4 x81 = true := by decide +kernel
theorem s_spec_l4Expand_ok (h : s_spec_l4Expand a0 a1 a2 a3 σ R) : acall TP fn_spec_l4Expand [a0, a1, a2, a3] σ R :=
 acall_okF (ρ := [a3, a2, a1, a0]) TT_ok Tryz.func81 rfl x81 x81_ok rfl h
def s_spec_l4Source (a0 a1 a2 : AV) (σ : AH) (R : AEnd → AH → Prop) : Prop :=
 jn (X := Tup [0, 1, 2, 14]) (fun x1 σ =>
 apick x1.2.2.2.1 (
 jn (X := Tup [0, 1, 21]) (fun x2 σ =>
 apick x2.2.2.1 (
 og (lenS x2.2.1) fun v25 =>
 acall TP fn_spec_l1Next [x2.1, v25] σ (onr (fun v26 σ =>
 og (idx 1 x2.2.1 v26 σ) fun v27 =>
 og (lod v27 σ) fun v28 =>
 aret v28 σ R) (pn R))) (
 acall TP fn_spec_l1Next [x2.1, (iv 9)] σ (onr (fun v30 σ =>
 acall TP fn_spec_l1Digits [v30] σ (onr (fun v31 σ =>
 acall TP fn_spec_l1Next [x2.1, (iv 99)] σ (onr (fun v33 σ =>
 acall TP fn_spec_l1Digits [v33] σ (onr (fun v34 σ =>
 bsl 1 [(str ⟨#[]⟩)] 9 [(0, v31), (1, (.val (.string ⟨#[35, 116]⟩))), (2, (.val (.string ⟨#[39, 40, 49, 32, 50, 41]⟩))), (3, (.val (.string ⟨#[103]⟩))), (4, (.val (.string ⟨#[104]⟩))), (5, (.val (.string ⟨#[39, 97]⟩))), (6, v34), (7, (.val (.string ⟨#[99, 97, 114]⟩))), (8, (.val (.string ⟨#[43]⟩)))] σ fun v35 σ =>
 acall TP fn_spec_l1Next [x2.1, (iv 9)] σ (onr (fun v37 σ =>
 og (idx 1 v35 v37 σ) fun v38 =>
 og (lod v38 σ) fun v39 =>
 aret v39 σ R) (pn R))) (pn R))) (pn R))) (pn R))) (pn R)))) fun k2 =>
 og (lenS x1.2.1) fun v16 =>
 og (ibin .gtr v16 (iv 0)) fun v17 =>
 og (gval v17 true false (some x1.1)) fun v19 =>
 gpick v17 (
 acall TP fn_spec_l1Chance [v19, (iv 2)] σ (onr (fun v20 σ =>
 k2 (x1.1, x1.2.1, v20, ()) σ) (pn R))) (
 k2 (x1.1, x1.2.1, (.val (.bool false)), ()) σ) (False)) (
 bsl 1 [(str ⟨#[]⟩)] 3 [(0, (.val (.string ⟨#[120]⟩))), (1, (.val (.string ⟨#[121]⟩))), (2, (.val (.string ⟨#[122]⟩)))] σ fun v40 σ =>
 acall TP fn_spec_l1Next [x1.1, (iv 3)] σ (onr (fun v42 σ =>
 og (idx 1 v40 v42 σ) fun v43 =>
 og (lod v43 σ) fun v44 =>
 bsl 1 [(str ⟨#[]⟩)] 0 [] σ fun v45 σ =>
 app 1 v45 x1.2.1 σ fun v47 σ =>
 bsl 1 [(str ⟨#[]⟩)] 1 [(0, v44)] σ fun v49 σ =>
 app 1 v47 v49 σ fun v50 σ =>
 jn (X := Tup [0, 1, 2]) (fun x3 σ =>
 og (bslR 1 [(str ⟨#[]⟩)] 5 [(0, (.val (.string ⟨#[43]⟩))), (1, (.val (.string ⟨#[45]⟩))), (2, (.val (.string ⟨#[42]⟩))), (3, (.val (.string ⟨#[60]⟩))), (4, (.val (.string ⟨#[61]⟩)))]) fun v232 =>
 og (ibin .sub x3.2.2.1 (iv 1)) fun v242 =>
 og (ibin .sub x3.2.2.1 (iv 1)) fun v249 =>
 acall TP fn_spec_l1Next [x3.1, (iv 5)] σ (onr (fun v234 σ =>
 (True) ∧
 og (idx 1 v232 v234 σ) fun v235 =>
 og (lod v235 σ) fun v236 =>
 og (sbin .add (.val (.string ⟨#[40]⟩)) v236) fun v237 =>
 og (sbin .add v237 (.val (.string ⟨#[32]⟩))) fun v238 =>
 acall TP fn_spec_l4Source [x3.1, x3.2.1, v242] σ (onr (fun v243 σ =>
 (lod v235 σ = some v236 ∧ idx 1 v232 v234 σ = some v235 ∧ True) ∧
 og (sbin .add v238 v243) fun v244 =>
 og (sbin .add v244 (.val (.string ⟨#[32]⟩))) fun v245 =>
 acall TP fn_spec_l4Source [x3.1, x3.2.1, v249] σ (onr (fun v250 σ =>
 (lod v235 σ = some v236 ∧ idx 1 v232 v234 σ = some v235 ∧ True) ∧
 og (sbin .add v245 v250) fun v251 =>
 og (sbin .add v251 (.val (.string ⟨#[41]⟩))) fun v252 =>
 aret v252 σ R) (pn R))) (pn R))) (pn R))) fun k3 =>
 acall TP fn_spec_l1Next [x1.1, (iv 12)] σ (onr (fun v52 σ =>
 og (ibin .eql v52 (iv 0)) fun v54 =>
 apick v54 (
 og (ibin .sub x1.2.2.1 (iv 1)) fun v58 =>
 acall TP fn_spec_l4Source [x1.1, x1.2.1, v58] σ (onr (fun v59 σ =>
 og (sbin .add (.val (.string ⟨#[40, 105, 102, 32]⟩)) v59) fun v60 =>
 og (sbin .add v60 (.val (.string ⟨#[32]⟩))) fun v61 =>
 og (ibin .sub x1.2.2.1 (iv 1)) fun v65 =>
 acall TP fn_spec_l4Source [x1.1, x1.2.1, v65] σ (onr (fun v66 σ =>
 og (sbin .add v61 v66) fun v67 =>
 og (sbin .add v67 (.val (.string ⟨#[32]⟩))) fun v68 =>
 og (ibin .sub x1.2.2.1 (iv 1)) fun v72 =>
 acall TP fn_spec_l4Source [x1.1, x1.2.1, v72] σ (onr (fun v73 σ =>
 og (sbin .add v68 v73) fun v74 =>
 og (sbin .add v74 (.val (.string ⟨#[41]⟩))) fun v75 =>
 aret v75 σ R) (pn R))) (pn R))) (pn R))) (
 og (ibin .eql v52 (iv 1)) fun v77 =>
 apick v77 (
 og (sbin .add (.val (.string ⟨#[40, 108, 97, 109, 98, 100, 97, 32, 40]⟩)) v44) fun v79 =>
 og (sbin .add v79 (.val (.string ⟨#[41, 32]⟩))) fun v80 =>
 og (ibin .sub x1.2.2.1 (iv 1)) fun v84 =>
 acall TP fn_spec_l4Source [x1.1, v50, v84] σ (onr (fun v85 σ =>
 og (sbin .add v80 v85) fun v86 =>
 og (sbin .add v86 (.val (.string ⟨#[41]⟩))) fun v87 =>
 aret v87 σ R) (pn R))) (
 jn (X := Tup [0, 1, 2, 7, 8, 52, 88]) (fun x4 σ =>
 apick x4.2.2.2.2.2.2.1 (
 og (sbin .add (.val (.string ⟨#[40, 108, 101, 116, 32, 40, 40]⟩)) x4.2.2.2.1) fun v92 =>
 og (sbin .add v92 (.val (.string ⟨#[32]⟩))) fun v93 =>
 og (ibin .sub x4.2.2.1 (iv 1)) fun v97 =>
 acall TP fn_spec_l4Source [x4.1, x4.2.1, v97] σ (onr (fun v98 σ =>
 og (sbin .add v93 v98) fun v99 =>
 og (sbin .add v99 (.val (.string ⟨#[41, 41, 32]⟩))) fun v100 =>
 og (ibin .sub x4.2.2.1 (iv 1)) fun v104 =>
 acall TP fn_spec_l4Source [x4.1, x4.2.2.2.2.1, v104] σ (onr (fun v105 σ =>
 og (sbin .add v100 v105) fun v106 =>
 og (sbin .add v106 (.val (.string ⟨#[41]⟩))) fun v107 =>
 aret v107 σ R) (pn R))) (pn R))) (
 og (ibin .eql x4.2.2.2.2.2.1 (iv 4)) fun v109 =>
 apick v109 (
 og (ibin .sub x4.2.2.1 (iv 1)) fun v113 =>
 acall TP fn_spec_l4Source [x4.1, x4.2.1, v113] σ (onr (fun v114 σ =>
 og (sbin .add (.val (.string ⟨#[40, 98, 101, 103, 105, 110, 32]⟩)) v114) fun v115 =>
 og (sbin .add v115 (.val (.string ⟨#[32]⟩))) fun v116 =>
 og (ibin .sub x4.2.2.1 (iv 1)) fun v120 =>
 acall TP fn_spec_l4Source [x4.1, x4.2.1, v120] σ (onr (fun v121 σ =>
 og (sbin .add v116 v121) fun v122 =>
 og (sbin .add v122 (.val (.string ⟨#[41]⟩))) fun v123 =>
 aret v123 σ R) (pn R))) (pn R))) (
 og (ibin .eql x4.2.2.2.2.2.1 (iv 5)) fun v125 =>
 apick v125 (
 og (sbin .add (.val (.string ⟨#[40, 40, 108, 97, 109, 98, 100, 97, 32, 40]⟩)) x4.2.2.2.1) fun v127 =>
 og (sbin .add v127 (.val (.string ⟨#[41, 32]⟩))) fun v128 =>
 og (ibin .sub x4.2.2.1 (iv 1)) fun v132 =>
 acall TP fn_spec_l4Source [x4.1, x4.2.2.2.2.1, v132] σ (onr (fun v133 σ =>
 og (sbin .add v128 v133) fun v134 =>
 og (sbin .add v134 (.val (.string ⟨#[41, 32]⟩))) fun v135 =>
 og (ibin .sub x4.2.2.1 (iv 1)) fun v139 =>
 acall TP fn_spec_l4Source [x4.1, x4.2.1, v139] σ (onr (fun v140 σ =>
 og (sbin .add v135 v140) fun v141 =>
 og (sbin .add v141 (.val (.string ⟨#[41]⟩))) fun v142 =>
 aret v142 σ R) (pn R))) (pn R))) (
 og (ibin .eql x4.2.2.2.2.2.1 (iv 6)) fun v144 =>
 apick v144 (
 og (bslR 1 [(str ⟨#[]⟩)] 2 [(0, (.val (.string ⟨#[103]⟩))), (1, (.val (.string ⟨#[104]⟩)))]) fun v145 =>
 og (ibin .sub x4.2.2.1 (iv 1)) fun v155 =>
 acall TP fn_spec_l1Next [x4.1, (iv 2)] σ (onr (fun v147 σ =>
 (True) ∧
 og (idx 1 v145 v147 σ) fun v148 =>
 og (lod v148 σ) fun v149 =>
 og (sbin .add (.val (.string ⟨#[40, 115, 101, 116, 33, 32]⟩)) v149) fun v150 =>
 og (sbin .add v150 (.val (.string ⟨#[32]⟩))) fun v151 =>
 acall TP fn_spec_l4Source [x4.1, x4.2.1, v155] σ (onr (fun v156 σ =>
 (lod v148 σ = some v149 ∧ idx 1 v145 v147 σ = some v148 ∧ True) ∧
 og (sbin .add v151 v156) fun v157 =>
 og (sbin .add v157 (.val (.string ⟨#[41]⟩))) fun v158 =>
 aret v158 σ R) (pn R))) (pn R))) (
 og (ibin .eql x4.2.2.2.2.2.1 (iv 7)) fun v160 =>
 apick v160 (
 bsl 1 [(str ⟨#[]⟩)] 0 [] σ fun v162 σ =>
 app 1 v162 x4.2.1 σ fun v164 σ =>
 bsl 1 [(str ⟨#[]⟩)] 1 [(0, (.val (.string ⟨#[107]⟩)))] σ fun v165 σ =>
 app 1 v164 v165 σ fun v166 σ =>
 og (ibin .sub x4.2.2.1 (iv 1)) fun v168 =>
 acall TP fn_spec_l4Source [x4.1, v166, v168] σ (onr (fun v169 σ =>
 og (sbin .add (.val (.string ⟨#[40, 99, 97, 108, 108, 47, 99, 99, 32, 40, 108, 97, 109, 98, 100, 97, 32, 40, 107, 41, 32]⟩)) v169) fun v170 =>
 og (sbin .add v170 (.val (.string ⟨#[41, 41]⟩))) fun v171 =>
 aret v171 σ R) (pn R))) (
 og (ibin .eql x4.2.2.2.2.2.1 (iv 8)) fun v173 =>
 apick v173 (
 og (bslR 1 [(str ⟨#[]⟩)] 5 [(0, (.val (.string ⟨#[99, 97, 114]⟩))), (1, (.val (.string ⟨#[99, 100, 114]⟩))), (2, (.val (.string ⟨#[110, 117, 108, 108, 63]⟩))), (3, (.val (.string ⟨#[112, 97, 105, 114, 63]⟩))), (4, (.val (.string ⟨#[110, 111, 116]⟩)))]) fun v174 =>
 og (ibin .sub x4.2.2.1 (iv 1)) fun v184 =>
 acall TP fn_spec_l1Next [x4.1, (iv 5)] σ (onr (fun v176 σ =>
 (True) ∧
 og (idx 1 v174 v176 σ) fun v177 =>
 og (lod v177 σ) fun v178 =>
 og (sbin .add (.val (.string ⟨#[40]⟩)) v178) fun v179 =>
 og (sbin .add v179 (.val (.string ⟨#[32]⟩))) fun v180 =>
 acall TP fn_spec_l4Source [x4.1, x4.2.1, v184] σ (onr (fun v185 σ =>
 (lod v177 σ = some v178 ∧ idx 1 v174 v176 σ = some v177 ∧ True) ∧
 og (sbin .add v180 v185) fun v186 =>
 og (sbin .add v186 (.val (.string ⟨#[41]⟩))) fun v187 =>
 aret v187 σ R) (pn R))) (pn R))) (
 og (ibin .eql x4.2.2.2.2.2.1 (iv 9)) fun v189 =>
 apick v189 (
 og (bslR 1 [(str ⟨#[]⟩)] 3 [(0, (.val (.string ⟨#[99, 111, 110, 115]⟩))), (1, (.val (.string ⟨#[108, 105, 115, 116]⟩))), (2, (.val (.string ⟨#[101, 113, 63]⟩)))]) fun v190 =>
 og (ibin .sub x4.2.2.1 (iv 1)) fun v200 =>
 og (ibin .sub x4.2.2.1 (iv 1)) fun v207 =>
 acall TP fn_spec_l1Next [x4.1, (iv 3)] σ (onr (fun v192 σ =>
 (True) ∧
 og (idx 1 v190 v192 σ) fun v193 =>
 og (lod v193 σ) fun v194 =>
 og (sbin .add (.val (.string ⟨#[40]⟩)) v194) fun v195 =>
 og (sbin .add v195 (.val (.string ⟨#[32]⟩))) fun v196 =>
 acall TP fn_spec_l4Source [x4.1, x4.2.1, v200] σ (onr (fun v201 σ =>
 (lod v193 σ = some v194 ∧ idx 1 v190 v192 σ = some v193 ∧ True) ∧
 og (sbin .add v196 v201) fun v202 =>
 og (sbin .add v202 (.val (.string ⟨#[32]⟩))) fun v203 =>
 acall TP fn_spec_l4Source [x4.1, x4.2.1, v207] σ (onr (fun v208 σ =>
 (lod v193 σ = some v194 ∧ idx 1 v190 v192 σ = some v193 ∧ True) ∧
 og (sbin .add v203 v208) fun v209 =>
 og (sbin .add v209 (.val (.string ⟨#[41]⟩))) fun v210 =>
 aret v210 σ R) (pn R))) (pn R))) (pn R))) (
 og (ibin .eql x4.2.2.2.2.2.1 (iv 10)) fun v212 =>
 apick v212 (
 og (lenS x4.2.1) fun v214 =>
 og (ibin .gtr v214 (iv 0)) fun v215 =>
 apick v215 (
 og (lenS x4.2.1) fun v219 =>
 og (ibin .sub x4.2.2.1 (iv 1)) fun v228 =>
 acall TP fn_spec_l1Next [x4.1, v219] σ (onr (fun v220 σ =>
 (True) ∧
 og (idx 1 x4.2.1 v220 σ) fun v221 =>
 og (lod v221 σ) fun v222 =>
 og (sbin .add (.val (.string ⟨#[40]⟩)) v222) fun v223 =>
 og (sbin .add v223 (.val (.string ⟨#[32]⟩))) fun v224 =>
 acall TP fn_spec_l4Source [x4.1, x4.2.1, v228] σ (onr (fun v229 σ =>
 (lod v221 σ = some v222 ∧ idx 1 x4.2.1 v220 σ = some v221 ∧ True) ∧
 og (sbin .add v224 v229) fun v230 =>
 og (sbin .add v230 (.val (.string ⟨#[41]⟩))) fun v231 =>
 aret v231 σ R) (pn R))) (pn R))) (
 k3 (x4.1, x4.2.1, x4.2.2.1, ()) σ)) (
 k3 (x4.1, x4.2.1, x4.2.2.1, ()) σ))))))))) fun k4 =>
 og (ibin .eql v52 (iv 2)) fun v89 =>
 apick v89 (
 k4 (x1.1, x1.2.1, x1.2.2.1, v44, v50, v52, v89, ()) σ) (
 og (ibin .eql v52 (iv 3)) fun v90 =>
 k4 (x1.1, x1.2.1, x1.2.2.1, v44, v50, v52, v90, ()) σ)))) (pn R))) (pn R)))) fun k1 =>
 og (ibin .leq a2 (iv 0)) fun v10 =>
 og (gval v10 false false (some a0)) fun v12 =>
 gpick v10 (
 k1 (a0, a1, a2, (.val (.bool true)), ()) σ) (
 acall TP fn_spec_l1Chance [v12, (iv 4)] σ (onr (fun v13 σ =>
 k1 (a0, a1, a2, v13, ()) σ) (pn R))) (False)
def x82 : Sx := .jn 13 [0, 1, 2, 14] (P 3 (.jn 105 [0, 1, 21] (P 2 (O 1 (.call 17 [(Z 1), (Z 0)] (J 1 3 0 (M 0 (.ret (Z 0)))))) (.call 17 [(Z 0), (Y 9)] (.call 119 [(Z 0)] (.call 17 [(Z 2), (Y 99)] (.call 119 [(Z 0)] (.bsl 1 [(str ⟨#[]⟩)] 9 [(0, (Z 2)), (1, (.lit (.val (.string ⟨#[35, 116]⟩)))), (2, (.lit (.val (.string ⟨#[39, 40, 49, 32, 50, 41]⟩)))), (3, (.lit (.val (.string ⟨#[103]⟩)))), (4, (.lit (.val (.string ⟨#[104]⟩)))), (5, (.lit (.val (.string ⟨#[39, 97]⟩)))), (6, (Z 0)), (7, (.lit (.val (.string ⟨#[99, 97, 114]⟩)))), (8, (.lit (.val (.string ⟨#[43]⟩))))] (.call 17 [(Z 5), (Y 9)] (J 1 1 0 (M 0 (.ret (Z 0))))))))))) (O 1 (D .gtr (Z 0) (Y 0) (H 0 (.ret (Z 2)) (.gpick (Z 1) (.call 83 [(Z 0), (Y 2)] (.jump 0 [(Z 4), (Z 5), (Z 0)])) (.jump 0 [(Z 3), (Z 4), (.lit (.val (.bool false)))]) (.no)))))) (.bsl 1 [(str ⟨#[]⟩)] 3 [(0, (.lit (.val (.string ⟨#[120]⟩)))), (1, (.lit (.val (.string ⟨#[121]⟩)))), (2, (.lit (.val (.string ⟨#[122]⟩))))] (.call 17 [(Z 1), (Y 3)] (J 1 1 0 (M 0 (.bsl 1 [(str ⟨#[]⟩)] 0 [] (.app 1 (Z 0) (Z 6) (.bsl 1 [(str ⟨#[]⟩)] 1 [(0, (Z 2))] (.app 1 (Z 1) (Z 0) (.jn 63 [0, 1, 2] (.ord [0, 1, 7, 8, 9, 10, 14, 15, 16, 17, 2, 3, 4, 5, 6, 11, 12, 13, 18, 19, 20, 21] [0, 0, 2, 7, 15, 31, 63, 0, 0, 0, 512, 1926, 4095, 8191, 0, 0, 0, 65536, 249734, 524287, 1048575, 2097151] (Q (.bslR 1 [(str ⟨#[]⟩)] 5 [(0, (.lit (.val (.string ⟨#[43]⟩)))), (1, (.lit (.val (.string ⟨#[45]⟩)))), (2, (.lit (.val (.string ⟨#[42]⟩)))), (3, (.lit (.val (.string ⟨#[60]⟩)))), (4, (.lit (.val (.string ⟨#[61]⟩))))]) (D .sub (Z 3) (Y 1) (D .sub (Z 4) (Y 1) (.call 17 [(Z 3), (Y 5)] (.wat [] (J 1 3 0 (M 0 (Q (.sbin .add (.lit (.val (.string ⟨#[40]⟩))) (Z 0)) (Q (.sbin .add (Z 0) (.lit (.val (.string ⟨#[32]⟩)))) (.call 82 [(Z 8), (Z 9), (Z 6)] (.wat [⟨none, (.lod (Z 4)), (Z 3)⟩, ⟨none, (.idx 1 (Z 8) (Z 5)), (Z 4)⟩] (Q (.sbin .add (Z 1) (Z 0)) (Q (.sbin .add (Z 0) (.lit (.val (.string ⟨#[32]⟩)))) (.call 82 [(Z 11), (Z 12), (Z 8)] (.wat [⟨none, (.lod (Z 7)), (Z 6)⟩, ⟨none, (.idx 1 (Z 11) (Z 8)), (Z 7)⟩] (Q (.sbin .add (Z 1) (Z 0)) (Q (.sbin .add (Z 0) (.lit (.val (.string ⟨#[41]⟩)))) (.ret (Z 0)))))))))))))))))))) (.call 17 [(Z 8), (Y 12)] (D .eql (Z 0) (Y 0) (P 0 (D .sub (Z 12) (Y 1) (.call 82 [(Z 11), (Z 12), (Z 0)] (Q (.sbin .add (.lit (.val (.string ⟨#[40, 105, 102, 32]⟩))) (Z 0)) (Q (.sbin .add (Z 0) (.lit (.val (.string ⟨#[32]⟩)))) (D .sub (Z 16) (Y 1) (.call 82 [(Z 15), (Z 16), (Z 0)] (Q (.sbin .add (Z 2) (Z 0)) (Q (.sbin .add (Z 0) (.lit (.val (.string ⟨#[32]⟩)))) (D .sub (Z 20) (Y 1) (.call 82 [(Z 19), (Z 20), (Z 0)] (Q (.sbin .add (Z 2) (Z 0)) (Q (.sbin .add (Z 0) (.lit (.val (.string ⟨#[41]⟩)))) (.ret (Z 0)))))))))))))) (D .eql (Z 1) (Y 1) (P 0 (Q (.sbin .add (.lit (.val (.string ⟨#[40, 108, 97, 109, 98, 100, 97, 32, 40]⟩))) (Z 7)) (Q (.sbin .add (Z 0) (.lit (.val (.string ⟨#[41, 32]⟩)))) (D .sub (Z 15) (Y 1) (.call 82 [(Z 14), (Z 6), (Z 0)] (Q (.sbin .add (Z 2) (Z 0)) (Q (.sbin .add (Z 0) (.lit (.val (.string ⟨#[41]⟩)))) (.ret (Z 0)))))))) (.jn 8031 [0, 1, 2, 7, 8, 52, 88] (P 6 (Q (.sbin .add (.lit (.val (.string ⟨#[40, 108, 101, 116, 32, 40, 40]⟩))) (Z 3)) (Q (.sbin .add (Z 0) (.lit (.val (.string ⟨#[32]⟩)))) (D .sub (Z 4) (Y 1) (.call 82 [(Z 3), (Z 4), (Z 0)] (Q (.sbin .add (Z 2) (Z 0)) (Q (.sbin .add (Z 0) (.lit (.val (.string ⟨#[41, 41, 32]⟩)))) (D .sub (Z 8) (Y 1) (.call 82 [(Z 7), (Z 11), (Z 0)] (Q (.sbin .add (Z 2) (Z 0)) (Q (.sbin .add (Z 0) (.lit (.val (.string ⟨#[41]⟩)))) (.ret (Z 0)))))))))))) (D .eql (Z 5) (Y 4) (P 0 (D .sub (Z 3) (Y 1) (.call 82 [(Z 2), (Z 3), (Z 0)] (Q (.sbin .add (.lit (.val (.string ⟨#[40, 98, 101, 103, 105, 110, 32]⟩))) (Z 0)) (Q (.sbin .add (Z 0) (.lit (.val (.string ⟨#[32]⟩)))) (D .sub (Z 7) (Y 1) (.call 82 [(Z 6), (Z 7), (Z 0)] (Q (.sbin .add (Z 2) (Z 0)) (Q (.sbin .add (Z 0) (.lit (.val (.string ⟨#[41]⟩)))) (.ret (Z 0)))))))))) (D .eql (Z 6) (Y 5) (P 0 (Q (.sbin .add (.lit (.val (.string ⟨#[40, 40, 108, 97, 109, 98, 100, 97, 32, 40]⟩))) (Z 5)) (Q (.sbin .add (Z 0) (.lit (.val (.string ⟨#[41, 32]⟩)))) (D .sub (Z 6) (Y 1) (.call 82 [(Z 5), (Z 9), (Z 0)] (Q (.sbin .add (Z 2) (Z 0)) (Q (.sbin .add (Z 0) (.lit (.val (.string ⟨#[41, 32]⟩)))) (D .sub (Z 10) (Y 1) (.call 82 [(Z 9), (Z 10), (Z 0)] (Q (.sbin .add (Z 2) (Z 0)) (Q (.sbin .add (Z 0) (.lit (.val (.string ⟨#[41]⟩)))) (.ret (Z 0)))))))))))) (D .eql (Z 7) (Y 6) (P 0 (.ord [0, 1, 7, 8, 9, 10, 2, 3, 4, 5, 6, 11, 12, 13, 14] [0, 0, 2, 7, 15, 31, 63, 0, 0, 0, 512, 1926, 4095, 8191, 16383] (Q (.bslR 1 [(str ⟨#[]⟩)] 2 [(0, (.lit (.val (.string ⟨#[103]⟩)))), (1, (.lit (.val (.string ⟨#[104]⟩))))]) (D .sub (Z 6) (Y 1) (.call 17 [(Z 5), (Y 2)] (.wat [] (J 1 2 0 (M 0 (Q (.sbin .add (.lit (.val (.string ⟨#[40, 115, 101, 116, 33, 32]⟩))) (Z 0)) (Q (.sbin .add (Z 0) (.lit (.val (.string ⟨#[32]⟩)))) (.call 82 [(Z 10), (Z 11), (Z 5)] (.wat [⟨none, (.lod (Z 4)), (Z 3)⟩, ⟨none, (.idx 1 (Z 7) (Z 5)), (Z 4)⟩] (Q (.sbin .add (Z 1) (Z 0)) (Q (.sbin .add (Z 0) (.lit (.val (.string ⟨#[41]⟩)))) (.ret (Z 0))))))))))))))) (D .eql (Z 8) (Y 7) (P 0 (.bsl 1 [(str ⟨#[]⟩)] 0 [] (.app 1 (Z 0) (Z 6) (.bsl 1 [(str ⟨#[]⟩)] 1 [(0, (.lit (.val (.string ⟨#[107]⟩))))] (.app 1 (Z 1) (Z 0) (D .sub (Z 10) (Y 1) (.call 82 [(Z 9), (Z 1), (Z 0)] (Q (.sbin .add (.lit (.val (.string ⟨#[40, 99, 97, 108, 108, 47, 99, 99, 32, 40, 108, 97, 109, 98, 100, 97, 32, 40, 107, 41, 32]⟩))) (Z 0)) (Q (.sbin .add (Z 0) (.lit (.val (.string ⟨#[41, 41]⟩)))) (.ret (Z 0)))))))))) (D .eql (Z 9) (Y 8) (P 0 (.ord [0, 1, 7, 8, 9, 10, 2, 3, 4, 5, 6, 11, 12, 13, 14] [0, 0, 2, 7, 15, 31, 63, 0, 0, 0, 512, 1926, 4095, 8191, 16383] (Q (.bslR 1 [(str ⟨#[]⟩)] 5 [(0, (.lit (.val (.string ⟨#[99, 97, 114]⟩)))), (1, (.lit (.val (.string ⟨#[99, 100, 114]⟩)))), (2, (.lit (.val (.string ⟨#[110, 117, 108, 108, 63]⟩)))), (3, (.lit (.val (.string ⟨#[112, 97, 105, 114, 63]⟩)))), (4, (.lit (.val (.string ⟨#[110, 111, 116]⟩))))]) (D .sub (Z 8) (Y 1) (.call 17 [(Z 7), (Y 5)] (.wat [] (J 1 2 0 (M 0 (Q (.sbin .add (.lit (.val (.string ⟨#[40]⟩))) (Z 0)) (Q (.sbin .add (Z 0) (.lit (.val (.string ⟨#[32]⟩)))) (.call 82 [(Z 12), (Z 13), (Z 5)] (.wat [⟨none, (.lod (Z 4)), (Z 3)⟩, ⟨none, (.idx 1 (Z 7) (Z 5)), (Z 4)⟩] (Q (.sbin .add (Z 1) (Z 0)) (Q (.sbin .add (Z 0) (.lit (.val (.string ⟨#[41]⟩)))) (.ret (Z 0))))))))))))))) (D .eql (Z 10) (Y 9) (P 0 (.ord [0, 1, 7, 8, 9, 10, 14, 15, 16, 17, 2, 3, 4, 5, 6, 11, 12, 13, 18, 19, 20, 21] [0, 0, 2, 7, 15, 31, 63, 0, 0, 0, 512, 1926, 4095, 8191, 0, 0, 0, 65536, 249734, 524287, 1048575, 2097151] (Q (.bslR 1 [(str ⟨#[]⟩)] 3 [(0, (.lit (.val (.string ⟨#[99, 111, 110, 115]⟩)))), (1, (.lit (.val (.string ⟨#[108, 105, 115, 116]⟩)))), (2, (.lit (.val (.string ⟨#[101, 113, 63]⟩))))]) (D .sub (Z 9) (Y 1) (D .sub (Z 10) (Y 1) (.call 17 [(Z 9), (Y 3)] (.wat [] (J 1 3 0 (M 0 (Q (.sbin .add (.lit (.val (.string ⟨#[40]⟩))) (Z 0)) (Q (.sbin .add (Z 0) (.lit (.val (.string ⟨#[32]⟩)))) (.call 82 [(Z 14), (Z 15), (Z 6)] (.wat [⟨none, (.lod (Z 4)), (Z 3)⟩, ⟨none, (.idx 1 (Z 8) (Z 5)), (Z 4)⟩] (Q (.sbin .add (Z 1) (Z 0)) (Q (.sbin .add (Z 0) (.lit (.val (.string ⟨#[32]⟩)))) (.call 82 [(Z 17), (Z 18), (Z 8)] (.wat [⟨none, (.lod (Z 7)), (Z 6)⟩, ⟨none, (.idx 1 (Z 11) (Z 8)), (Z 7)⟩] (Q (.sbin .add (Z 1) (Z 0)) (Q (.sbin .add (Z 0) (.lit (.val (.string ⟨#[41]⟩)))) (.ret (Z 0)))))))))))))))))))) (D .eql (Z 11) (Y 10) (P 0 (O 8 (D .gtr (Z 0) (Y 0) (P 0 (.ord [0, 1, 2, 3, 9, 10, 11, 12, 4, 5, 6, 7, 8, 13, 14, 15, 16] [0, 0, 0, 4, 14, 31, 63, 127, 255, 0, 0, 0, 2048, 7710, 16383, 32767, 65535] (O 10 (D .sub (Z 12) (Y 1) (.call 17 [(Z 11), (Z 1)] (.wat [] (J 1 13 0 (M 0 (Q (.sbin .add (.lit (.val (.string ⟨#[40]⟩))) (Z 0)) (Q (.sbin .add (Z 0) (.lit (.val (.string ⟨#[32]⟩)))) (.call 82 [(Z 16), (Z 17), (Z 5)] (.wat [⟨none, (.lod (Z 4)), (Z 3)⟩, ⟨none, (.idx 1 (Z 18) (Z 5)), (Z 4)⟩] (Q (.sbin .add (Z 1) (Z 0)) (Q (.sbin .add (Z 0) (.lit (.val (.string ⟨#[41]⟩)))) (.ret (Z 0))))))))))))))) (.jump 0 [(Z 9), (Z 10), (Z 11)])))) (.jump 0 [(Z 7), (Z 8), (Z 9)])))))))))))))))) (D .eql (Z 2) (Y 2) (P 0 (.jump 0 [(Z 12), (Z 13), (Z 14), (Z 8), (Z 4), (Z 3), (Z 0)]) (D .eql (Z 3) (Y 3) (.jump 0 [(Z 13), (Z 14), (Z 15), (Z 9), (Z 5), (Z 4), (Z 0)])))))))))))))))))))) (D .leq (Z 0) (Y 0) (G 0 (.ret (Z 3)) (.gpick (Z 1) (.jump 0 [(Z 4), (Z 3), (Z 2), (.lit (.val (.bool true)))]) (.call 83 [(Z 0), (Y 4)] (.jump 0 [(Z 5), (Z 4), (Z 3), (Z 0)])) (.no))))
theorem x82_ok : okF TT Tryz.f82 3 x82 = true := by decide +kernel
theorem s_spec_l4Source_ok (h : s_spec_l4Source a0 a1 a2 σ R) : acall TP fn_spec_l4Source [a0, a1, a2] σ R :=
 acall_okF (ρ := [a2, a1, a0]) TT_ok Tryz.func82 rfl x82 x82_ok rfl h
def s_spec_l1Chance (a0 a1 : AV) (σ : AH) (R : AEnd → AH → Prop) : Prop :=
 acall TP fn_spec_l1Next [a0, a1] σ (onr (fun v7 σ =>
 og (ibin .eql v7 (iv 0)) fun v8 =>
 aret v8 σ R) (pn R))
def x83 : Sx := .call 17 [(Z 1), (Z 0)] (D .eql (Z 0) (Y 0) (.ret (Z 0)))
theorem x83_ok : okF TT Tryz.f83 2 x83 = true := by decide +kernel
theorem s_spec_l1Chance_ok (h : s_spec_l1Chance a0 a1 σ R) : acall TP fn_spec_l1Chance [a0, a1] σ R :=
 acall_okF (ρ := [a1, a0]) TT_ok Tryz.func83 rfl x83 x83_ok rfl h
def s_spec_ReadData (a0 : AV) (σ : AH) (R : AEnd → AH → Prop) : Prop :=
 new [(iv 0), (iv 0), nilS] σ fun v2 σ =>
 acall TP fn_spec_TokensOf [a0] σ (onr (fun v8 σ =>
 new [(iv 0), (iv 0), nilS] σ fun v3 σ =>
 sto 3 v3 v8 σ fun σ =>
 frz v3 σ fun f3 σ =>
 og (fldA 0 f3) fun v9 =>
 og (lod v9 σ) fun v10 =>
 og (ibin .neq v10 (iv 0)) fun v11 =>
 apick v11 (
 og (fldA 0 f3) fun v12 =>
 og (lod v12 σ) fun v13 =>
 og (fldA 1 f3) fun v14 =>
 og (lod v14 σ) fun v15 =>
 og (bld [(iv 0), (iv 0), nilS] [(0, 1), (1, 1), (2, 1)] [(0, v13), (1, v15)]) fun v16 =>
 sto 3 v2 v16 σ fun σ =>
 og (lodA 3 v2 σ) fun r2 =>
 aret r2 σ R) (
 og (fldA 2 f3) fun v18 =>
 og (lod v18 σ) fun v19 =>
 acall TP fn_spec_l3Read [v19] σ (onr (fun v20 σ =>
 og (aext v20 0) fun v21 =>
 og (aext v20 1) fun v22 =>
 og (aext v20 2) fun v23 =>
 og (bld [(iv 0), (iv 0), nilS] [(0, 1), (1, 1), (2, 1)] [(0, v22), (1, v23), (2, v21)]) fun v27 =>
 sto 3 v2 v27 σ fun σ =>
 og (lodA 3 v2 σ) fun r2 =>
 aret r2 σ R) (pn R)))) (pn R))
def x84 : Sx := .new [(iv 0), (iv 0), nilS] (.call 120 [(Z 1)] (.new [(iv 0), (iv 0), nilS] (.sto 3 (Z 0) (Z 1) (.frz 3 (Z 0) (Q (F 0 0) (M 0 (D .neq (Z 0) (Y 0) (P 0 (Q (F 0 3) (M 0 (Q (F 1 5) (M 0 (Q (.bld [(iv 0), (iv 0), nilS] [(0, 1), (1, 1), (2, 1)] [(0, (Z 2)), (1, (Z 0))]) (.sto 3 (Z 11) (Z 0) (Q (.lodA 3 (Z 11)) (.ret (Z 0))))))))) (Q (F 2 3) (M 0 (.call 121 [(Z 0)] (Q (.aext (Z 0) 0) (Q (.aext (Z 1) 1) (Q (.aext (Z 2) 2) (Q (.bld [(iv 0), (iv 0), nilS] [(0, 1), (1, 1), (2, 1)] [(0, (Z 1)), (1, (Z 0)), (2, (Z 2))]) (.sto 3 (Z 13) (Z 0) (Q (.lodA 3 (Z 13)) (.ret (Z 0)))))))))))))))))))
theorem x84_ok : okF TT Tryz.f84 1 x84 = true := by decide +kernel
theorem s_spec_ReadData_ok (h : s_spec_ReadData a0 σ R) : acall TP fn_spec_ReadData [a0] σ R :=
 acall_okF (ρ := [a0]) TT_ok Tryz.func84 rfl x84 x84_ok rfl h
def s_spec_l9Make (a0 a1 a2 a3 : AV) (σ : AH) (R : AEnd → AH → Prop) : Prop :=
 og (anil a0) fun v16 =>
 og (fldA 0 v16) fun v17 =>
 og (lod v17 σ) fun v18 =>
 og (idx 6 v18 a1 σ) fun v20 =>
 og (anil a0) fun v22 =>
 og (fldA 0 v22) fun v23 =>
 og (lod v23 σ) fun v24 =>
 acall TP fn_spec_l4Kids [v24, a1] σ (onr (fun v26 σ =>
 og (anil v20) fun v28 =>
 og (fldA 0 v28) fun v29 =>
 og (lod v29 σ) fun v30 =>
 og (ibin .eql v30 (iv 1)) fun v54 =>
 apick v54 (
 bsl 4 [(iv 0), (iv 0), (iv 0), (str ⟨#[]⟩)] 0 [] σ fun v57 σ =>
 og (anil v20) fun v59 =>
 og (fldA 5 v59) fun v60 =>
 og (lod v60 σ) fun v61 =>
 app 4 v57 v61 σ fun v62 σ =>
 og (bld [(iv 0), (iv 0), (iv 0), (iv 0), (iv 0), (str ⟨#[]⟩), nilS] [(0, 1), (1, 1), (2, 1), (3, 1), (4, 1), (5, 1), (6, 1)] [(0, (iv 1)), (6, v62)]) fun v63 =>
 acall TP fn_spec_l9Put [a0, a2, v63] σ (onr (fun v64 σ =>
 acall TP fn_spec_l9End [a0, a2, a3] σ (onr (fun v68 σ =>
 aret (.tup []) σ R) (pn R))) (pn R))) (
 og (ibin .eql v30 (iv 2)) fun v70 =>
 apick v70 (
 og (anil v20) fun v74 =>
 og (fldA 2 v74) fun v75 =>
 og (lod v75 σ) fun v76 =>
 og (anil v20) fun v78 =>
 og (fldA 3 v78) fun v79 =>
 og (lod v79 σ) fun v80 =>
 og (bld [(iv 0), (iv 0), (iv 0), (iv 0), (iv 0), (str ⟨#[]⟩), nilS] [(0, 1), (1, 1), (2, 1), (3, 1), (4, 1), (5, 1), (6, 1)] [(0, (iv 2)), (1, v76), (2, v80)]) fun v81 =>
 acall TP fn_spec_l9Put [a0, a2, v81] σ (onr (fun v82 σ =>
 (True) ∧
 acall TP fn_spec_l9End [a0, a2, a3] σ (onr (fun v86 σ =>
 aret (.tup []) σ R) (pn R))) (pn R))) (
 og (ibin .eql v30 (iv 3)) fun v88 =>
 apick v88 (
 og (anil v20) fun v92 =>
 og (fldA 4 v92) fun v93 =>
 og (lod v93 σ) fun v94 =>
 og (bld [(iv 0), (iv 0), (iv 0), (iv 0), (iv 0), (str ⟨#[]⟩), nilS] [(0, 1), (1, 1), (2, 1), (3, 1), (4, 1), (5, 1), (6, 1)] [(0, (iv 3)), (5, v94)]) fun v95 =>
 acall TP fn_spec_l9Put [a0, a2, v95] σ (onr (fun v96 σ =>
 acall TP fn_spec_l9End [a0, a2, a3] σ (onr (fun v100 σ =>
 aret (.tup []) σ R) (pn R))) (pn R))) (
 og (ibin .eql v30 (iv 5)) fun v102 =>
 apick v102 (
 og (anil a0) fun v105 =>
 og (fldA 1 v105) fun v106 =>
 og (lod v106 σ) fun v107 =>
 og (anil v20) fun v109 =>
 og (fldA 2 v109) fun v110 =>
 og (lod v110 σ) fun v111 =>
 og (bld [(iv 0), nilS] [(0, 1), (1, 1)] [(0, v111)]) fun v112 =>
 og (bslR 2 [(iv 0), nilS] 1 [(0, v112)]) fun v113 =>
 app 2 v107 v113 σ fun v114 σ =>
 (True) ∧
 og (anil a0) fun v115 =>
 og (fldA 1 v115) fun v116 =>
 sto 1 v116 v114 σ fun σ =>
 (True) ∧
 og (anil a0) fun v118 =>
 og (fldA 1 v118) fun v119 =>
 og (lod v119 σ) fun v120 =>
 og (lenS v120) fun v121 =>
 og (ibin .sub v121 (iv 1)) fun v122 =>
 og (idx 1 v26 (iv 0) σ) fun v125 =>
 og (lod v125 σ) fun v126 =>
 acall TP fn_spec_l9Make [a0, v126, v122, (.val (.bool true))] σ (onr (fun v128 σ =>
 og (bld [(iv 0), (iv 0), (iv 0), (iv 0), (iv 0), (str ⟨#[]⟩), nilS] [(0, 1), (1, 1), (2, 1), (3, 1), (4, 1), (5, 1), (6, 1)] [(0, (iv 4)), (1, v122)]) fun v132 =>
 acall TP fn_spec_l9Put [a0, a2, v132] σ (onr (fun v133 σ =>
 acall TP fn_spec_l9End [a0, a2, a3] σ (onr (fun v137 σ =>
 aret (.tup []) σ R) (pn R))) (pn R))) (pn R))) (
 og (ibin .eql v30 (iv 4)) fun v139 =>
 apick v139 (
 acall TP fn_spec_l9If [a0, v26, a2, a3] σ (onr (fun v144 σ =>
 aret (.tup []) σ R) (pn R))) (
 og (ibin .eql v30 (iv 6)) fun v146 =>
 apick v146 (
 lp (X := Tup [0, 2, 3, 9, 11]) (fun R1 y1 σ =>
 og (ibin .add y1.2.2.2.2.1 (iv 1)) fun v148 =>
 og (lenS y1.2.2.2.1) fun v150 =>
 og (ibin .lss v148 v150) fun v151 =>
 apick v151 (
 og (idx 1 y1.2.2.2.1 y1.2.2.2.2.1 σ) fun v157 =>
 og (lod v157 σ) fun v158 =>
 acall TP fn_spec_l9Make [y1.1, v158, y1.2.1, (.val (.bool false))] σ (onr (fun v160 σ =>
 og (bld [(iv 0), (iv 0), (iv 0), (iv 0), (iv 0), (str ⟨#[]⟩), nilS] [(0, 1), (1, 1), (2, 1), (3, 1), (4, 1), (5, 1), (6, 1)] [(0, (iv 7))]) fun v163 =>
 acall TP fn_spec_l9Put [y1.1, y1.2.1, v163] σ (onr (fun v164 σ =>
 og (ibin .add y1.2.2.2.2.1 (iv 1)) fun v153 =>
 R1 (y1.1, y1.2.1, y1.2.2.1, y1.2.2.2.1, v153, ()) σ) (pn R))) (pn R))) (
 og (lenS y1.2.2.2.1) fun v168 =>
 og (ibin .sub v168 (iv 1)) fun v169 =>
 og (idx 1 y1.2.2.2.1 v169 σ) fun v170 =>
 og (lod v170 σ) fun v171 =>
 acall TP fn_spec_l9Make [y1.1, v171, y1.2.1, y1.2.2.1] σ (onr (fun v174 σ =>
 aret (.tup []) σ R) (pn R)))) (a0, a2, a3, v26, (iv 0), ()) σ) (
 jn (X := Tup [0, 2, 3, 8, 9, 175]) (fun x2 σ =>
 apick x2.2.2.2.2.2.1 (
 og (idx 1 x2.2.2.2.2.1 (iv 0) σ) fun v180 =>
 og (lod v180 σ) fun v181 =>
 acall TP fn_spec_l9Make [x2.1, v181, x2.2.1, (.val (.bool false))] σ (onr (fun v183 σ =>
 jn (X := Tup [0, 2, 3, 8, 12]) (fun x3 σ =>
 og (anil x3.2.2.2.1) fun v193 =>
 og (fldA 4 v193) fun v194 =>
 og (lod v194 σ) fun v195 =>
 og (bld [(iv 0), (iv 0), (iv 0), (iv 0), (iv 0), (str ⟨#[]⟩), nilS] [(0, 1), (1, 1), (2, 1), (3, 1), (4, 1), (5, 1), (6, 1)] [(0, x3.2.2.2.2.1), (5, v195)]) fun v196 =>
 acall TP fn_spec_l9Put [x3.1, x3.2.1, v196] σ (onr (fun v197 σ =>
 acall TP fn_spec_l9End [x3.1, x3.2.1, x3.2.2.1] σ (onr (fun v201 σ =>
 aret (.tup []) σ R) (pn R))) (pn R))) fun k3 =>
 og (anil x2.2.2.2.1) fun v185 =>
 og (fldA 0 v185) fun v186 =>
 og (lod v186 σ) fun v187 =>
 og (ibin .eql v187 (iv 8)) fun v188 =>
 apick v188 (
 k3 (x2.1, x2.2.1, x2.2.2.1, x2.2.2.2.1, (iv 9), ()) σ) (
 k3 (x2.1, x2.2.1, x2.2.2.1, x2.2.2.2.1, (iv 8), ()) σ)) (pn R))) (
 lp (X := Tup [0, 2, 3, 9, 13]) (fun R4 y4 σ =>
 og (lenS y4.2.2.2.1) fun v33 =>
 og (ibin .lss y4.2.2.2.2.1 v33) fun v34 =>
 apick v34 (
 og (idx 1 y4.2.2.2.1 y4.2.2.2.2.1 σ) fun v40 =>
 og (lod v40 σ) fun v41 =>
 acall TP fn_spec_l9Make [y4.1, v41, y4.2.1, (.val (.bool false))] σ (onr (fun v43 σ =>
 og (ibin .add y4.2.2.2.2.1 (iv 1)) fun v36 =>
 R4 (y4.1, y4.2.1, y4.2.2.1, y4.2.2.2.1, v36, ()) σ) (pn R))) (
 jn (X := Tup [0, 2, 9, 14]) (fun x5 σ =>
 og (lenS x5.2.2.1) fun v49 =>
 og (ibin .sub v49 (iv 1)) fun v50 =>
 og (bld [(iv 0), (iv 0), (iv 0), (iv 0), (iv 0), (str ⟨#[]⟩), nilS] [(0, 1), (1, 1), (2, 1), (3, 1), (4, 1), (5, 1), (6, 1)] [(0, x5.2.2.2.1), (1, v50)]) fun v51 =>
 acall TP fn_spec_l9Put [x5.1, x5.2.1, v51] σ (onr (fun v52 σ =>
 aret (.tup []) σ R) (pn R))) fun k5 =>
 apick y4.2.2.1 (
 k5 (y4.1, y4.2.1, y4.2.2.2.1, (iv 11), ()) σ) (
 k5 (y4.1, y4.2.1, y4.2.2.2.1, (iv 10), ()) σ))) (x2.1, x2.2.1, x2.2.2.1, x2.2.2.2.2.1, (iv 0), ()) σ)) fun k2 =>
 og (ibin .eql v30 (iv 7)) fun v176 =>
 apick v176 (
 k2 (a0, a2, a3, v20, v26, v176, ()) σ) (
 og (ibin .eql v30 (iv 8)) fun v177 =>
 k2 (a0, a2, a3, v20, v26, v177, ()) σ)))))))) (pn R))
def x85 : Sx := Q (A 3) (Q (F 0 0) (M 0 (J 6 0 5 (Q (A 7) (Q (F 0 0) (M 0 (.call 122 [(Z 0), (Z 9)] (Q (A 4) (Q (F 0 0) (M 0 (D .eql (Z 0) (Y 1) (P 0 (.bsl 4 [(iv 0), (iv 0), (iv 0), (str ⟨#[]⟩)] 0 [] (Q (A 9) (Q (F 5 0) (M 0 (.app 4 (Z 3) (Z 0) (Q (.bld [(iv 0), (iv 0), (iv 0), (iv 0), (iv 0), (str ⟨#[]⟩), nilS] [(0, 1), (1, 1), (2, 1), (3, 1), (4, 1), (5, 1), (6, 1)] [(0, (Y 1)), (6, (Z 0))]) (.call 123 [(Z 21), (Z 19), (Z 0)] (.call 124 [(Z 22), (Z 20), (Z 19)] (.rets []))))))))) (D .eql (Z 1) (Y 2) (P 0 (.ord [0, 1, 2, 3, 4, 5, 6, 7, 8, 9, 10, 11] [0, 0, 0, 4, 12, 28, 0, 64, 192, 448, 1020, 2047] (Q (A 9) (Q (F 2 0) (M 0 (Q (A 12) (Q (F 3 0) (M 0 (Q (.bld [(iv 0), (iv 0), (iv 0), (iv 0), (iv 0), (str ⟨#[]⟩), nilS] [(0, 1), (1, 1), (2, 1), (3, 1), (4, 1), (5, 1), (6, 1)] [(0, (Y 2)), (1, (Z 3)), (2, (Z 0))]) (.call 123 [(Z 23), (Z 21), (Z 0)] (.wat [] (.call 124 [(Z 24), (Z 22), (Z 21)] (.rets [])))))))))))) (D .eql (Z 2) (Y 3) (P 0 (Q (A 10) (Q (F 4 0) (M 0 (Q (.bld [(iv 0), (iv 0), (iv 0), (iv 0), (iv 0), (str ⟨#[]⟩), nilS] [(0, 1), (1, 1), (2, 1), (3, 1), (4, 1), (5, 1), (6, 1)] [(0, (Y 3)), (5, (Z 0))]) (.call 123 [(Z 21), (Z 19), (Z 0)] (.call 124 [(Z 22), (Z 20), (Z 19)] (.rets []))))))) (D .eql (Z 3) (Y 5) (P 0 (.ord [0, 1, 2, 3, 4, 5, 6, 7, 8, 9, 10, 11, 12, 13, 14] [0, 0, 2, 6, 14, 0, 32, 96, 224, 480, 992, 2046, 4095, 8191, 16383] (Q (A 18) (Q (F 1 0) (M 0 (Q (A 14) (Q (F 2 0) (M 0 (Q (.bld [(iv 0), nilS] [(0, 1), (1, 1)] [(0, (Z 0))]) (Q (.bslR 2 [(iv 0), nilS] 1 [(0, (Z 0))]) (.app 2 (Z 5) (Z 0) (.wat [] (Q (A 27) (Q (F 1 0) (.sto 1 (Z 0) (Z 2) (.wat [] (Q (A 29) (Q (F 1 0) (M 0 (O 0 (D .sub (Z 0) (Y 1) (Q (.idx 1 (Z 23) (Y 0)) (M 0 (.call 85 [(Z 36), (Z 0), (Z 2), (.lit (.val (.bool true)))] (Q (.bld [(iv 0), (iv 0), (iv 0), (iv 0), (iv 0), (str ⟨#[]⟩), nilS] [(0, 1), (1, 1), (2, 1), (3, 1), (4, 1), (5, 1), (6, 1)] [(0, (Y 4)), (1, (Z 3))]) (.call 123 [(Z 38), (Z 36), (Z 0)] (.call 124 [(Z 39), (Z 37), (Z 36)] (.rets []))))))))))))))))))))))))))) (D .eql (Z 4) (Y 4) (P 0 (.call 125 [(Z 19), (Z 8), (Z 17), (Z 16)] (.rets [])) (D .eql (Z 5) (Y 6) (P 0 (.lp [0, 2, 3, 9, 11] (D .add (Z 4) (Y 1) (O 4 (D .lss (Z 1) (Z 0) (P 0 (J 1 6 7 (M 0 (.call 85 [(Z 5), (Z 0), (Z 6), (.lit (.val (.bool false)))] (Q (.bld [(iv 0), (iv 0), (iv 0), (iv 0), (iv 0), (str ⟨#[]⟩), nilS] [(0, 1), (1, 1), (2, 1), (3, 1), (4, 1), (5, 1), (6, 1)] [(0, (Y 7))]) (.call 123 [(Z 7), (Z 8), (Z 0)] (D .add (Z 12) (Y 1) (.jump 0 [(Z 9), (Z 10), (Z 11), (Z 12), (Z 0)]))))))) (O 6 (D .sub (Z 0) (Y 1) (J 1 8 0 (M 0 (.call 85 [(Z 7), (Z 0), (Z 8), (Z 9)] (.rets [])))))))))) [(Z 20), (Z 18), (Z 17), (Z 9), (Y 0)]) (.jn 253951 [0, 2, 3, 8, 9, 175] (P 5 (Q (.idx 1 (Z 4) (Y 0)) (M 0 (.call 85 [(Z 2), (Z 0), (Z 3), (.lit (.val (.bool false)))] (.jn 4063223 [0, 2, 3, 8, 12] (Q (A 3) (Q (F 4 0) (M 0 (Q (.bld [(iv 0), (iv 0), (iv 0), (iv 0), (iv 0), (str ⟨#[]⟩), nilS] [(0, 1), (1, 1), (2, 1), (3, 1), (4, 1), (5, 1), (6, 1)] [(0, (Z 7)), (5, (Z 0))]) (.call 123 [(Z 4), (Z 5), (Z 0)] (.call 124 [(Z 5), (Z 6), (Z 7)] (.rets []))))))) (Q (A 6) (Q (F 0 0) (M 0 (D .eql (Z 0) (Y 8) (P 0 (.jump 0 [(Z 7), (Z 8), (Z 9), (Z 10), (Y 9)]) (.jump 0 [(Z 7), (Z 8), (Z 9), (Z 10), (Y 8)])))))))))) (.lp [0, 2, 3, 9, 13] (O 3 (D .lss (Z 5) (Z 0) (P 0 (J 1 5 6 (M 0 (.call 85 [(Z 4), (Z 0), (Z 5), (.lit (.val (.bool false)))] (D .add (Z 9) (Y 1) (.jump 0 [(Z 6), (Z 7), (Z 8), (Z 9), (Z 0)]))))) (.jn 4063231 [0, 2, 9, 14] (O 2 (D .sub (Z 0) (Y 1) (Q (.bld [(iv 0), (iv 0), (iv 0), (iv 0), (iv 0), (str ⟨#[]⟩), nilS] [(0, 1), (1, 1), (2, 1), (3, 1), (4, 1), (5, 1), (6, 1)] [(0, (Z 5)), (1, (Z 0))]) (.call 123 [(Z 3), (Z 4), (Z 0)] (.rets []))))) (P 4 (.jump 0 [(Z 2), (Z 3), (Z 5), (Y 11)]) (.jump 0 [(Z 2), (Z 3), (Z 5), (Y 10)])))))) [(Z 0), (Z 1), (Z 2), (Z 4), (Y 0)])) (D .eql (Z 6) (Y 7) (P 0 (.jump 0 [(Z 21), (Z 19), (Z 18), (Z 14), (Z 10), (Z 0)]) (D .eql (Z 7) (Y 8) (.jump 0 [(Z 22), (Z 20), (Z 19), (Z 15), (Z 11), (Z 0)])))))))))))))))))))))))))))
theorem x85_ok : okF TT Tryz.f85 4 x85 = true := by decide +kernel
theorem s_spec_l9Make_ok (h : s_spec_l9Make a0 a1 a2 a3 σ R) : acall TP fn_spec_l9Make [a0, a1, a2, a3] σ R :=
 acall_okF (ρ := [a3, a2, a1, a0]) TT_ok Tryz.func85 rfl x85 x85_ok rfl h
def s_spec_l3Leaf (a0 a1 : AV) (σ : AH) (R : AEnd → AH → Prop) : Prop :=
 new [(iv 0), (iv 0), (iv 0), (str ⟨#[]⟩)] σ fun v4 σ =>
 acall TP fn_spec_l1Next [a0, (iv 3)] σ (onr (fun v6 σ =>
 og (ibin .eql v6 (iv 0)) fun v8 =>
 apick v8 (
 acall TP fn_spec_l1Next [a0, (iv 20)] σ (onr (fun v11 σ =>
 og (bld [(iv 0), (iv 0), (iv 0), (str ⟨#[]⟩)] [(0, 1), (1, 1), (2, 1), (3, 1)] [(0, (iv 1)), (1, a1), (2, v11)]) fun v12 =>
 sto 4 v4 v12 σ fun σ =>
 og (lodA 4 v4 σ) fun r4 =>
 aret r4 σ R) (pn R))) (
 og (ibin .eql v6 (iv 1)) fun v14 =>
 apick v14 (
 acall TP fn_spec_l1Next [a0, (iv 2)] σ (onr (fun v17 σ =>
 og (bld [(iv 0), (iv 0), (iv 0), (str ⟨#[]⟩)] [(0, 1), (1, 1), (2, 1), (3, 1)] [(0, (iv 2)), (1, a1), (2, v17)]) fun v18 =>
 sto 4 v4 v18 σ fun σ =>
 og (lodA 4 v4 σ) fun r4 =>
 aret r4 σ R) (pn R))) (
 acall TP fn_spec_l2Name [a0] σ (onr (fun v21 σ =>
 og (bld [(iv 0), (iv 0), (iv 0), (str ⟨#[]⟩)] [(0, 1), (1, 1), (2, 1), (3, 1)] [(0, (iv 3)), (1, a1), (3, v21)]) fun v22 =>
 sto 4 v4 v22 σ fun σ =>
 og (lodA 4 v4 σ) fun r4 =>
 aret r4 σ R) (pn R))))) (pn R))
def x86 : Sx := .new [(iv 0), (iv 0), (iv 0), (str ⟨#[]⟩)] (.call 17 [(Z 2), (Y 3)] (D .eql (Z 0) (Y 0) (P 0 (.call 17 [(Z 4), (Y 20)] (Q (.bld [(iv 0), (iv 0), (iv 0), (str ⟨#[]⟩)] [(0, 1), (1, 1), (2, 1), (3, 1)] [(0, (Y 1)), (1, (Z 4)), (2, (Z 0))]) (.sto 4 (Z 4) (Z 0) (Q (.lodA 4 (Z 4)) (.ret (Z 0)))))) (D .eql (Z 1) (Y 1) (P 0 (.call 17 [(Z 5), (Y 2)] (Q (.bld [(iv 0), (iv 0), (iv 0), (str ⟨#[]⟩)] [(0, 1), (1, 1), (2, 1), (3, 1)] [(0, (Y 2)), (1, (Z 5)), (2, (Z 0))]) (.sto 4 (Z 5) (Z 0) (Q (.lodA 4 (Z 5)) (.ret (Z 0)))))) (.call 126 [(Z 5)] (Q (.bld [(iv 0), (iv 0), (iv 0), (str ⟨#[]⟩)] [(0, 1), (1, 1), (2, 1), (3, 1)] [(0, (Y 3)), (1, (Z 5)), (3, (Z 0))]) (.sto 4 (Z 5) (Z 0) (Q (.lodA 4 (Z 5)) (.ret (Z 0)))))))))))
theorem x86_ok : okF TT Tryz.f86 2 x86 = true := by decide +kernel
theorem s_spec_l3Leaf_ok (h : s_spec_l3Leaf a0 a1 σ R) : acall TP fn_spec_l3Leaf [a0, a1] σ R :=
 acall_okF (ρ := [a1, a0]) TT_ok Tryz.func86 rfl x86 x86_ok rfl h
def s_spec_l9All (a0 : AV) (σ : AH) (R : AEnd → AH → Prop) : Prop :=
 og (anil a0) fun v4 =>
 og (fldA 1 v4) fun v5 =>
 og (lod v5 σ) fun v6 =>
 og (anil a0) fun v8 =>
 og (fldA 2 v8) fun v9 =>
 og (lod v9 σ) fun v10 =>
 og (anil a0) fun v12 =>
 og (fldA 3 v12) fun v13 =>
 og (lod v13 σ) fun v14 =>
 og (anil a0) fun v16 =>
 og (fldA 4 v16) fun v17 =>
 og (lod v17 σ) fun v18 =>
 og (bslR 1 [(iv 0)] 4 [(0, v6), (1, v10), (2, v14), (3, v18)]) fun v19 =>
 aret v19 σ R
def x87 : Sx := .ord [0, 1, 2, 3, 4, 5, 6, 7, 8, 9, 10, 11, 12, 13, 14, 15, 16, 17] [0, 1, 3, 7, 0, 16, 48, 112, 0, 256, 768, 1792, 0, 4096, 12288, 28672, 65535, 131071] (Q (A 0) (Q (F 1 0) (M 0 (Q (A 3) (Q (F 2 0) (M 0 (Q (A 6) (Q (F 3 0) (M 0 (Q (A 9) (Q (F 4 0) (M 0 (Q (.bslR 1 [(iv 0)] 4 [(0, (Z 9)), (1, (Z 6)), (2, (Z 3)), (3, (Z 0))]) (.ret (Z 0)))))))))))))))
theorem x87_ok : okF TT Tryz.f87 1 x87 = true := by decide +kernel
theorem s_spec_l9All_ok (h : s_spec_l9All a0 σ R) : acall TP fn_spec_l9All [a0] σ R :=
 acall_okF (ρ := [a0]) TT_ok Tryz.func87 rfl x87 x87_ok rfl h
def s_spec_l9Nums (a0 : AV) (σ : AH) (R : AEnd → AH → Prop) : Prop :=
 jn (X := Tup [3, 4]) (fun x1 σ =>
 apick x1.2.1 (
 aret (iv 1) σ R) (
 jn (X := Tup [3, 10]) (fun x2 σ =>
 apick x2.2.1 (
 aret (iv 2) σ R) (
 og (ibin .eql x2.1 (iv 16)) fun v14 =>
 apick v14 (
 aret (iv 3) σ R) (
 og (ibin .eql x2.1 (iv 15)) fun v16 =>
 apick v16 (
 aret (iv 4) σ R) (
 aret (iv 0) σ R)))) fun k2 =>
 og (ibin .eql x1.1 (iv 2)) fun v11 =>
 apick v11 (
 k2 (x1.1, v11, ()) σ) (
 og (ibin .eql x1.1 (iv 14)) fun v12 =>
 k2 (x1.1, v12, ()) σ))) fun k1 =>
 og (ibin .eql a0 (iv 4)) fun v5 =>
 apick v5 (
 k1 (a0, v5, ()) σ) (
 og (ibin .eql a0 (iv 5)) fun v6 =>
 apick v6 (
 k1 (a0, v6, ()) σ) (
 og (ibin .eql a0 (iv 6)) fun v7 =>
 apick v7 (
 k1 (a0, v7, ()) σ) (
 og (ibin .eql a0 (iv 10)) fun v8 =>
 apick v8 (
 k1 (a0, v8, ()) σ) (
 og (ibin .eql a0 (iv 11)) fun v9 =>
 k1 (a0, v9, ()) σ))))
def x88 : Sx := .jn 53 [3, 4] (P 1 (.ret (Y 1)) (.jn 215 [3, 10] (P 1 (.ret (Y 2)) (D .eql (Z 0) (Y 16) (P 0 (.ret (Y 3)) (D .eql (Z 1) (Y 15) (P 0 (.ret (Y 4)) (.ret (Y 0))))))) (D .eql (Z 0) (Y 2) (P 0 (.jump 0 [(Z 1), (Z 0)]) (D .eql (Z 1) (Y 14) (.jump 0 [(Z 2), (Z 0)])))))) (D .eql (Z 0) (Y 4) (P 0 (.jump 0 [(Z 1), (Z 0)]) (D .eql (Z 1) (Y 5) (P 0 (.jump 0 [(Z 2), (Z 0)]) (D .eql (Z 2) (Y 6) (P 0 (.jump 0 [(Z 3), (Z 0)]) (D .eql (Z 3) (Y 10) (P 0 (.jump 0 [(Z 4), (Z 0)]) (D .eql (Z 4) (Y 11) (.jump 0 [(Z 5), (Z 0)]))))))))))
theorem x88_ok : okF TT Tryz.f88 1 x88 = true := by decide +kernel
theorem s_spec_l9Nums_ok (h : s_spec_l9Nums a0 σ R) : acall TP fn_spec_l9Nums [a0] σ R :=
 acall_okF (ρ := [a0]) TT_ok Tryz.func88 rfl x88 x88_ok rfl h
def s_spec_l9Named (a0 : AV) (σ : AH) (R : AEnd → AH → Prop) : Prop :=
 og (ibin .eql a0 (iv 3)) fun v4 =>
 og (gval v4 false false (some a0)) fun v6 =>
 og (gval v4 false false (ibin .eql v6 (iv 8))) fun v7 =>
 og (pickV v4 (.val (.bool true)) v7) fun v8 =>
 og (gval v8 false false (some a0)) fun v10 =>
 og (gval v8 false false (ibin .eql v10 (iv 9))) fun v11 =>
 og (pickV v8 (.val (.bool true)) v11) fun v12 =>
 aret v12 σ R
def x89 : Sx := D .eql (Z 0) (Y 3) (G 0 (.ret (Z 1)) (G 1 (B .eql (Z 0) (Y 8)) (Q (.pickV (Z 2) (.lit (.val (.bool true))) (Z 0)) (G 0 (.ret (Z 4)) (G 1 (B .eql (Z 0) (Y 9)) (Q (.pickV (Z 2) (.lit (.val (.bool true))) (Z 0)) (.ret (Z 0))))))))
theorem x89_ok : okF TT Tryz.f89 1 x89 = true := by decide +kernel
theorem s_spec_l9Named_ok (h : s_spec_l9Named a0 σ R) : acall TP fn_spec_l9Named [a0] σ R :=
 acall_okF (ρ := [a0]) TT_ok Tryz.func89 rfl x89 x89_ok rfl h
def s_spec_l9Const (a0 : AV) (σ : AH) (R : AEnd → AH → Prop) : Prop :=
 og (ibin .eql a0 (iv 1)) fun v4 =>
 og (gval v4 false false (some a0)) fun v6 =>
 og (gval v4 false false (ibin .eql v6 (iv 13))) fun v7 =>
 og (pickV v4 (.val (.bool true)) v7) fun v8 =>
 aret v8 σ R
def x90 : Sx := D .eql (Z 0) (Y 1) (G 0 (.ret (Z 1)) (G 1 (B .eql (Z 0) (Y 13)) (Q (.pickV (Z 2) (.lit (.val (.bool true))) (Z 0)) (.ret (Z 0)))))
theorem x90_ok : okF TT Tryz.f90 1 x90 = true := by decide +kernel
theorem s_spec_l9Const_ok (h : s_spec_l9Const a0 σ R) : acall TP fn_spec_l9Const [a0] σ R :=
 acall_okF (ρ := [a0]) TT_ok Tryz.func90 rfl x90 x90_ok rfl h
def s_spec_l2Sym (a0 : AV) (σ : AH) (R : AEnd → AH → Prop) : Prop :=
 lp (X := Tup [0, 3]) (fun R1 y1 σ =>
 og (lenStr y1.1) fun v6 =>
 og (ibin .lss y1.2.1 v6) fun v7 =>
 apick v7 (
 og (idxStr y1.1 y1.2.1) fun v12 =>
 acall TP fn_spec_l2Byte [v12] σ (onr (fun v13 σ =>
 og (aun .not v13) fun v14 =>
 apick v14 (
 aret (.val (.bool false)) σ R) (
 og (ibin .add y1.2.1 (iv 1)) fun v9 =>
 R1 (y1.1, v9, ()) σ)) (pn R))) (
 og (lenStr y1.1) fun v16 =>
 acall TP fn_spec_l1In [v16, (iv 1), (iv 12)] σ (onr (fun v17 σ =>
 aret v17 σ R) (pn R)))) (a0, (iv 0), ()) σ
def x91 : Sx := .lp [0, 3] (Q (.lenStr (Z 0)) (D .lss (Z 2) (Z 0) (P 0 (Q (.idxStr (Z 2) (Z 3)) (.call 127 [(Z 0)] (Q (.aun .not (Z 0)) (P 0 (.ret (.lit (.val (.bool false)))) (D .add (Z 6) (Y 1) (.jump 0 [(Z 6), (Z 0)])))))) (Q (.lenStr (Z 2)) (.call 26 [(Z 0), (Y 1), (Y 12)] (.ret (Z 0))))))) [(Z 0), (Y 0)]
theorem x91_ok : okF TT Tryz.f91 1 x91 = true := by decide +kernel
theorem s_spec_l2Sym_ok (h : s_spec_l2Sym a0 σ R) : acall TP fn_spec_l2Sym [a0] σ R :=
 acall_okF (ρ := [a0]) TT_ok Tryz.func91 rfl x91 x91_ok rfl h
def s_strings_asciiSet_contains (a0 a1 : AV) (σ : AH) (R : AEnd → AH → Prop) : Prop :=
 og (anil a0) fun v7 =>
 og (idxArr 256 1 v7 a1) fun v8 =>
 og (lod v8 σ) fun v9 =>
 aret v9 σ R
def x103 : Sx := Q (A 1) (Q (.idxArr 256 1 (Z 0) (Z 1)) (M 0 (.ret (Z 0))))
theorem x103_ok : okF TT Tryz.f103 2 x103 = true := by decide +kernel
theorem s_strings_asciiSet_contains_ok (h : s_strings_asciiSet_contains a0 a1 σ R) : acall TP fn_strings_asciiSet_contains [a0, a1] σ R :=
 acall_okF (ρ := [a1, a0]) TT_ok Tryz.func103 rfl x103 x103_ok rfl h
def s_impl_NumFault (a0 : AV) (σ : AH) (R : AEnd → AH → Prop) : Prop :=
 acall TP fn_impl_in [a0, (iv (-1000000000)), (iv 1000000000)] σ (onr (fun v4 σ =>
 og (aun .not v4) fun v5 =>
 apick v5 (
 aret (iv 3) σ R) (
 aret (iv 0) σ R)) (pn R))
def x107 : Sx := .call 23 [(Z 0), (Y (-1000000000)), (Y 1000000000)] (Q (.aun .not (Z 0)) (P 0 (.ret (Y 3)) (.ret (Y 0))))
theorem x107_ok : okF TT Tryz.f107 1 x107 = true := by decide +kernel
theorem s_impl_NumFault_ok (h : s_impl_NumFault a0 σ R) : acall TP fn_impl_NumFault [a0] σ R :=
 acall_okF (ρ := [a0]) TT_ok Tryz.func107 rfl x107 x107_ok rfl h
def s_spec_l3Bare (a0 : AV) (σ : AH) (R : AEnd → AH → Prop) : Prop :=
 og (anil a0) fun v5 =>
 og (fldA 0 v5) fun v6 =>
 og (lod v6 σ) fun v7 =>
 og (ibin .eql v7 (iv 1)) fun v8 =>
 og (gval v8 false false (some a0)) fun v10 =>
 og (gval v8 false false (anil v10)) fun v11 =>
 og (gval v8 false false (fldA 0 v11)) fun v12 =>
 og (gval v8 false false (lod v12 σ)) fun v13 =>
 og (gval v8 false false (ibin .eql v13 (iv 2))) fun v14 =>
 og (pickV v8 (.val (.bool true)) v14) fun v15 =>
 og (anil a0) fun v17 =>
 og (fldA 0 v17) fun v18 =>
 og (lod v18 σ) fun v19 =>
 acall TP fn_spec_l1In [v19, (iv 1), (iv 4)] σ (onr (fun v20 σ =>
 og (gval v20 true false (some v15)) fun v22 =>
 og (gval v20 true false (some v22)) fun v23 =>
 og (gval v23 false true (some a0)) fun v24 =>
 og (gval v23 false true (anil v24)) fun v25 =>
 og (gval v23 false true (fldA 2 v25)) fun v26 =>
 og (gval v23 false true (lod v26 σ)) fun v27 =>
 og (gval v23 false true (ibin .eql v27 (iv 0))) fun v28 =>
 og (gval v20 true false (pickV v23 (.val (.bool true)) v28)) fun v29 =>
 og (pickV v20 v29 (.val (.bool false))) fun v30 =>
 og (gval v30 true false (some a0)) fun v32 =>
 og (gval v30 true false (anil v32)) fun v33 =>
 og (gval v30 true false (fldA 0 v33)) fun v34 =>
 og (gval v30 true false (lod v34 σ)) fun v35 =>
 og (gval v30 true false (ibin .eql v35 (iv 3))) fun v36 =>
 og (gval v30 true false (some v36)) fun v37 =>
 og (gval v37 false true (some a0)) fun v38 =>
 og (gval v37 false true (anil v38)) fun v39 =>
 og (gval v37 false true (fldA 3 v39)) fun v40 =>
 og (gval v37 false true (lod v40 σ)) fun v41 =>
 og (gval v37 false true (sbin .eql v41 (str ⟨#[]⟩))) fun v42 =>
 og (gval v30 true false (pickV v37 (.val (.bool true)) v42)) fun v43 =>
 og (pickV v30 v43 (.val (.bool false))) fun v44 =>
 aret v44 σ R) (pn R))
def x108 : Sx := Q (A 0) (Q (F 0 0) (M 0 (D .eql (Z 0) (Y 1) (G 0 (.ret (Z 4)) (G 1 (A 0) (G 2 (F 0 0) (G 3 (L 0) (G 4 (B .eql (Z 0) (Y 2)) (Q (.pickV (Z 5) (.lit (.val (.bool true))) (Z 0)) (Q (A 10) (Q (F 0 0) (M 0 (.call 26 [(Z 0), (Y 1), (Y 4)] (H 0 (.ret (Z 4)) (H 1 (.ret (Z 0)) (.gog (Z 0) false true (.ret (Z 16)) (.gog (Z 1) false true (A 0) (.gog (Z 2) false true (F 2 0) (.gog (Z 3) false true (L 0) (.gog (Z 4) false true (B .eql (Z 0) (Y 0)) (H 7 (.pickV (Z 5) (.lit (.val (.bool true))) (Z 0)) (Q (.pickV (Z 8) (Z 0) (.lit (.val (.bool false)))) (H 0 (.ret (Z 23)) (H 1 (A 0) (H 2 (F 0 0) (H 3 (L 0) (H 4 (B .eql (Z 0) (Y 3)) (H 5 (.ret (Z 0)) (.gog (Z 0) false true (.ret (Z 29)) (.gog (Z 1) false true (A 0) (.gog (Z 2) false true (F 3 0) (.gog (Z 3) false true (L 0) (.gog (Z 4) false true (.sbin .eql (Z 0) (.lit (str ⟨#[]⟩))) (H 11 (.pickV (Z 5) (.lit (.val (.bool true))) (Z 0)) (Q (.pickV (Z 12) (Z 0) (.lit (.val (.bool false)))) (.ret (Z 0)))))))))))))))))))))))))))))))))))))
theorem x108_ok : okF TT Tryz.f108 1 x108 = true := by decide +kernel
theorem s_spec_l3Bare_ok (h : s_spec_l3Bare a0 σ R) : acall TP fn_spec_l3Bare [a0] σ R :=
 acall_okF (ρ := [a0]) TT_ok Tryz.func108 rfl x108 x108_ok rfl h
def s_spec_l1Num (a0 : AV) (σ : AH) (R : AEnd → AH → Prop) : Prop :=
 acall TP fn_spec_l1In [a0, (iv (-1000000000)), (iv 1000000000)] σ (onr (fun v4 σ =>
 aret v4 σ R) (pn R))
def x109 : Sx := .call 26 [(Z 0), (Y (-1000000000)), (Y 1000000000)] (.ret (Z 0))
theorem x109_ok : okF TT Tryz.f109 1 x109 = true := by decide +kernel
theorem s_spec_l1Num_ok (h : s_spec_l1Num a0 σ R) : acall TP fn_spec_l1Num [a0] σ R :=
 acall_okF (ρ := [a0]) TT_ok Tryz.func109 rfl x109 x109_ok rfl h
def s_spec_l3Line (a0 a1 : AV) (σ : AH) (R : AEnd → AH → Prop) : Prop :=
 og (ibin .sub a1 (iv 1)) fun v7 =>
 lp (X := Tup [0, 1, 5]) (fun R1 y1 σ =>
 og (ibin .geq y1.2.2.1 (iv 0)) fun v9 =>
 apick v9 (
 og (idx 4 y1.1 y1.2.1 σ) fun v18 =>
 og (fldA 1 v18) fun v19 =>
 og (lod v19 σ) fun v20 =>
 og (ibin .eql y1.2.2.1 v20) fun v21 =>
 apick v21 (
 og (idx 4 y1.1 y1.2.2.1 σ) fun v24 =>
 og (fldA 0 v24) fun v25 =>
 og (lod v25 σ) fun v26 =>
 og (ibin .eql v26 (iv 4)) fun v27 =>
 aret v27 σ R) (
 og (idx 4 y1.1 y1.2.2.1 σ) fun v12 =>
 og (fldA 1 v12) fun v13 =>
 og (lod v13 σ) fun v14 =>
 R1 (y1.1, y1.2.1, v14, ()) σ)) (
 aret (.val (.bool false)) σ R)) (a0, a1, v7, ()) σ
def x110 : Sx := D .sub (Z 0) (Y 1) (.lp [0, 1, 5] (D .geq (Z 2) (Y 0) (P 0 (J 4 1 2 (Q (F 1 0) (M 0 (D .eql (Z 6) (Z 0) (P 0 (J 4 5 7 (Q (F 0 0) (M 0 (D .eql (Z 0) (Y 4) (.ret (Z 0)))))) (J 4 5 7 (Q (F 1 0) (M 0 (.jump 0 [(Z 8), (Z 9), (Z 0)]))))))))) (.ret (.lit (.val (.bool false)))))) [(Z 2), (Z 1), (Z 0)])
theorem x110_ok : okF TT Tryz.f110 2 x110 = true := by decide +kernel
theorem s_spec_l3Line_ok (h : s_spec_l3Line a0 a1 σ R) : acall TP fn_spec_l3Line [a0, a1] σ R :=
 acall_okF (ρ := [a1, a0]) TT_ok Tryz.func110 rfl x110 x110_ok rfl h
def s_spec_l3Deep (a0 a1 : AV) (σ : AH) (R : AEnd → AH → Prop) : Prop :=
 lp (X := Tup [0, 1, 5]) (fun R1 y1 σ =>
 og (ibin .geq y1.2.1 (iv 0)) fun v7 =>
 og (gval v7 true false (some y1.2.2.1)) fun v9 =>
 og (gval v7 true false (ibin .lss v9 (iv 100))) fun v10 =>
 og (pickV v7 v10 (.val (.bool false))) fun v11 =>
 apick v11 (
 og (ibin .add y1.2.2.1 (iv 1)) fun v13 =>
 og (idx 4 y1.1 y1.2.1 σ) fun v16 =>
 og (fldA 1 v16) fun v17 =>
 og (lod v17 σ) fun v18 =>
 R1 (y1.1, v18, v13, ()) σ) (
 aret y1.2.2.1 σ R)) (a0, a1, (iv 0), ()) σ
def x111 : Sx := .lp [0, 1, 5] (D .geq (Z 1) (Y 0) (H 0 (.ret (Z 3)) (H 1 (B .lss (Z 0) (Y 100)) (Q (.pickV (Z 2) (Z 0) (.lit (.val (.bool false)))) (P 0 (D .add (Z 6) (Y 1) (J 4 5 6 (Q (F 1 0) (M 0 (.jump 0 [(Z 8), (Z 0), (Z 3)]))))) (.ret (Z 6))))))) [(Z 1), (Z 0), (Y 0)]
theorem x111_ok : okF TT Tryz.f111 2 x111 = true := by decide +kernel
theorem s_spec_l3Deep_ok (h : s_spec_l3Deep a0 a1 σ R) : acall TP fn_spec_l3Deep [a0, a1] σ R :=
 acall_okF (ρ := [a1, a0]) TT_ok Tryz.func111 rfl x111 x111_ok rfl h
def s_spec_l4Put (a0 a1 : AV) (σ : AH) (R : AEnd → AH → Prop) : Prop :=
 abox a1 σ fun v3 σ =>
 frz v3 σ fun f3 σ =>
 og (anil a0) fun v7 =>
 og (fldA 1 v7) fun v8 =>
 og (lod v8 σ) fun v9 =>
 og (lodA 6 f3 σ) fun v10 =>
 og (bslR 6 [(iv 0), (iv 0), (iv 0), (iv 0), (str ⟨#[]⟩), nilS] 1 [(0, v10)]) fun v11 =>
 app 6 v9 v11 σ fun v12 σ =>
 (True) ∧
 og (anil a0) fun v13 =>
 og (fldA 1 v13) fun v14 =>
 sto 1 v14 v12 σ fun σ =>
 (True) ∧
 og (anil a0) fun v16 =>
 og (fldA 1 v16) fun v17 =>
 og (lod v17 σ) fun v18 =>
 og (lenS v18) fun v19 =>
 og (ibin .sub v19 (iv 1)) fun v20 =>
 aret v20 σ R
def x112 : Sx := .box (Z 0) (.frz 2 (Z 0) (.ord [0, 1, 2, 3, 4, 5, 6, 7, 8, 9, 10] [0, 0, 2, 6, 14, 0, 32, 126, 255, 511, 1023] (Q (A 3) (Q (F 1 0) (M 0 (Q (.lodA 6 (Z 3)) (Q (.bslR 6 [(iv 0), (iv 0), (iv 0), (iv 0), (str ⟨#[]⟩), nilS] 1 [(0, (Z 0))]) (.app 6 (Z 2) (Z 0) (.wat [] (Q (A 9) (Q (F 1 0) (.sto 1 (Z 0) (Z 2) (.wat [] (Q (A 11) (Q (F 1 0) (M 0 (O 0 (D .sub (Z 0) (Y 1) (.ret (Z 0))))))))))))))))))))
theorem x112_ok : okF TT Tryz.f112 2 x112 = true := by decide +kernel
theorem s_spec_l4Put_ok (h : s_spec_l4Put a0 a1 σ R) : acall TP fn_spec_l4Put [a0, a1] σ R :=
 acall_okF (ρ := [a1, a0]) TT_ok Tryz.func112 rfl x112 x112_ok rfl h
def s_spec_l3Sub (a0 a1 : AV) (σ : AH) (R : AEnd → AH → Prop) : Prop :=
 acall TP fn_spec_l3Deep [a0, a1] σ (onr (fun v11 σ =>
 bsl 4 [(iv 0), (iv 0), (iv 0), (str ⟨#[]⟩)] 0 [] σ fun v12 σ =>
 lp (X := Tup [0, 1, 5, 6, 7]) (fun R1 y1 σ =>
 jn (X := Tup [0, 1, 5, 6, 7, 29]) (fun x2 σ =>
 apick x2.2.2.2.2.2.1 (
 og (idx 4 x2.1 x2.2.2.2.2.1 σ) fun v34 =>
 og (lodA 4 v34 σ) fun v35 =>
 new [(iv 0), (iv 0), (iv 0), (str ⟨#[]⟩)] σ fun v8 σ =>
 sto 4 v8 v35 σ fun σ =>
 og (fldA 1 v8) fun v36 =>
 og (lod v36 σ) fun v37 =>
 og (ibin .sub v37 x2.2.1) fun v39 =>
 og (fldA 1 v8) fun v40 =>
 sto 1 v40 v39 σ fun σ =>
 jn (X := Tup [0, 1, 5, 6, 7, 8]) (fun x3 σ =>
 frz x3.2.2.2.2.2.1 σ fun f8 σ =>
 og (lodA 4 f8 σ) fun v46 =>
 bsl 4 [(iv 0), (iv 0), (iv 0), (str ⟨#[]⟩)] 1 [(0, v46)] σ fun v47 σ =>
 app 4 x3.2.2.2.1 v47 σ fun v48 σ =>
 og (ibin .add x3.2.2.2.2.1 (iv 1)) fun v31 =>
 R1 (x3.1, x3.2.1, x3.2.2.1, v48, v31, ()) σ) fun k3 =>
 og (ibin .eql x2.2.2.2.2.1 x2.2.1) fun v43 =>
 apick v43 (
 og (fldA 1 v8) fun v44 =>
 sto 1 v44 (iv (-1)) σ fun σ =>
 k3 (x2.1, x2.2.1, x2.2.2.1, x2.2.2.2.1, x2.2.2.2.2.1, v8, ()) σ) (
 k3 (x2.1, x2.2.1, x2.2.2.1, x2.2.2.2.1, x2.2.2.2.2.1, v8, ()) σ)) (
 aret x2.2.2.2.1 σ R)) fun k2 =>
 og (lenS y1.1) fun v16 =>
 og (ibin .lss y1.2.2.2.2.1 v16) fun v17 =>
 og (gval v17 true false (some y1.2.2.2.2.1)) fun v19 =>
 og (gval v17 true false (some y1.2.1)) fun v20 =>
 og (gval v17 true false (ibin .eql v19 v20)) fun v21 =>
 og (gval v17 true false (some v21)) fun v22 =>
 og (gval v22 false true (some y1.1)) fun v23 =>
 og (gval v22 false true (some y1.2.2.2.2.1)) fun v24 =>
 gpick v22 (
 og (gval v17 true false (some (.val (.bool true)))) fun v28 =>
 og (pickV v17 v28 (.val (.bool false))) fun v29 =>
 k2 (y1.1, y1.2.1, y1.2.2.1, y1.2.2.2.1, y1.2.2.2.2.1, v29, ()) σ) (
 acall TP fn_spec_l3Deep [v23, v24] σ (onr (fun v25 σ =>
 og (ibin .gtr v25 y1.2.2.1) fun v27 =>
 og (gval v17 true false (some v27)) fun v28 =>
 og (pickV v17 v28 (.val (.bool false))) fun v29 =>
 k2 (y1.1, y1.2.1, y1.2.2.1, y1.2.2.2.1, y1.2.2.2.2.1, v29, ()) σ) (pn R))) (
 og (gval v17 true false (pickV (.tup []) (.val (.bool true)) (.tup []))) fun v28 =>
 og (pickV v17 v28 (.val (.bool false))) fun v29 =>
 k2 (y1.1, y1.2.1, y1.2.2.1, y1.2.2.2.1, y1.2.2.2.2.1, v29, ()) σ)) (a0, a1, v11, v12, a1, ()) σ) (pn R))
def x113 : Sx := .call 111 [(Z 1), (Z 0)] (.bsl 4 [(iv 0), (iv 0), (iv 0), (str ⟨#[]⟩)] 0 [] (.lp [0, 1, 5, 6, 7] (.jn 977 [0, 1, 5, 6, 7, 29] (P 5 (J 4 0 4 (Q (.lodA 4 (Z 0)) (.new [(iv 0), (iv 0), (iv 0), (str ⟨#[]⟩)] (.sto 4 (Z 0) (Z 1) (Q (F 1 0) (M 0 (D .sub (Z 0) (Z 6) (Q (F 1 3) (.sto 1 (Z 0) (Z 1) (.jn 15655 [0, 1, 5, 6, 7, 8] (.frz 0 (Z 5) (Q (.lodA 4 (Z 0)) (.bsl 4 [(iv 0), (iv 0), (iv 0), (str ⟨#[]⟩)] 1 [(0, (Z 0))] (.app 4 (Z 6) (Z 0) (D .add (Z 8) (Y 1) (.jump 0 [(Z 5), (Z 6), (Z 7), (Z 1), (Z 0)])))))) (D .eql (Z 11) (Z 8) (P 0 (Q (F 1 5) (.sto 1 (Z 0) (Y (-1)) (.jump 0 [(Z 9), (Z 10), (Z 11), (Z 12), (Z 13), (Z 6)]))) (.jump 0 [(Z 8), (Z 9), (Z 10), (Z 11), (Z 12), (Z 5)]))))))))))))) (.ret (Z 3))) (O 0 (D .lss (Z 5) (Z 0) (H 0 (.ret (Z 6)) (H 1 (.ret (Z 4)) (H 2 (B .eql (Z 1) (Z 0)) (H 3 (.ret (Z 0)) (.gog (Z 0) false true (.ret (Z 6)) (.gog (Z 1) false true (.ret (Z 11)) (.gpick (Z 2) (H 6 (.ret (.lit (.val (.bool true)))) (Q (.pickV (Z 7) (Z 0) (.lit (.val (.bool false)))) (.jump 0 [(Z 10), (Z 11), (Z 12), (Z 13), (Z 14), (Z 0)]))) (.call 111 [(Z 1), (Z 0)] (D .gtr (Z 0) (Z 11) (H 8 (.ret (Z 0)) (Q (.pickV (Z 9) (Z 0) (.lit (.val (.bool false)))) (.jump 0 [(Z 12), (Z 13), (Z 14), (Z 15), (Z 16), (Z 0)]))))) (H 6 (.pickV (.lit (.tup [])) (.lit (.val (.bool true))) (.lit (.tup []))) (Q (.pickV (Z 7) (Z 0) (.lit (.val (.bool false)))) (.jump 0 [(Z 10), (Z 11), (Z 12), (Z 13), (Z 14), (Z 0)]))))))))))))) [(Z 3), (Z 2), (Z 1), (Z 0), (Z 2)]))
theorem x113_ok : okF TT Tryz.f113 2 x113 = true := by decide +kernel
theorem s_spec_l3Sub_ok (h : s_spec_l3Sub a0 a1 σ R) : acall TP fn_spec_l3Sub [a0, a1] σ R :=
 acall_okF (ρ := [a1, a0]) TT_ok Tryz.func113 rfl x113 x113_ok rfl h
def s_spec_IsKeyword (a0 : AV) (σ : AH) (R : AEnd → AH → Prop) : Prop :=
 bsl 1 [(str ⟨#[]⟩)] 7 [(0, (.val (.string ⟨#[113, 117, 111, 116, 101]⟩))), (1, (.val (.string ⟨#[105, 102]⟩))), (2, (.val (.string ⟨#[108, 97, 109, 98, 100, 97]⟩))), (3, (.val (.string ⟨#[108, 101, 116]⟩))), (4, (.val (.string ⟨#[98, 101, 103, 105, 110]⟩))), (5, (.val (.string ⟨#[100, 101, 102, 105, 110, 101]⟩))), (6, (.val (.string ⟨#[115, 101, 116, 33]⟩)))] σ fun v5 σ =>
 frz v5 σ fun f5 σ =>
 lp (X := Tup [0, 3, 4]) (fun R1 y1 σ =>
 og (lenS y1.2.1) fun v8 =>
 og (ibin .lss y1.2.2.1 v8) fun v9 =>
 apick v9 (
 og (idx 1 y1.2.1 y1.2.2.1 σ) fun v14 =>
 og (lod v14 σ) fun v15 =>
 og (sbin .eql v15 y1.1) fun v17 =>
 apick v17 (
 aret (.val (.bool true)) σ R) (
 og (ibin .add y1.2.2.1 (iv 1)) fun v11 =>
 R1 (y1.1, y1.2.1, v11, ()) σ)) (
 aret (.val (.bool false)) σ R)) (a0, f5, (iv 0), ()) σ
def x114 : Sx := .bsl 1 [(str ⟨#[]⟩)] 7 [(0, (.lit (.val (.string ⟨#[113, 117, 111, 116, 101]⟩)))), (1, (.lit (.val (.string ⟨#[105, 102]⟩)))), (2, (.lit (.val (.string ⟨#[108, 97, 109, 98, 100, 97]⟩)))), (3, (.lit (.val (.string ⟨#[108, 101, 116]⟩)))), (4, (.lit (.val (.string ⟨#[98, 101, 103, 105, 110]⟩)))), (5, (.lit (.val (.string ⟨#[100, 101, 102, 105, 110, 101]⟩)))), (6, (.lit (.val (.string ⟨#[115, 101, 116, 33]⟩))))] (.frz 1 (Z 0) (.lp [0, 3, 4] (O 1 (D .lss (Z 3) (Z 0) (P 0 (J 1 3 4 (M 0 (Q (.sbin .eql (Z 0) (Z 4)) (P 0 (.ret (.lit (.val (.bool true)))) (D .add (Z 7) (Y 1) (.jump 0 [(Z 6), (Z 7), (Z 0)])))))) (.ret (.lit (.val (.bool false))))))) [(Z 2), (Z 0), (Y 0)]))
theorem x114_ok : okF TT Tryz.f114 1 x114 = true := by decide +kernel
theorem s_spec_IsKeyword_ok (h : s_spec_IsKeyword a0 σ R) : acall TP fn_spec_IsKeyword [a0] σ R :=
 acall_okF (ρ := [a0]) TT_ok Tryz.func114 rfl x114 x114_ok rfl h
def s_spec_l4Find (a0 a1 a2 : AV) (σ : AH) (R : AEnd → AH → Prop) : Prop :=
 lp (X := Tup [0, 1, 2, 9]) (fun R1 y1 σ =>
 og (ibin .geq y1.2.1 (iv 0)) fun v13 =>
 apick v13 (
 og (anil y1.1) fun v15 =>
 og (fldA 2 v15) fun v16 =>
 og (lod v16 σ) fun v17 =>
 og (idx 2 v17 y1.2.1 σ) fun v19 =>
 og (fldA 0 v19) fun v20 =>
 og (lod v20 σ) fun v21 =>
 lp (X := Tup [0, 1, 2, 9, 10, 11]) (fun R2 y2 σ =>
 og (lenS y2.2.2.2.2.1) fun v24 =>
 og (ibin .lss y2.2.2.2.2.2.1 v24) fun v25 =>
 apick v25 (
 og (idx 1 y2.2.2.2.2.1 y2.2.2.2.2.2.1 σ) fun v30 =>
 og (lod v30 σ) fun v31 =>
 og (sbin .eql v31 y2.2.2.1) fun v33 =>
 apick v33 (
 aret (.tup [y2.2.2.2.1, y2.2.2.2.2.2.1, (.val (.bool true))]) σ R) (
 og (ibin .add y2.2.2.2.2.2.1 (iv 1)) fun v27 =>
 R2 (y2.1, y2.2.1, y2.2.2.1, y2.2.2.2.1, y2.2.2.2.2.1, v27, ()) σ)) (
 og (ibin .add y2.2.2.2.1 (iv 1)) fun v37 =>
 og (anil y2.1) fun v39 =>
 og (fldA 2 v39) fun v40 =>
 og (lod v40 σ) fun v41 =>
 og (idx 2 v41 y2.2.1 σ) fun v43 =>
 og (fldA 1 v43) fun v44 =>
 og (lod v44 σ) fun v45 =>
 R1 (y2.1, v45, y2.2.2.1, v37, ()) σ)) (y1.1, y1.2.1, y1.2.2.1, y1.2.2.2.1, v21, (iv 0), ()) σ) (
 aret (.tup [(iv 0), (iv 0), (.val (.bool false))]) σ R)) (a0, a1, a2, (iv 0), ()) σ
def x115 : Sx := .lp [0, 1, 2, 9] (D .geq (Z 1) (Y 0) (P 0 (Q (A 1) (Q (F 2 0) (M 0 (J 2 0 5 (Q (F 0 0) (M 0 (.lp [0, 1, 2, 9, 10, 11] (O 4 (D .lss (Z 6) (Z 0) (P 0 (J 1 6 7 (M 0 (Q (.sbin .eql (Z 0) (Z 6)) (P 0 (.rets [(Z 8), (Z 10), (.lit (.val (.bool true)))]) (D .add (Z 10) (Y 1) (.jump 0 [(Z 6), (Z 7), (Z 8), (Z 9), (Z 10), (Z 0)])))))) (D .add (Z 5) (Y 1) (Q (A 3) (Q (F 2 0) (M 0 (J 2 0 7 (Q (F 1 0) (M 0 (.jump 1 [(Z 9), (Z 0), (Z 11), (Z 6)]))))))))))) [(Z 7), (Z 8), (Z 9), (Z 10), (Z 0), (Y 0)]))))))) (.rets [(Y 0), (Y 0), (.lit (.val (.bool false)))]))) [(Z 2), (Z 1), (Z 0), (Y 0)]
theorem x115_ok : okF TT Tryz.f115 3 x115 = true := by decide +kernel
theorem s_spec_l4Find_ok (h : s_spec_l4Find a0 a1 a2 σ R) : acall TP fn_spec_l4Find [a0, a1, a2] σ R :=
 acall_okF (ρ := [a2, a1, a0]) TT_ok Tryz.func115 rfl x115 x115_ok rfl h
def s_spec_l3Parts (a0 a1 : AV) (σ : AH) (R : AEnd → AH → Prop) : Prop :=
 bsl 1 [(iv 0)] 0 [] σ fun v7 σ =>
 lp (X := Tup [0, 1, 5, 6]) (fun R1 y1 σ =>
 og (lenS y1.1) fun v10 =>
 og (ibin .lss y1.2.2.2.1 v10) fun v11 =>
 apick v11 (
 jn (X := Tup [0, 1, 5, 6]) (fun x2 σ =>
 og (ibin .add x2.2.2.2.1 (iv 1)) fun v13 =>
 R1 (x2.1, x2.2.1, x2.2.2.1, v13, ()) σ) fun k2 =>
 og (idx 4 y1.1 y1.2.2.2.1 σ) fun v16 =>
 og (fldA 1 v16) fun v17 =>
 og (lod v17 σ) fun v18 =>
 og (ibin .eql v18 y1.2.1) fun v20 =>
 apick v20 (
 bsl 1 [(iv 0)] 1 [(0, y1.2.2.2.1)] σ fun v23 σ =>
 app 1 y1.2.2.1 v23 σ fun v24 σ =>
 k2 (y1.1, y1.2.1, v24, y1.2.2.2.1, ()) σ) (
 k2 (y1.1, y1.2.1, y1.2.2.1, y1.2.2.2.1, ()) σ)) (
 aret y1.2.2.1 σ R)) (a0, a1, v7, (iv 0), ()) σ
def x116 : Sx := .bsl 1 [(iv 0)] 0 [] (.lp [0, 1, 5, 6] (O 0 (D .lss (Z 4) (Z 0) (P 0 (.jn 467 [0, 1, 5, 6] (D .add (Z 3) (Y 1) (.jump 0 [(Z 1), (Z 2), (Z 3), (Z 0)])) (J 4 2 5 (Q (F 1 0) (M 0 (D .eql (Z 0) (Z 6) (P 0 (.bsl 1 [(iv 0)] 1 [(0, (Z 9))] (.app 1 (Z 9) (Z 0) (.jump 0 [(Z 8), (Z 9), (Z 0), (Z 11)]))) (.jump 0 [(Z 6), (Z 7), (Z 8), (Z 9)]))))))) (.ret (Z 4))))) [(Z 2), (Z 1), (Z 0), (Y 0)])
theorem x116_ok : okF TT Tryz.f116 2 x116 = true := by decide +kernel
theorem s_spec_l3Parts_ok (h : s_spec_l3Parts a0 a1 σ R) : acall TP fn_spec_l3Parts [a0, a1] σ R :=
 acall_okF (ρ := [a1, a0]) TT_ok Tryz.func116 rfl x116 x116_ok rfl h
def s_spec_l4Form (a0 a1 a2 a3 a4 : AV) (σ : AH) (R : AEnd → AH → Prop) : Prop :=
 og (sbin .eql a1 (.val (.string ⟨#[113, 117, 111, 116, 101]⟩))) fun v13 =>
 apick v13 (
 og (lenS a2) fun v15 =>
 og (ibin .neq v15 (iv 2)) fun v16 =>
 apick v16 (
 aret (iv 1) σ R) (
 og (anil a0) fun v20 =>
 og (fldA 0 v20) fun v21 =>
 og (lod v21 σ) fun v22 =>
 og (idx 1 a2 (iv 1) σ) fun v24 =>
 og (lod v24 σ) fun v25 =>
 acall TP fn_spec_l3Sub [v22, v25] σ (onr (fun v26 σ =>
 (True) ∧
 og (bld [(iv 0), (iv 0), (iv 0), (iv 0), (str ⟨#[]⟩), nilS] [(0, 1), (1, 1), (2, 1), (3, 1), (4, 1), (5, 1)] [(0, (iv 1)), (1, a3), (5, v26)]) fun v27 =>
 acall TP fn_spec_l4Put [a0, v27] σ (onr (fun v28 σ =>
 (True) ∧
 aret (iv 0) σ R) (pn R))) (pn R)))) (
 og (sbin .eql a1 (.val (.string ⟨#[105, 102]⟩))) fun v30 =>
 apick v30 (
 og (lenS a2) fun v32 =>
 og (ibin .neq v32 (iv 4)) fun v33 =>
 apick v33 (
 aret (iv 1) σ R) (
 og (slc 1 a2 (some (iv 1)) none none σ) fun v36 =>
 og (bld [(iv 0), (iv 0), (iv 0), (iv 0), (str ⟨#[]⟩), nilS] [(0, 1), (1, 1), (2, 1), (3, 1), (4, 1), (5, 1)] [(0, (iv 4)), (1, a3)]) fun v39 =>
 acall TP fn_spec_l4Put [a0, v39] σ (onr (fun v40 σ =>
 (slc 1 a2 (some (iv 1)) none none σ = some v36 ∧ True) ∧
 acall TP fn_spec_l4All [a0, v36, v40, a4] σ (onr (fun v42 σ =>
 (True) ∧
 aret v42 σ R) (pn R))) (pn R)))) (
 og (sbin .eql a1 (.val (.string ⟨#[98, 101, 103, 105, 110]⟩))) fun v44 =>
 apick v44 (
 og (lenS a2) fun v46 =>
 og (ibin .lss v46 (iv 2)) fun v47 =>
 apick v47 (
 aret (iv 1) σ R) (
 og (slc 1 a2 (some (iv 1)) none none σ) fun v50 =>
 og (bld [(iv 0), (iv 0), (iv 0), (iv 0), (str ⟨#[]⟩), nilS] [(0, 1), (1, 1), (2, 1), (3, 1), (4, 1), (5, 1)] [(0, (iv 6)), (1, a3)]) fun v53 =>
 acall TP fn_spec_l4Put [a0, v53] σ (onr (fun v54 σ =>
 (slc 1 a2 (some (iv 1)) none none σ = some v50 ∧ True) ∧
 acall TP fn_spec_l4All [a0, v50, v54, a4] σ (onr (fun v56 σ =>
 (True) ∧
 aret v56 σ R) (pn R))) (pn R)))) (
 og (sbin .eql a1 (.val (.string ⟨#[108, 97, 109, 98, 100, 97]⟩))) fun v58 =>
 apick v58 (
 acall TP fn_spec_l4Lambda [a0, a2, a3, a4] σ (onr (fun v63 σ =>
 aret v63 σ R) (pn R))) (
 og (sbin .eql a1 (.val (.string ⟨#[108, 101, 116]⟩))) fun v65 =>
 apick v65 (
 acall TP fn_spec_l4Let [a0, a2, a3, a4] σ (onr (fun v70 σ =>
 aret v70 σ R) (pn R))) (
 og (sbin .eql a1 (.val (.string ⟨#[100, 101, 102, 105, 110, 101]⟩))) fun v72 =>
 apick v72 (
 acall TP fn_spec_l4Assign [a0, a2, a3, a4, (iv 8)] σ (onr (fun v77 σ =>
 aret v77 σ R) (pn R))) (
 acall TP fn_spec_l4Assign [a0, a2, a3, a4, (iv 7)] σ (onr (fun v82 σ =>
 aret v82 σ R) (pn R))))))))
def x117 : Sx := Q (.sbin .eql (Z 3) (.lit (.val (.string ⟨#[113, 117, 111, 116, 101]⟩)))) (P 0 (O 3 (D .neq (Z 0) (Y 2) (P 0 (.ret (Y 1)) (.ord [0, 1, 2, 3, 4, 5, 6, 7, 8, 9, 10, 11] [0, 0, 0, 4, 12, 28, 0, 64, 192, 508, 1022, 2047] (Q (A 7) (Q (F 0 0) (M 0 (Q (.idx 1 (Z 8) (Y 1)) (M 0 (.call 113 [(Z 2), (Z 0)] (.wat [] (Q (.bld [(iv 0), (iv 0), (iv 0), (iv 0), (str ⟨#[]⟩), nilS] [(0, 1), (1, 1), (2, 1), (3, 1), (4, 1), (5, 1)] [(0, (Y 1)), (1, (Z 10)), (5, (Z 0))]) (.call 112 [(Z 14), (Z 0)] (.wat [] (.ret (Y 0)))))))))))))))) (Q (.sbin .eql (Z 4) (.lit (.val (.string ⟨#[105, 102]⟩)))) (P 0 (O 4 (D .neq (Z 0) (Y 4) (P 0 (.ret (Y 1)) (.ord [0, 1, 2, 3, 4, 5, 7, 6, 8, 9] [0, 0, 2, 0, 0, 16, 56, 0, 255, 511] (Q (.slc 1 (Z 6) (some (Y 1)) none none) (Q (.bld [(iv 0), (iv 0), (iv 0), (iv 0), (str ⟨#[]⟩), nilS] [(0, 1), (1, 1), (2, 1), (3, 1), (4, 1), (5, 1)] [(0, (Y 4)), (1, (Z 6))]) (.call 112 [(Z 10), (Z 0)] (.wat [⟨none, (.slc 1 (Z 9) (some (Y 1)) none none), (Z 2)⟩] (.call 118 [(Z 11), (Z 2), (Z 0), (Z 7)] (.wat [] (.ret (Z 0)))))))))))) (Q (.sbin .eql (Z 5) (.lit (.val (.string ⟨#[98, 101, 103, 105, 110]⟩)))) (P 0 (O 5 (D .lss (Z 0) (Y 2) (P 0 (.ret (Y 1)) (.ord [0, 1, 2, 3, 4, 5, 7, 6, 8, 9] [0, 0, 2, 0, 0, 16, 56, 0, 255, 511] (Q (.slc 1 (Z 7) (some (Y 1)) none none) (Q (.bld [(iv 0), (iv 0), (iv 0), (iv 0), (str ⟨#[]⟩), nilS] [(0, 1), (1, 1), (2, 1), (3, 1), (4, 1), (5, 1)] [(0, (Y 6)), (1, (Z 7))]) (.call 112 [(Z 11), (Z 0)] (.wat [⟨none, (.slc 1 (Z 10) (some (Y 1)) none none), (Z 2)⟩] (.call 118 [(Z 12), (Z 2), (Z 0), (Z 8)] (.wat [] (.ret (Z 0)))))))))))) (Q (.sbin .eql (Z 6) (.lit (.val (.string ⟨#[108, 97, 109, 98, 100, 97]⟩)))) (P 0 (.call 137 [(Z 8), (Z 6), (Z 5), (Z 4)] (.ret (Z 0))) (Q (.sbin .eql (Z 7) (.lit (.val (.string ⟨#[108, 101, 116]⟩)))) (P 0 (.call 138 [(Z 9), (Z 7), (Z 6), (Z 5)] (.ret (Z 0))) (Q (.sbin .eql (Z 8) (.lit (.val (.string ⟨#[100, 101, 102, 105, 110, 101]⟩)))) (P 0 (.call 139 [(Z 10), (Z 8), (Z 7), (Z 6), (Y 8)] (.ret (Z 0))) (.call 139 [(Z 10), (Z 8), (Z 7), (Z 6), (Y 7)] (.ret (Z 0))))))))))))))
theorem x117_ok : okF TT Tryz.f117 5 x117 = true := by decide +kernel
theorem s_spec_l4Form_ok (h : s_spec_l4Form a0 a1 a2 a3 a4 σ R) : acall TP fn_spec_l4Form [a0, a1, a2, a3, a4] σ R :=
 acall_okF (ρ := [a4, a3, a2, a1, a0]) TT_ok Tryz.func117 rfl x117 x117_ok rfl h
def s_spec_l4All (a0 a1 a2 a3 : AV) (σ : AH) (R : AEnd → AH → Prop) : Prop :=
 lp (X := Tup [0, 1, 2, 3, 9]) (fun R1 y1 σ =>
 og (lenS y1.2.1) fun v13 =>
 og (ibin .lss y1.2.2.2.2.1 v13) fun v14 =>
 apick v14 (
 og (idx 1 y1.2.1 y1.2.2.2.2.1 σ) fun v20 =>
 og (lod v20 σ) fun v21 =>
 acall TP fn_spec_l4Expand [y1.1, v21, y1.2.2.1, y1.2.2.2.1] σ (onr (fun v24 σ =>
 og (ibin .neq v24 (iv 0)) fun v26 =>
 apick v26 (
 aret v24 σ R) (
 og (ibin .add y1.2.2.2.2.1 (iv 1)) fun v16 =>
 R1 (y1.1, y1.2.1, y1.2.2.1, y1.2.2.2.1, v16, ()) σ)) (pn R))) (
 aret (iv 0) σ R)) (a0, a1, a2, a3, (iv 0), ()) σ
def x118 : Sx := .lp [0, 1, 2, 3, 9] (O 1 (D .lss (Z 5) (Z 0) (P 0 (J 1 3 6 (M 0 (.call 81 [(Z 4), (Z 0), (Z 6), (Z 7)] (D .neq (Z 0) (Y 0) (P 0 (.ret (Z 1)) (D .add (Z 10) (Y 1) (.jump 0 [(Z 7), (Z 8), (Z 9), (Z 10), (Z 0)]))))))) (.ret (Y 0))))) [(Z 3), (Z 2), (Z 1), (Z 0), (Y 0)]
theorem x118_ok : okF TT Tryz.f118 4 x118 = true := by decide +kernel
theorem s_spec_l4All_ok (h : s_spec_l4All a0 a1 a2 a3 σ R) : acall TP fn_spec_l4All [a0, a1, a2, a3] σ R :=
 acall_okF (ρ := [a3, a2, a1, a0]) TT_ok Tryz.func118 rfl x118 x118_ok rfl h
def s_spec_l1Digits (a0 : AV) (σ : AH) (R : AEnd → AH → Prop) : Prop :=
 og (ibin .lss a0 (iv 0)) fun v4 =>
 apick v4 (
 og (aun .neg a0) fun v6 =>
 acall TP fn_spec_l1Digits [v6] σ (onr (fun v7 σ =>
 og (sbin .add (.val (.string ⟨#[45]⟩)) v7) fun v8 =>
 aret v8 σ R) (pn R))) (
 og (ibin .lss a0 (iv 10)) fun v10 =>
 apick v10 (
 og (ibin .add (iv 48) a0) fun v12 =>
 og (convI .u8 v12) fun v13 =>
 bsl 1 [(.val (.int .u8 0))] 1 [(0, v13)] σ fun v14 σ =>
 aconv TT ty_Lb ty_s v14 σ fun v15 σ =>
 aret v15 σ R) (
 og (ibin .quo a0 (iv 10)) fun v17 =>
 og (ibin .rem a0 (iv 10)) fun v20 =>
 og (ibin .add (iv 48) v20) fun v21 =>
 og (convI .u8 v21) fun v22 =>
 og (bslR 1 [(.val (.int .u8 0))] 1 [(0, v22)]) fun v23 =>
 og (b2s v23) fun v24 =>
 acall TP fn_spec_l1Digits [v17] σ (onr (fun v18 σ =>
 (True) ∧
 og (sbin .add v18 v24) fun v25 =>
 aret v25 σ R) (pn R))))
def x119 : Sx := D .lss (Z 0) (Y 0) (P 0 (Q (.aun .neg (Z 1)) (.call 119 [(Z 0)] (Q (.sbin .add (.lit (.val (.string ⟨#[45]⟩))) (Z 0)) (.ret (Z 0))))) (D .lss (Z 1) (Y 10) (P 0 (D .add (Y 48) (Z 2) (Q (.conv .u8 (Z 0)) (.bsl 1 [(.val (.int .u8 0))] 1 [(0, (Z 0))] (.cnv 22 9 (Z 0) (.ret (Z 0)))))) (.ord [0, 1, 3, 4, 5, 6, 7, 8, 2, 9, 10] [0, 1, 3, 0, 8, 24, 56, 120, 248, 511, 1023] (D .quo (Z 2) (Y 10) (D .rem (Z 3) (Y 10) (D .add (Y 48) (Z 0) (Q (.conv .u8 (Z 0)) (Q (.bslR 1 [(.val (.int .u8 0))] 1 [(0, (Z 0))]) (Q (.b2s (Z 0)) (.call 119 [(Z 5)] (.wat [] (Q (.sbin .add (Z 0) (Z 1)) (.ret (Z 0)))))))))))))))
theorem x119_ok : okF TT Tryz.f119 1 x119 = true := by decide +kernel
theorem s_spec_l1Digits_ok (h : s_spec_l1Digits a0 σ R) : acall TP fn_spec_l1Digits [a0] σ R :=
 acall_okF (ρ := [a0]) TT_ok Tryz.func119 rfl x119 x119_ok rfl h
def s_spec_TokensOf (a0 : AV) (σ : AH) (R : AEnd → AH → Prop) : Prop :=
 new [(iv 0), (iv 0), nilS] σ fun v2 σ =>
 og (lenStr a0) fun v7 =>
 og (ibin .gtr v7 (iv 400)) fun v8 =>
 apick v8 (
 og (bld [(iv 0), (iv 0), nilS] [(0, 1), (1, 1), (2, 1)] [(0, (iv 2))]) fun v9 =>
 sto 3 v2 v9 σ fun σ =>
 og (lodA 3 v2 σ) fun r2 =>
 aret r2 σ R) (
 acall TP fn_spec_l2Tokens [a0] σ (onr (fun v12 σ =>
 og (aext v12 0) fun v13 =>
 og (aext v12 1) fun v14 =>
 og (aext v12 2) fun v15 =>
 og (bld [(iv 0), (iv 0), nilS] [(0, 1), (1, 1), (2, 1)] [(0, v14), (1, v15), (2, v13)]) fun v19 =>
 sto 3 v2 v19 σ fun σ =>
 og (lodA 3 v2 σ) fun r2 =>
 aret r2 σ R) (pn R)))
def x120 : Sx := .new [(iv 0), (iv 0), nilS] (Q (.lenStr (Z 1)) (D .gtr (Z 0) (Y 400) (P 0 (Q (.bld [(iv 0), (iv 0), nilS] [(0, 1), (1, 1), (2, 1)] [(0, (Y 2))]) (.sto 3 (Z 3) (Z 0) (Q (.lodA 3 (Z 3)) (.ret (Z 0))))) (.call 140 [(Z 3)] (Q (.aext (Z 0) 0) (Q (.aext (Z 1) 1) (Q (.aext (Z 2) 2) (Q (.bld [(iv 0), (iv 0), nilS] [(0, 1), (1, 1), (2, 1)] [(0, (Z 1)), (1, (Z 0)), (2, (Z 2))]) (.sto 3 (Z 7) (Z 0) (Q (.lodA 3 (Z 7)) (.ret (Z 0))))))))))))
theorem x120_ok : okF TT Tryz.f120 1 x120 = true := by decide +kernel
theorem s_spec_TokensOf_ok (h : s_spec_TokensOf a0 σ R) : acall TP fn_spec_TokensOf [a0] σ R :=
 acall_okF (ρ := [a0]) TT_ok Tryz.func120 rfl x120 x120_ok rfl h
def s_spec_l3Read (a0 : AV) (σ : AH) (R : AEnd → AH → Prop) : Prop :=
 og (bld [nilS, nilS, nilS] [(0, 1), (1, 1), (2, 1)] []) fun v8 =>
 new [nilS, nilS, nilS] σ fun v5 σ =>
 sto 3 v5 v8 σ fun σ =>
 lp (X := Tup [0, 5, 6]) (fun R1 y1 σ =>
 og (lenS y1.1) fun v11 =>
 og (ibin .lss y1.2.2.1 v11) fun v12 =>
 apick v12 (
 og (ibin .gtr y1.2.2.1 (iv 0)) fun v16 =>
 og (gval v16 true false (fldA 1 y1.2.1)) fun v18 =>
 og (gval v16 true false (lod v18 σ)) fun v19 =>
 og (gval v16 true false (lenS v19)) fun v20 =>
 og (gval v16 true false (ibin .eql v20 (iv 0))) fun v21 =>
 og (pickV v16 v21 (.val (.bool false))) fun v22 =>
 apick v22 (
 aret (.tup [nilS, (iv 1), y1.2.2.1]) σ R) (
 og (idx 3 y1.1 y1.2.2.1 σ) fun v26 =>
 acall TP fn_spec_l3Token [y1.2.1, v26] σ (onr (fun v27 σ =>
 og (ibin .neq v27 (iv 0)) fun v29 =>
 apick v29 (
 aret (.tup [nilS, v27, y1.2.2.1]) σ R) (
 og (ibin .add y1.2.2.1 (iv 1)) fun v14 =>
 R1 (y1.1, y1.2.1, v14, ()) σ)) (pn R)))) (
 og (fldA 0 y1.2.1) fun v32 =>
 og (lod v32 σ) fun v33 =>
 og (lenS v33) fun v34 =>
 og (ibin .eql v34 (iv 0)) fun v35 =>
 og (gval v35 false false (fldA 1 y1.2.1)) fun v37 =>
 og (gval v35 false false (lod v37 σ)) fun v38 =>
 og (gval v35 false false (lenS v38)) fun v39 =>
 og (gval v35 false false (ibin .gtr v39 (iv 0))) fun v40 =>
 og (pickV v35 (.val (.bool true)) v40) fun v41 =>
 apick v41 (
 og (lenS y1.1) fun v43 =>
 aret (.tup [nilS, (iv 1), v43]) σ R) (
 og (fldA 0 y1.2.1) fun v44 =>
 og (lod v44 σ) fun v45 =>
 aret (.tup [v45, (iv 0), (iv 0)]) σ R))) (a0, v5, (iv 0), ()) σ
def x121 : Sx := Q (.bld [nilS, nilS, nilS] [(0, 1), (1, 1), (2, 1)] []) (.new [nilS, nilS, nilS] (.sto 3 (Z 0) (Z 1) (.lp [0, 5, 6] (O 0 (D .lss (Z 3) (Z 0) (P 0 (D .gtr (Z 4) (Y 0) (H 0 (F 1 4) (H 1 (L 0) (H 2 (N 0) (H 3 (B .eql (Z 0) (Y 0)) (Q (.pickV (Z 4) (Z 0) (.lit (.val (.bool false)))) (P 0 (.rets [(.lit nilS), (Y 1), (Z 10)]) (J 3 8 10 (.call 141 [(Z 10), (Z 0)] (D .neq (Z 0) (Y 0) (P 0 (.rets [(.lit nilS), (Z 1), (Z 13)]) (D .add (Z 13) (Y 1) (.jump 0 [(Z 12), (Z 13), (Z 0)]))))))))))))) (Q (F 0 3) (M 0 (O 0 (D .eql (Z 0) (Y 0) (G 0 (F 1 7) (G 1 (L 0) (G 2 (N 0) (G 3 (B .gtr (Z 0) (Y 0)) (Q (.pickV (Z 4) (.lit (.val (.bool true))) (Z 0)) (P 0 (O 11 (.rets [(.lit nilS), (Y 1), (Z 0)])) (Q (F 0 12) (M 0 (.rets [(Z 0), (Y 0), (Y 0)])))))))))))))))) [(Z 2), (Z 0), (Y 0)])))
theorem x121_ok : okF TT Tryz.f121 1 x121 = true := by decide +kernel
theorem s_spec_l3Read_ok (h : s_spec_l3Read a0 σ R) : acall TP fn_spec_l3Read [a0] σ R :=
 acall_okF (ρ := [a0]) TT_ok Tryz.func121 rfl x121 x121_ok rfl h
end Go.Proofs.YtbapalgndjiamaaGreatDoor.E
