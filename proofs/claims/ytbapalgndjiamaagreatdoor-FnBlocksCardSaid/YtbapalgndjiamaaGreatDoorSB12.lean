import Derived.Test.YtbapalgndjiamaaGreatDoorSB11
import Derived.Shelf.SortM.Plain
import Derived.Shelf.SortM.SortNone
import Derived.Shelf.SlicesG.CompactI
import Derived.Lib.SortBridge
/- What functions come to. Printed by mkg.py. -/
set_option maxRecDepth 1000000
namespace Go.Proofs.YtbapalgndjiamaaGreatDoor.E
open Go Go.RowKit X
set_option linter.unusedVariables false
set_option linter.unusedSectionVars false
variable [Lam] {a0 a1 a2 a3 a4 a5 a6 : AV} {σ : AH} {R : AEnd → AH → Prop}
def s_spec_l4Kids (a0 a1 : AV) (σ : AH) (R : AEnd → AH → Prop) : Prop :=
 bsl 1 [(iv 0)] 0 [] σ fun v7 σ =>
 lp (X := Tup [0, 1, 5, 6]) (fun R1 y1 σ =>
 og (lenS y1.1) fun v10 =>
 og (ibin .lss y1.2.2.2.1 v10) fun v11 =>
 apick v11 (
 jn (X := Tup [0, 1, 5, 6]) (fun x2 σ =>
 og (ibin .add x2.2.2.2.1 (iv 1)) fun v13 =>
 R1 (x2.1, x2.2.1, x2.2.2.1, v13, ()) σ) fun k2 =>
 og (idx 6 y1.1 y1.2.2.2.1 σ) fun v16 =>
 og (fldA 1 v16) fun v17 =>
 og (lod v17 σ) fun v18 =>
 og (ibin .eql v18 y1.2.1) fun v20 =>
 apick v20 (
 bsl 1 [(iv 0)] 1 [(0, y1.2.2.2.1)] σ fun v23 σ =>
 app 1 y1.2.2.1 v23 σ fun v24 σ =>
 k2 (y1.1, y1.2.1, v24, y1.2.2.2.1, ()) σ) (
 k2 (y1.1, y1.2.1, y1.2.2.1, y1.2.2.2.1, ()) σ)) (
 aret y1.2.2.1 σ R)) (a0, a1, v7, (iv 0), ()) σ
def x122 : Sx := .bsl 1 [(iv 0)] 0 [] (.lp [0, 1, 5, 6] (O 0 (D .lss (Z 4) (Z 0) (P 0 (.jn 467 [0, 1, 5, 6] (D .add (Z 3) (Y 1) (.jump 0 [(Z 1), (Z 2), (Z 3), (Z 0)])) (J 6 2 5 (Q (F 1 0) (M 0 (D .eql (Z 0) (Z 6) (P 0 (.bsl 1 [(iv 0)] 1 [(0, (Z 9))] (.app 1 (Z 9) (Z 0) (.jump 0 [(Z 8), (Z 9), (Z 0), (Z 11)]))) (.jump 0 [(Z 6), (Z 7), (Z 8), (Z 9)]))))))) (.ret (Z 4))))) [(Z 2), (Z 1), (Z 0), (Y 0)])
theorem x122_ok : okF TT Tryz.f122 2 x122 = true := by decide +kernel
theorem s_spec_l4Kids_ok (h : s_spec_l4Kids a0 a1 σ R) : acall TP fn_spec_l4Kids [a0, a1] σ R :=
 acall_okF (ρ := [a1, a0]) TT_ok Tryz.func122 rfl x122 x122_ok rfl h
def s_spec_l9Put (a0 a1 a2 : AV) (σ : AH) (R : AEnd → AH → Prop) : Prop :=
 abox a2 σ fun v5 σ =>
 frz v5 σ fun f5 σ =>
 og (anil a0) fun v8 =>
 og (fldA 1 v8) fun v9 =>
 og (lod v9 σ) fun v10 =>
 og (anil a0) fun v13 =>
 og (fldA 1 v13) fun v14 =>
 og (lod v14 σ) fun v15 =>
 og (idx 2 v15 a1 σ) fun v17 =>
 og (fldA 1 v17) fun v18 =>
 og (lod v18 σ) fun v19 =>
 og (lodA 7 f5 σ) fun v20 =>
 og (bslR 7 [(iv 0), (iv 0), (iv 0), (iv 0), (iv 0), (str ⟨#[]⟩), nilS] 1 [(0, v20)]) fun v21 =>
 app 7 v19 v21 σ fun v22 σ =>
 (lod v9 σ = some v10 ∧ True) ∧
 og (idx 2 v10 a1 σ) fun v23 =>
 og (fldA 1 v23) fun v24 =>
 sto 1 v24 v22 σ fun σ =>
 (True) ∧
 og (anil a0) fun v26 =>
 og (fldA 1 v26) fun v27 =>
 og (lod v27 σ) fun v28 =>
 og (idx 2 v28 a1 σ) fun v30 =>
 og (fldA 1 v30) fun v31 =>
 og (lod v31 σ) fun v32 =>
 og (lenS v32) fun v33 =>
 og (ibin .sub v33 (iv 1)) fun v34 =>
 aret v34 σ R
def x123 : Sx := .box (Z 0) (.frz 3 (Z 0) (.ord [0, 1, 2, 3, 4, 5, 6, 7, 8, 9, 10, 11, 12, 13, 14, 15, 16, 17, 18] [0, 1, 3, 7, 0, 0, 32, 96, 224, 0, 992, 2016, 4064, 0, 8192, 32736, 65535, 131071, 262143] (Q (A 4) (Q (F 1 0) (M 0 (Q (A 7) (Q (F 1 0) (M 0 (J 2 0 9 (Q (F 1 0) (M 0 (Q (.lodA 7 (Z 9)) (Q (.bslR 7 [(iv 0), (iv 0), (iv 0), (iv 0), (iv 0), (str ⟨#[]⟩), nilS] 1 [(0, (Z 0))]) (.app 7 (Z 2) (Z 0) (.wat [⟨none, (.lod (Z 10)), (Z 9)⟩] (J 2 9 15 (Q (F 1 0) (.sto 1 (Z 0) (Z 2) (.wat [] (Q (A 18) (Q (F 1 0) (M 0 (J 2 0 20 (Q (F 1 0) (M 0 (O 0 (D .sub (Z 0) (Y 1) (.ret (Z 0)))))))))))))))))))))))))))))
theorem x123_ok : okF TT Tryz.f123 3 x123 = true := by decide +kernel
theorem s_spec_l9Put_ok (h : s_spec_l9Put a0 a1 a2 σ R) : acall TP fn_spec_l9Put [a0, a1, a2] σ R :=
 acall_okF (ρ := [a2, a1, a0]) TT_ok Tryz.func123 rfl x123 x123_ok rfl h
def s_spec_l9End (a0 a1 a2 : AV) (σ : AH) (R : AEnd → AH → Prop) : Prop :=
 apick a2 (
 og (bld [(iv 0), (iv 0), (iv 0), (iv 0), (iv 0), (str ⟨#[]⟩), nilS] [(0, 1), (1, 1), (2, 1), (3, 1), (4, 1), (5, 1), (6, 1)] [(0, (iv 12))]) fun v9 =>
 acall TP fn_spec_l9Put [a0, a1, v9] σ (onr (fun v10 σ =>
 aret (.tup []) σ R) (pn R))) (
 aret (.tup []) σ R)
def x124 : Sx := P 0 (Q (.bld [(iv 0), (iv 0), (iv 0), (iv 0), (iv 0), (str ⟨#[]⟩), nilS] [(0, 1), (1, 1), (2, 1), (3, 1), (4, 1), (5, 1), (6, 1)] [(0, (Y 12))]) (.call 123 [(Z 3), (Z 2), (Z 0)] (.rets []))) (.rets [])
theorem x124_ok : okF TT Tryz.f124 3 x124 = true := by decide +kernel
theorem s_spec_l9End_ok (h : s_spec_l9End a0 a1 a2 σ R) : acall TP fn_spec_l9End [a0, a1, a2] σ R :=
 acall_okF (ρ := [a2, a1, a0]) TT_ok Tryz.func124 rfl x124 x124_ok rfl h
def s_spec_l9If (a0 a1 a2 a3 : AV) (σ : AH) (R : AEnd → AH → Prop) : Prop :=
 og (idx 1 a1 (iv 0) σ) fun v12 =>
 og (lod v12 σ) fun v13 =>
 acall TP fn_spec_l9Make [a0, v13, a2, (.val (.bool false))] σ (onr (fun v15 σ =>
 og (bld [(iv 0), (iv 0), (iv 0), (iv 0), (iv 0), (str ⟨#[]⟩), nilS] [(0, 1), (1, 1), (2, 1), (3, 1), (4, 1), (5, 1), (6, 1)] [(0, (iv 6))]) fun v18 =>
 acall TP fn_spec_l9Put [a0, a2, v18] σ (onr (fun v19 σ =>
 og (idx 1 a1 (iv 1) σ) fun v22 =>
 og (lod v22 σ) fun v23 =>
 acall TP fn_spec_l9Make [a0, v23, a2, a3] σ (onr (fun v26 σ =>
 jn (X := Tup [0, 1, 2, 3, 8, 9]) (fun x1 σ =>
 og (anil x1.1) fun v34 =>
 og (fldA 1 v34) fun v35 =>
 og (lod v35 σ) fun v36 =>
 og (idx 2 v36 x1.2.2.1 σ) fun v38 =>
 og (fldA 1 v38) fun v39 =>
 og (lod v39 σ) fun v40 =>
 og (anil x1.1) fun v43 =>
 og (fldA 1 v43) fun v44 =>
 og (lod v44 σ) fun v45 =>
 og (idx 2 v45 x1.2.2.1 σ) fun v47 =>
 og (fldA 1 v47) fun v48 =>
 og (lod v48 σ) fun v49 =>
 og (lenS v49) fun v50 =>
 og (idx 7 v40 x1.2.2.2.2.1 σ) fun v51 =>
 og (fldA 1 v51) fun v52 =>
 sto 1 v52 v50 σ fun σ =>
 (True) ∧
 og (idx 1 x1.2.1 (iv 2) σ) fun v55 =>
 og (lod v55 σ) fun v56 =>
 acall TP fn_spec_l9Make [x1.1, v56, x1.2.2.1, x1.2.2.2.1] σ (onr (fun v59 σ =>
 og (ibin .geq x1.2.2.2.2.2.1 (iv 0)) fun v61 =>
 apick v61 (
 og (anil x1.1) fun v63 =>
 og (fldA 1 v63) fun v64 =>
 og (lod v64 σ) fun v65 =>
 og (idx 2 v65 x1.2.2.1 σ) fun v67 =>
 og (fldA 1 v67) fun v68 =>
 og (lod v68 σ) fun v69 =>
 og (anil x1.1) fun v72 =>
 og (fldA 1 v72) fun v73 =>
 og (lod v73 σ) fun v74 =>
 og (idx 2 v74 x1.2.2.1 σ) fun v76 =>
 og (fldA 1 v76) fun v77 =>
 og (lod v77 σ) fun v78 =>
 og (lenS v78) fun v79 =>
 og (idx 7 v69 x1.2.2.2.2.2.1 σ) fun v80 =>
 og (fldA 1 v80) fun v81 =>
 sto 1 v81 v79 σ fun σ =>
 (True) ∧
 aret (.tup []) σ R) (
 aret (.tup []) σ R)) (pn R))) fun k1 =>
 og (aun .not a3) fun v28 =>
 apick v28 (
 og (bld [(iv 0), (iv 0), (iv 0), (iv 0), (iv 0), (str ⟨#[]⟩), nilS] [(0, 1), (1, 1), (2, 1), (3, 1), (4, 1), (5, 1), (6, 1)] [(0, (iv 5))]) fun v31 =>
 acall TP fn_spec_l9Put [a0, a2, v31] σ (onr (fun v32 σ =>
 k1 (a0, a1, a2, a3, v19, v32, ()) σ) (pn R))) (
 k1 (a0, a1, a2, a3, v19, (iv (-1)), ()) σ)) (pn R))) (pn R))) (pn R))
def x125 : Sx := Q (.idx 1 (Z 2) (Y 0)) (M 0 (.call 85 [(Z 5), (Z 0), (Z 3), (.lit (.val (.bool false)))] (Q (.bld [(iv 0), (iv 0), (iv 0), (iv 0), (iv 0), (str ⟨#[]⟩), nilS] [(0, 1), (1, 1), (2, 1), (3, 1), (4, 1), (5, 1), (6, 1)] [(0, (Y 6))]) (.call 123 [(Z 7), (Z 5), (Z 0)] (Q (.idx 1 (Z 7) (Y 1)) (M 0 (.call 85 [(Z 10), (Z 0), (Z 8), (Z 7)] (.jn 63 [0, 1, 2, 3, 8, 9] (.ord [0, 1, 2, 3, 4, 5, 6, 7, 8, 9, 10, 11, 12, 13, 14, 15, 16, 17, 18, 19, 20] [0, 1, 3, 7, 0, 31, 63, 127, 0, 0, 512, 1536, 3584, 0, 15872, 32256, 65024, 130560, 262143, 524287, 1048575] (Q (A 0) (Q (F 1 0) (M 0 (J 2 0 5 (Q (F 1 0) (M 0 (Q (A 6) (Q (F 1 0) (M 0 (J 2 0 11 (Q (F 1 0) (M 0 (O 0 (J 7 7 17 (Q (F 1 0) (.sto 1 (Z 0) (Z 2) (.wat [] (Q (.idx 1 (Z 16) (Y 2)) (M 0 (.call 85 [(Z 17), (Z 0), (Z 19), (Z 20)] (D .geq (Z 23) (Y 0) (P 0 (.ord [0, 1, 2, 3, 4, 5, 6, 7, 8, 9, 10, 11, 12, 13, 14, 15, 16, 17, 18, 19, 20] [0, 1, 3, 7, 0, 31, 63, 127, 0, 0, 512, 1536, 3584, 0, 15872, 32256, 65024, 130560, 262143, 524287, 1048575] (Q (A 19) (Q (F 1 0) (M 0 (J 2 0 24 (Q (F 1 0) (M 0 (Q (A 25) (Q (F 1 0) (M 0 (J 2 0 30 (Q (F 1 0) (M 0 (O 0 (J 7 7 37 (Q (F 1 0) (.sto 1 (Z 0) (Z 2) (.wat [] (.rets []))))))))))))))))))) (.rets [])))))))))))))))))))))))) (Q (.aun .not (Z 8)) (P 0 (Q (.bld [(iv 0), (iv 0), (iv 0), (iv 0), (iv 0), (str ⟨#[]⟩), nilS] [(0, 1), (1, 1), (2, 1), (3, 1), (4, 1), (5, 1), (6, 1)] [(0, (Y 5))]) (.call 123 [(Z 13), (Z 11), (Z 0)] (.jump 0 [(Z 14), (Z 13), (Z 12), (Z 11), (Z 6), (Z 0)]))) (.jump 0 [(Z 12), (Z 11), (Z 10), (Z 9), (Z 4), (Y (-1))])))))))))))
theorem x125_ok : okF TT Tryz.f125 4 x125 = true := by decide +kernel
theorem s_spec_l9If_ok (h : s_spec_l9If a0 a1 a2 a3 σ R) : acall TP fn_spec_l9If [a0, a1, a2, a3] σ R :=
 acall_okF (ρ := [a3, a2, a1, a0]) TT_ok Tryz.func125 rfl x125 x125_ok rfl h
def s_spec_l2Name (a0 : AV) (σ : AH) (R : AEnd → AH → Prop) : Prop :=
 bsl 1 [(str ⟨#[]⟩)] 8 [(0, (.val (.string ⟨#[120]⟩))), (1, (.val (.string ⟨#[121]⟩))), (2, (.val (.string ⟨#[102]⟩))), (3, (.val (.string ⟨#[43]⟩))), (4, (.val (.string ⟨#[99, 97, 114]⟩))), (5, (.val (.string ⟨#[105, 102]⟩))), (6, (.val (.string ⟨#[110, 117, 108, 108, 63]⟩))), (7, (.val (.string ⟨#[97]⟩)))] σ fun v3 σ =>
 acall TP fn_spec_l1Next [a0, (iv 8)] σ (onr (fun v5 σ =>
 og (idx 1 v3 v5 σ) fun v6 =>
 og (lod v6 σ) fun v7 =>
 aret v7 σ R) (pn R))
def x126 : Sx := .bsl 1 [(str ⟨#[]⟩)] 8 [(0, (.lit (.val (.string ⟨#[120]⟩)))), (1, (.lit (.val (.string ⟨#[121]⟩)))), (2, (.lit (.val (.string ⟨#[102]⟩)))), (3, (.lit (.val (.string ⟨#[43]⟩)))), (4, (.lit (.val (.string ⟨#[99, 97, 114]⟩)))), (5, (.lit (.val (.string ⟨#[105, 102]⟩)))), (6, (.lit (.val (.string ⟨#[110, 117, 108, 108, 63]⟩)))), (7, (.lit (.val (.string ⟨#[97]⟩))))] (.call 17 [(Z 1), (Y 8)] (J 1 1 0 (M 0 (.ret (Z 0)))))
theorem x126_ok : okF TT Tryz.f126 1 x126 = true := by decide +kernel
theorem s_spec_l2Name_ok (h : s_spec_l2Name a0 σ R) : acall TP fn_spec_l2Name [a0] σ R :=
 acall_okF (ρ := [a0]) TT_ok Tryz.func126 rfl x126 x126_ok rfl h
def s_spec_l2Byte (a0 : AV) (σ : AH) (R : AEnd → AH → Prop) : Prop :=
 og (ibin .geq a0 (.val (.int .u8 97))) fun v6 =>
 og (gval v6 true false (some a0)) fun v8 =>
 og (gval v6 true false (ibin .leq v8 (.val (.int .u8 122)))) fun v9 =>
 og (pickV v6 v9 (.val (.bool false))) fun v10 =>
 apick v10 (
 aret (.val (.bool true)) σ R) (
 lp (X := Tup [0, 3, 4]) (fun R1 y1 σ =>
 og (lenStr y1.2.1) fun v13 =>
 og (ibin .lss y1.2.2.1 v13) fun v14 =>
 apick v14 (
 og (idxStr y1.2.1 y1.2.2.1) fun v19 =>
 og (ibin .eql v19 y1.1) fun v21 =>
 apick v21 (
 aret (.val (.bool true)) σ R) (
 og (ibin .add y1.2.2.1 (iv 1)) fun v16 =>
 R1 (y1.1, y1.2.1, v16, ()) σ)) (
 aret (.val (.bool false)) σ R)) (a0, (.val (.string ⟨#[43, 45, 42, 47, 60, 61, 63, 33]⟩)), (iv 0), ()) σ)
def x127 : Sx := D .geq (Z 0) (.lit (.val (.int .u8 97))) (H 0 (.ret (Z 1)) (H 1 (B .leq (Z 0) (.lit (.val (.int .u8 122)))) (Q (.pickV (Z 2) (Z 0) (.lit (.val (.bool false)))) (P 0 (.ret (.lit (.val (.bool true)))) (.lp [0, 3, 4] (Q (.lenStr (Z 1)) (D .lss (Z 3) (Z 0) (P 0 (Q (.idxStr (Z 3) (Z 4)) (D .eql (Z 0) (Z 3) (P 0 (.ret (.lit (.val (.bool true)))) (D .add (Z 6) (Y 1) (.jump 0 [(Z 5), (Z 6), (Z 0)]))))) (.ret (.lit (.val (.bool false))))))) [(Z 4), (.lit (.val (.string ⟨#[43, 45, 42, 47, 60, 61, 63, 33]⟩))), (Y 0)])))))
theorem x127_ok : okF TT Tryz.f127 1 x127 = true := by decide +kernel
theorem s_spec_l2Byte_ok (h : s_spec_l2Byte a0 σ R) : acall TP fn_spec_l2Byte [a0] σ R :=
 acall_okF (ρ := [a0]) TT_ok Tryz.func127 rfl x127 x127_ok rfl h
def s_spec_l4Lambda (a0 a1 a2 a3 : AV) (σ : AH) (R : AEnd → AH → Prop) : Prop :=
 og (lenS a1) fun v16 =>
 og (ibin .neq v16 (iv 3)) fun v17 =>
 og (gval v17 false false (some a0)) fun v19 =>
 og (gval v17 false false (anil v19)) fun v20 =>
 og (gval v17 false false (fldA 0 v20)) fun v21 =>
 og (gval v17 false false (lod v21 σ)) fun v22 =>
 og (gval v17 false false (some a1)) fun v23 =>
 og (gval v17 false false (idx 1 v23 (iv 1) σ)) fun v24 =>
 og (gval v17 false false (lod v24 σ)) fun v25 =>
 og (gval v17 false false (idx 4 v22 v25 σ)) fun v26 =>
 og (gval v17 false false (fldA 0 v26)) fun v27 =>
 og (gval v17 false false (lod v27 σ)) fun v28 =>
 og (gval v17 false false (ibin .neq v28 (iv 4))) fun v29 =>
 og (pickV v17 (.val (.bool true)) v29) fun v30 =>
 apick v30 (
 aret (iv 1) σ R) (
 og (anil a0) fun v32 =>
 og (fldA 0 v32) fun v33 =>
 og (lod v33 σ) fun v34 =>
 og (idx 1 a1 (iv 1) σ) fun v36 =>
 og (lod v36 σ) fun v37 =>
 acall TP fn_spec_l3Parts [v34, v37] σ (onr (fun v38 σ =>
 (True) ∧
 bsl 1 [(str ⟨#[]⟩)] 0 [] σ fun v39 σ =>
 lp (X := Tup [0, 1, 2, 3, 9, 10, 11]) (fun R1 y1 σ =>
 og (lenS y1.2.2.2.2.1) fun v42 =>
 og (ibin .lss y1.2.2.2.2.2.2.1 v42) fun v43 =>
 apick v43 (
 og (idx 1 y1.2.2.2.2.1 y1.2.2.2.2.2.2.1 σ) fun v50 =>
 og (lod v50 σ) fun v51 =>
 acall TP fn_spec_l4Param [y1.1, v51, y1.2.2.2.2.2.1] σ (onr (fun v53 σ =>
 og (aext v53 0) fun v54 =>
 og (aext v53 1) fun v55 =>
 og (ibin .neq v55 (iv 0)) fun v57 =>
 apick v57 (
 aret v55 σ R) (
 bsl 1 [(str ⟨#[]⟩)] 1 [(0, v54)] σ fun v61 σ =>
 app 1 y1.2.2.2.2.2.1 v61 σ fun v62 σ =>
 og (ibin .add y1.2.2.2.2.2.2.1 (iv 1)) fun v45 =>
 R1 (y1.1, y1.2.1, y1.2.2.1, y1.2.2.2.1, y1.2.2.2.2.1, v62, v45, ()) σ)) (pn R))) (
 og (lenS y1.2.2.2.2.2.1) fun v64 =>
 og (ibin .gtr v64 (iv 3)) fun v65 =>
 apick v65 (
 aret (iv 2) σ R) (
 og (lenS y1.2.2.2.2.2.1) fun v69 =>
 og (bld [(iv 0), (iv 0), (iv 0), (iv 0), (str ⟨#[]⟩), nilS] [(0, 1), (1, 1), (2, 1), (3, 1), (4, 1), (5, 1)] [(0, (iv 5)), (1, y1.2.2.1), (2, v69)]) fun v70 =>
 acall TP fn_spec_l4Put [y1.1, v70] σ (onr (fun v71 σ =>
 og (idx 1 y1.2.1 (iv 2) σ) fun v74 =>
 og (lod v74 σ) fun v75 =>
 acall TP fn_spec_l4Bind [y1.1, y1.2.2.2.2.2.1, y1.2.2.2.1] σ (onr (fun v80 σ =>
 (lod v74 σ = some v75 ∧ idx 1 y1.2.1 (iv 2) σ = some v74 ∧ True) ∧
 acall TP fn_spec_l4Expand [y1.1, v75, v71, v80] σ (onr (fun v81 σ =>
 (True) ∧
 aret v81 σ R) (pn R))) (pn R))) (pn R))))) (a0, a1, a2, a3, v38, v39, (iv 0), ()) σ) (pn R)))
def x137 : Sx := .ord [0, 1, 2, 3, 4, 5, 6, 7, 8, 9, 10, 11, 12, 13, 14, 15] [0, 1, 3, 7, 15, 31, 63, 127, 15, 271, 783, 2047, 4095, 8191, 16383, 32767] (O 2 (D .neq (Z 0) (Y 3) (G 0 (.ret (Z 5)) (G 1 (A 0) (G 2 (F 0 0) (G 3 (L 0) (G 4 (.ret (Z 8)) (G 5 (.idx 1 (Z 0) (Y 1)) (G 6 (L 0) (G 7 (I 4 3 0) (G 8 (F 0 0) (G 9 (L 0) (G 10 (B .neq (Z 0) (Y 4)) (Q (.pickV (Z 11) (.lit (.val (.bool true))) (Z 0)) (P 0 (.ret (Y 1)) (.ord [0, 1, 2, 3, 4, 5, 6, 7, 8] [0, 1, 3, 7, 0, 16, 48, 127, 255] (Q (A 17) (Q (F 0 0) (M 0 (Q (.idx 1 (Z 19) (Y 1)) (M 0 (.call 116 [(Z 2), (Z 0)] (.wat [] (.bsl 1 [(str ⟨#[]⟩)] 0 [] (.lp [0, 1, 2, 3, 9, 10, 11] (O 4 (D .lss (Z 7) (Z 0) (P 0 (J 1 6 8 (M 0 (.call 147 [(Z 4), (Z 0), (Z 9)] (Q (.aext (Z 0) 0) (Q (.aext (Z 1) 1) (D .neq (Z 0) (Y 0) (P 0 (.ret (Z 1)) (.bsl 1 [(str ⟨#[]⟩)] 1 [(0, (Z 2))] (.app 1 (Z 14) (Z 0) (D .add (Z 16) (Y 1) (.jump 0 [(Z 11), (Z 12), (Z 13), (Z 14), (Z 15), (Z 1), (Z 0)]))))))))))) (O 7 (D .gtr (Z 0) (Y 3) (P 0 (.ret (Y 2)) (O 9 (Q (.bld [(iv 0), (iv 0), (iv 0), (iv 0), (str ⟨#[]⟩), nilS] [(0, 1), (1, 1), (2, 1), (3, 1), (4, 1), (5, 1)] [(0, (Y 5)), (1, (Z 7)), (2, (Z 0))]) (.call 112 [(Z 6), (Z 0)] (.ord [0, 1, 2, 3, 4, 5, 6, 7, 8, 9, 10] [0, 0, 2, 6, 0, 0, 0, 0, 224, 511, 1023] (Q (.idx 1 (Z 8) (Y 2)) (M 0 (.call 148 [(Z 9), (Z 14), (Z 12)] (.wat [⟨none, (.lod (Z 2)), (Z 1)⟩, ⟨none, (.idx 1 (Z 11) (Y 2)), (Z 2)⟩] (.call 81 [(Z 10), (Z 1), (Z 3), (Z 0)] (.wat [] (.ret (Z 0)))))))))))))))))) [(Z 24), (Z 23), (Z 22), (Z 21), (Z 1), (Z 0), (Y 0)])))))))))))))))))))))))))
theorem x137_ok : okF TT Tryz.f137 4 x137 = true := by decide +kernel
theorem s_spec_l4Lambda_ok (h : s_spec_l4Lambda a0 a1 a2 a3 σ R) : acall TP fn_spec_l4Lambda [a0, a1, a2, a3] σ R :=
 acall_okF (ρ := [a3, a2, a1, a0]) TT_ok Tryz.func137 rfl x137 x137_ok rfl h
def s_spec_l4Let (a0 a1 a2 a3 : AV) (σ : AH) (R : AEnd → AH → Prop) : Prop :=
 og (lenS a1) fun v20 =>
 og (ibin .neq v20 (iv 3)) fun v21 =>
 og (gval v21 false false (some a0)) fun v23 =>
 og (gval v21 false false (anil v23)) fun v24 =>
 og (gval v21 false false (fldA 0 v24)) fun v25 =>
 og (gval v21 false false (lod v25 σ)) fun v26 =>
 og (gval v21 false false (some a1)) fun v27 =>
 og (gval v21 false false (idx 1 v27 (iv 1) σ)) fun v28 =>
 og (gval v21 false false (lod v28 σ)) fun v29 =>
 og (gval v21 false false (idx 4 v26 v29 σ)) fun v30 =>
 og (gval v21 false false (fldA 0 v30)) fun v31 =>
 og (gval v21 false false (lod v31 σ)) fun v32 =>
 og (gval v21 false false (ibin .neq v32 (iv 4))) fun v33 =>
 og (pickV v21 (.val (.bool true)) v33) fun v34 =>
 apick v34 (
 aret (iv 1) σ R) (
 og (anil a0) fun v36 =>
 og (fldA 0 v36) fun v37 =>
 og (lod v37 σ) fun v38 =>
 og (idx 1 a1 (iv 1) σ) fun v40 =>
 og (lod v40 σ) fun v41 =>
 acall TP fn_spec_l3Parts [v38, v41] σ (onr (fun v42 σ =>
 (True) ∧
 bsl 1 [(str ⟨#[]⟩)] 0 [] σ fun v43 σ =>
 bsl 1 [(iv 0)] 0 [] σ fun v44 σ =>
 lp (X := Tup [0, 1, 2, 3, 9, 10, 11, 12]) (fun R1 y1 σ =>
 og (lenS y1.2.2.2.2.1) fun v47 =>
 og (ibin .lss y1.2.2.2.2.2.2.2.1 v47) fun v48 =>
 apick v48 (
 og (anil y1.1) fun v52 =>
 og (fldA 0 v52) fun v53 =>
 og (lod v53 σ) fun v54 =>
 og (idx 1 y1.2.2.2.2.1 y1.2.2.2.2.2.2.2.1 σ) fun v57 =>
 og (lod v57 σ) fun v58 =>
 acall TP fn_spec_l3Parts [v54, v58] σ (onr (fun v59 σ =>
 (True) ∧
 og (lenS v59) fun v61 =>
 og (ibin .neq v61 (iv 2)) fun v62 =>
 apick v62 (
 aret (iv 1) σ R) (
 og (idx 1 v59 (iv 0) σ) fun v66 =>
 og (lod v66 σ) fun v67 =>
 acall TP fn_spec_l4Param [y1.1, v67, y1.2.2.2.2.2.1] σ (onr (fun v69 σ =>
 og (aext v69 0) fun v70 =>
 og (aext v69 1) fun v71 =>
 og (ibin .neq v71 (iv 0)) fun v73 =>
 apick v73 (
 aret v71 σ R) (
 bsl 1 [(str ⟨#[]⟩)] 1 [(0, v70)] σ fun v77 σ =>
 app 1 y1.2.2.2.2.2.1 v77 σ fun v78 σ =>
 og (idx 1 v59 (iv 1) σ) fun v81 =>
 og (lod v81 σ) fun v82 =>
 bsl 1 [(iv 0)] 1 [(0, v82)] σ fun v83 σ =>
 app 1 y1.2.2.2.2.2.2.1 v83 σ fun v84 σ =>
 og (ibin .add y1.2.2.2.2.2.2.2.1 (iv 1)) fun v50 =>
 R1 (y1.1, y1.2.1, y1.2.2.1, y1.2.2.2.1, y1.2.2.2.2.1, v78, v84, v50, ()) σ)) (pn R)))) (pn R))) (
 og (lenS y1.2.2.2.2.2.1) fun v86 =>
 og (ibin .gtr v86 (iv 3)) fun v87 =>
 apick v87 (
 aret (iv 2) σ R) (
 og (bld [(iv 0), (iv 0), (iv 0), (iv 0), (str ⟨#[]⟩), nilS] [(0, 1), (1, 1), (2, 1), (3, 1), (4, 1), (5, 1)] [(0, (iv 9)), (1, y1.2.2.1)]) fun v90 =>
 acall TP fn_spec_l4Put [y1.1, v90] σ (onr (fun v91 σ =>
 og (lenS y1.2.2.2.2.2.1) fun v95 =>
 og (bld [(iv 0), (iv 0), (iv 0), (iv 0), (str ⟨#[]⟩), nilS] [(0, 1), (1, 1), (2, 1), (3, 1), (4, 1), (5, 1)] [(0, (iv 5)), (1, v91), (2, v95)]) fun v96 =>
 acall TP fn_spec_l4Put [y1.1, v96] σ (onr (fun v97 σ =>
 og (idx 1 y1.2.1 (iv 2) σ) fun v100 =>
 og (lod v100 σ) fun v101 =>
 acall TP fn_spec_l4Bind [y1.1, y1.2.2.2.2.2.1, y1.2.2.2.1] σ (onr (fun v106 σ =>
 (lod v100 σ = some v101 ∧ idx 1 y1.2.1 (iv 2) σ = some v100 ∧ True) ∧
 acall TP fn_spec_l4Expand [y1.1, v101, v97, v106] σ (onr (fun v107 σ =>
 (True) ∧
 og (ibin .neq v107 (iv 0)) fun v109 =>
 apick v109 (
 aret v107 σ R) (
 acall TP fn_spec_l4All [y1.1, y1.2.2.2.2.2.2.1, v91, y1.2.2.2.1] σ (onr (fun v115 σ =>
 aret v115 σ R) (pn R)))) (pn R))) (pn R))) (pn R))) (pn R))))) (a0, a1, a2, a3, v42, v43, v44, (iv 0), ()) σ) (pn R)))
def x138 : Sx := .ord [0, 1, 2, 3, 4, 5, 6, 7, 8, 9, 10, 11, 12, 13, 14, 15] [0, 1, 3, 7, 15, 31, 63, 127, 15, 271, 783, 2047, 4095, 8191, 16383, 32767] (O 2 (D .neq (Z 0) (Y 3) (G 0 (.ret (Z 5)) (G 1 (A 0) (G 2 (F 0 0) (G 3 (L 0) (G 4 (.ret (Z 8)) (G 5 (.idx 1 (Z 0) (Y 1)) (G 6 (L 0) (G 7 (I 4 3 0) (G 8 (F 0 0) (G 9 (L 0) (G 10 (B .neq (Z 0) (Y 4)) (Q (.pickV (Z 11) (.lit (.val (.bool true))) (Z 0)) (P 0 (.ret (Y 1)) (.ord [0, 1, 2, 3, 4, 5, 6, 7, 8] [0, 1, 3, 7, 0, 16, 48, 127, 255] (Q (A 17) (Q (F 0 0) (M 0 (Q (.idx 1 (Z 19) (Y 1)) (M 0 (.call 116 [(Z 2), (Z 0)] (.wat [] (.bsl 1 [(str ⟨#[]⟩)] 0 [] (.bsl 1 [(iv 0)] 0 [] (.lp [0, 1, 2, 3, 9, 10, 11, 12] (O 4 (D .lss (Z 8) (Z 0) (P 0 (.ord [0, 1, 2, 3, 4, 5, 6, 7, 8, 9] [0, 1, 3, 7, 0, 0, 48, 112, 255, 511] (Q (A 2) (Q (F 0 0) (M 0 (J 1 9 12 (M 0 (.call 116 [(Z 2), (Z 0)] (.wat [] (O 0 (D .neq (Z 0) (Y 2) (P 0 (.ret (Y 1)) (Q (.idx 1 (Z 2) (Y 0)) (M 0 (.call 147 [(Z 12), (Z 0), (Z 17)] (Q (.aext (Z 0) 0) (Q (.aext (Z 1) 1) (D .neq (Z 0) (Y 0) (P 0 (.ret (Z 1)) (.bsl 1 [(str ⟨#[]⟩)] 1 [(0, (Z 2))] (.app 1 (Z 22) (Z 0) (Q (.idx 1 (Z 10) (Y 1)) (M 0 (.bsl 1 [(iv 0)] 1 [(0, (Z 0))] (.app 1 (Z 27) (Z 0) (D .add (Z 29) (Y 1) (.jump 0 [(Z 23), (Z 24), (Z 25), (Z 26), (Z 27), (Z 5), (Z 1), (Z 0)])))))))))))))))))))))))))) (O 7 (D .gtr (Z 0) (Y 3) (P 0 (.ret (Y 2)) (Q (.bld [(iv 0), (iv 0), (iv 0), (iv 0), (str ⟨#[]⟩), nilS] [(0, 1), (1, 1), (2, 1), (3, 1), (4, 1), (5, 1)] [(0, (Y 9)), (1, (Z 6))]) (.call 112 [(Z 5), (Z 0)] (O 11 (Q (.bld [(iv 0), (iv 0), (iv 0), (iv 0), (str ⟨#[]⟩), nilS] [(0, 1), (1, 1), (2, 1), (3, 1), (4, 1), (5, 1)] [(0, (Y 5)), (1, (Z 1)), (2, (Z 0))]) (.call 112 [(Z 8), (Z 0)] (.ord [0, 1, 2, 3, 4, 5, 6, 7, 8, 9, 10] [0, 0, 2, 6, 0, 0, 0, 0, 224, 511, 1023] (Q (.idx 1 (Z 10) (Y 2)) (M 0 (.call 148 [(Z 11), (Z 16), (Z 14)] (.wat [⟨none, (.lod (Z 2)), (Z 1)⟩, ⟨none, (.idx 1 (Z 13) (Y 2)), (Z 2)⟩] (.call 81 [(Z 12), (Z 1), (Z 3), (Z 0)] (.wat [] (D .neq (Z 0) (Y 0) (P 0 (.ret (Z 1)) (.call 118 [(Z 14), (Z 20), (Z 8), (Z 17)] (.ret (Z 0))))))))))))))))))))))) [(Z 25), (Z 24), (Z 23), (Z 22), (Z 2), (Z 1), (Z 0), (Y 0)]))))))))))))))))))))))))))
theorem x138_ok : okF TT Tryz.f138 4 x138 = true := by decide +kernel
theorem s_spec_l4Let_ok (h : s_spec_l4Let a0 a1 a2 a3 σ R) : acall TP fn_spec_l4Let [a0, a1, a2, a3] σ R :=
 acall_okF (ρ := [a3, a2, a1, a0]) TT_ok Tryz.func138 rfl x138 x138_ok rfl h
def s_spec_l4Assign (a0 a1 a2 a3 a4 : AV) (σ : AH) (R : AEnd → AH → Prop) : Prop :=
 og (lenS a1) fun v17 =>
 og (ibin .neq v17 (iv 3)) fun v18 =>
 og (gval v18 false false (some a4)) fun v20 =>
 og (gval v18 false false (ibin .eql v20 (iv 8))) fun v21 =>
 og (gval v18 false false (some v21)) fun v22 =>
 og (gval v22 true true (some a2)) fun v23 =>
 og (gval v22 true true (ibin .neq v23 (iv (-1)))) fun v24 =>
 og (gval v18 false false (pickV v22 v24 (.val (.bool false)))) fun v25 =>
 og (pickV v18 (.val (.bool true)) v25) fun v26 =>
 apick v26 (
 aret (iv 1) σ R) (
 og (idx 1 a1 (iv 1) σ) fun v30 =>
 og (lod v30 σ) fun v31 =>
 acall TP fn_spec_l4Param [a0, v31, nilS] σ (onr (fun v32 σ =>
 og (aext v32 0) fun v33 =>
 og (aext v32 1) fun v34 =>
 og (ibin .neq v34 (iv 0)) fun v36 =>
 apick v36 (
 aret v34 σ R) (
 acall TP fn_spec_l4Find [a0, a3, v33] σ (onr (fun v42 σ =>
 og (aext v42 0) fun v43 =>
 og (aext v42 1) fun v44 =>
 og (aext v42 2) fun v45 =>
 apick v45 (
 aret (iv 1) σ R) (
 og (idx 1 a1 (iv 2) σ) fun v49 =>
 og (lod v49 σ) fun v50 =>
 og (bld [(iv 0), (iv 0), (iv 0), (iv 0), (str ⟨#[]⟩), nilS] [(0, 1), (1, 1), (2, 1), (3, 1), (4, 1), (5, 1)] [(0, a4), (1, a2), (4, v33)]) fun v55 =>
 acall TP fn_spec_l4Put [a0, v55] σ (onr (fun v56 σ =>
 (lod v49 σ = some v50 ∧ idx 1 a1 (iv 2) σ = some v49 ∧ True) ∧
 acall TP fn_spec_l4Expand [a0, v50, v56, a3] σ (onr (fun v58 σ =>
 (True) ∧
 aret v58 σ R) (pn R))) (pn R)))) (pn R)))) (pn R)))
def x139 : Sx := O 3 (D .neq (Z 0) (Y 3) (G 0 (.ret (Z 2)) (G 1 (B .eql (Z 0) (Y 8)) (G 2 (.ret (Z 0)) (.gog (Z 0) true true (.ret (Z 7)) (.gog (Z 1) true true (B .neq (Z 0) (Y (-1))) (G 5 (.pickV (Z 2) (Z 0) (.lit (.val (.bool false)))) (Q (.pickV (Z 6) (.lit (.val (.bool true))) (Z 0)) (P 0 (.ret (Y 1)) (Q (.idx 1 (Z 12) (Y 1)) (M 0 (.call 147 [(Z 15), (Z 0), (.lit nilS)] (Q (.aext (Z 0) 0) (Q (.aext (Z 1) 1) (D .neq (Z 0) (Y 0) (P 0 (.ret (Z 1)) (.call 115 [(Z 19), (Z 16), (Z 2)] (Q (.aext (Z 0) 0) (Q (.aext (Z 1) 1) (Q (.aext (Z 2) 2) (P 0 (.ret (Y 1)) (.ord [0, 1, 2, 3, 4, 5, 6, 7, 8, 10, 9, 11, 12] [0, 0, 2, 6, 0, 0, 0, 0, 224, 496, 0, 2047, 4095] (Q (.idx 1 (Z 22) (Y 2)) (M 0 (Q (.bld [(iv 0), (iv 0), (iv 0), (iv 0), (str ⟨#[]⟩), nilS] [(0, 1), (1, 1), (2, 1), (3, 1), (4, 1), (5, 1)] [(0, (Z 21)), (1, (Z 23)), (4, (Z 8))]) (.call 112 [(Z 26), (Z 0)] (.wat [⟨none, (.lod (Z 3)), (Z 2)⟩, ⟨none, (.idx 1 (Z 26) (Y 2)), (Z 3)⟩] (.call 81 [(Z 27), (Z 2), (Z 0), (Z 24)] (.wat [] (.ret (Z 0)))))))))))))))))))))))))))))))
theorem x139_ok : okF TT Tryz.f139 5 x139 = true := by decide +kernel
theorem s_spec_l4Assign_ok (h : s_spec_l4Assign a0 a1 a2 a3 a4 σ R) : acall TP fn_spec_l4Assign [a0, a1, a2, a3, a4] σ R :=
 acall_okF (ρ := [a4, a3, a2, a1, a0]) TT_ok Tryz.func139 rfl x139 x139_ok rfl h
def s_spec_l2Tokens (a0 : AV) (σ : AH) (R : AEnd → AH → Prop) : Prop :=
 bsl 3 [(iv 0), (iv 0), (str ⟨#[]⟩)] 0 [] σ fun v11 σ =>
 acall TP fn_spec_l2Skip [a0, (iv 0)] σ (onr (fun v13 σ =>
 lp (X := Tup [0, 5, 6]) (fun R1 y1 σ =>
 og (lenStr y1.1) fun v16 =>
 og (ibin .lss y1.2.2.1 v16) fun v17 =>
 apick v17 (
 og (idxStr y1.1 y1.2.2.1) fun v21 =>
 acall TP fn_spec_l2Mark [v21] σ (onr (fun v22 σ =>
 og (bld [(iv 0), (iv 0), (str ⟨#[]⟩)] [(0, 1), (1, 1), (2, 1)] [(0, v22)]) fun v23 =>
 new [(iv 0), (iv 0), (str ⟨#[]⟩)] σ fun v8 σ =>
 sto 3 v8 v23 σ fun σ =>
 og (ibin .add y1.2.2.1 (iv 1)) fun v25 =>
 jn (X := Tup [0, 5, 6, 7, 8]) (fun x2 σ =>
 frz x2.2.2.2.2.1 σ fun f8 σ =>
 og (lenS x2.2.1) fun v45 =>
 og (ibin .geq v45 (iv 120)) fun v46 =>
 apick v46 (
 aret (.tup [nilS, (iv 2), x2.2.2.2.1]) σ R) (
 og (lodA 3 f8 σ) fun v49 =>
 bsl 3 [(iv 0), (iv 0), (str ⟨#[]⟩)] 1 [(0, v49)] σ fun v50 σ =>
 app 3 x2.2.1 v50 σ fun v51 σ =>
 acall TP fn_spec_l2Skip [x2.1, x2.2.2.1] σ (onr (fun v54 σ =>
 R1 (x2.1, v51, v54, ()) σ) (pn R)))) fun k2 =>
 og (fldA 0 v8) fun v26 =>
 og (lod v26 σ) fun v27 =>
 og (ibin .eql v27 (iv 0)) fun v28 =>
 apick v28 (
 acall TP fn_spec_l2End [y1.1, y1.2.2.1] σ (onr (fun v31 σ =>
 og (slcStr y1.1 (some y1.2.2.1) (some v31)) fun v36 =>
 acall TP fn_spec_l2Word [v36] σ (onr (fun v37 σ =>
 og (aext v37 0) fun v38 =>
 og (aext v37 1) fun v39 =>
 new [(iv 0), (iv 0), (str ⟨#[]⟩)] σ fun v9 σ =>
 sto 3 v9 v38 σ fun σ =>
 frz v9 σ fun f9 σ =>
 og (aun .not v39) fun v41 =>
 apick v41 (
 aret (.tup [nilS, (iv 5), y1.2.2.1]) σ R) (
 og (lodA 3 f9 σ) fun v43 =>
 sto 3 v8 v43 σ fun σ =>
 k2 (y1.1, y1.2.1, v31, y1.2.2.1, v8, ()) σ)) (pn R))) (pn R))) (
 k2 (y1.1, y1.2.1, v25, y1.2.2.1, v8, ()) σ)) (pn R))) (
 aret (.tup [y1.2.1, (iv 0), (iv 0)]) σ R)) (a0, v11, v13, ()) σ) (pn R))
def x140 : Sx := .bsl 3 [(iv 0), (iv 0), (str ⟨#[]⟩)] 0 [] (.call 149 [(Z 1), (Y 0)] (.lp [0, 5, 6] (Q (.lenStr (Z 0)) (D .lss (Z 3) (Z 0) (P 0 (Q (.idxStr (Z 2) (Z 4)) (.call 150 [(Z 0)] (Q (.bld [(iv 0), (iv 0), (str ⟨#[]⟩)] [(0, 1), (1, 1), (2, 1)] [(0, (Z 0))]) (.new [(iv 0), (iv 0), (str ⟨#[]⟩)] (.sto 3 (Z 0) (Z 1) (D .add (Z 8) (Y 1) (.jn 7727 [0, 5, 6, 7, 8] (.frz 0 (Z 4) (O 2 (D .geq (Z 0) (Y 120) (P 0 (.rets [(.lit nilS), (Y 2), (Z 6)]) (Q (.lodA 3 (Z 2)) (.bsl 3 [(iv 0), (iv 0), (str ⟨#[]⟩)] 1 [(0, (Z 0))] (.app 3 (Z 6) (Z 0) (.call 149 [(Z 6), (Z 8)] (.jump 0 [(Z 7), (Z 1), (Z 0)]))))))))) (Q (F 0 1) (M 0 (D .eql (Z 0) (Y 0) (P 0 (.call 151 [(Z 10), (Z 12)] (Q (.slcStr (Z 11) (some (Z 13)) (some (Z 0))) (.call 152 [(Z 0)] (Q (.aext (Z 0) 0) (Q (.aext (Z 1) 1) (.new [(iv 0), (iv 0), (str ⟨#[]⟩)] (.sto 3 (Z 0) (Z 2) (.frz 18 (Z 0) (Q (.aun .not (Z 2)) (P 0 (.rets [(.lit nilS), (Y 5), (Z 20)]) (Q (.lodA 3 (Z 1)) (.sto 3 (Z 13) (Z 0) (.jump 0 [(Z 19), (Z 20), (Z 8), (Z 21), (Z 13)]))))))))))))) (.jump 0 [(Z 10), (Z 11), (Z 3), (Z 12), (Z 4)])))))))))))) (.rets [(Z 3), (Y 0), (Y 0)])))) [(Z 2), (Z 1), (Z 0)]))
theorem x140_ok : okF TT Tryz.f140 1 x140 = true := by decide +kernel
theorem s_spec_l2Tokens_ok (h : s_spec_l2Tokens a0 σ R) : acall TP fn_spec_l2Tokens [a0] σ R :=
 acall_okF (ρ := [a0]) TT_ok Tryz.func140 rfl x140 x140_ok rfl h
def s_spec_l3Token (a0 a1 : AV) (σ : AH) (R : AEnd → AH → Prop) : Prop :=
 og (anil a1) fun v9 =>
 og (fldA 0 v9) fun v10 =>
 og (lod v10 σ) fun v11 =>
 og (ibin .eql v11 (iv 1)) fun v13 =>
 apick v13 (
 acall TP fn_spec_l3Begin [a0, (.val (.bool false))] σ (onr (fun v15 σ =>
 aret v15 σ R) (pn R))) (
 og (ibin .eql v11 (iv 3)) fun v17 =>
 apick v17 (
 acall TP fn_spec_l3Begin [a0, (.val (.bool true))] σ (onr (fun v19 σ =>
 aret v19 σ R) (pn R))) (
 og (ibin .eql v11 (iv 2)) fun v21 =>
 apick v21 (
 og (anil a0) fun v23 =>
 og (fldA 1 v23) fun v24 =>
 og (lod v24 σ) fun v25 =>
 og (lenS v25) fun v26 =>
 og (ibin .eql v26 (iv 0)) fun v28 =>
 og (gval v28 false false (some a0)) fun v30 =>
 og (gval v28 false false (anil v30)) fun v31 =>
 og (gval v28 false false (fldA 2 v31)) fun v32 =>
 og (gval v28 false false (lod v32 σ)) fun v33 =>
 og (gval v28 false false (some v26)) fun v34 =>
 og (gval v28 false false (ibin .sub v34 (iv 1))) fun v35 =>
 og (gval v28 false false (idx 1 v33 v35 σ)) fun v36 =>
 og (gval v28 false false (lod v36 σ)) fun v37 =>
 og (pickV v28 (.val (.bool true)) v37) fun v38 =>
 apick v38 (
 aret (iv 1) σ R) (
 og (anil a0) fun v41 =>
 og (fldA 1 v41) fun v42 =>
 og (lod v42 σ) fun v43 =>
 og (ibin .sub v26 (iv 1)) fun v45 =>
 og (slc 1 v43 none (some v45) none σ) fun v46 =>
 og (anil a0) fun v47 =>
 og (fldA 1 v47) fun v48 =>
 sto 1 v48 v46 σ fun σ =>
 og (anil a0) fun v51 =>
 og (fldA 2 v51) fun v52 =>
 og (lod v52 σ) fun v53 =>
 og (ibin .sub v26 (iv 1)) fun v55 =>
 og (slc 1 v53 none (some v55) none σ) fun v56 =>
 og (anil a0) fun v57 =>
 og (fldA 2 v57) fun v58 =>
 sto 1 v58 v56 σ fun σ =>
 acall TP fn_spec_l3Whole [a0] σ (onr (fun v60 σ =>
 aret (iv 0) σ R) (pn R)))) (
 og (anil a1) fun v62 =>
 og (fldA 0 v62) fun v63 =>
 og (lod v63 σ) fun v64 =>
 og (ibin .sub v64 (iv 3)) fun v65 =>
 og (anil a1) fun v67 =>
 og (fldA 1 v67) fun v68 =>
 og (lod v68 σ) fun v69 =>
 og (anil a1) fun v71 =>
 og (fldA 2 v71) fun v72 =>
 og (lod v72 σ) fun v73 =>
 og (bld [(iv 0), (iv 0), (iv 0), (str ⟨#[]⟩)] [(0, 1), (1, 1), (2, 1), (3, 1)] [(0, v65), (2, v69), (3, v73)]) fun v74 =>
 new [(iv 0), (iv 0), (iv 0), (str ⟨#[]⟩)] σ fun v6 σ =>
 (True) ∧
 sto 4 v6 v74 σ fun σ =>
 (True) ∧
 frz v6 σ fun f6 σ =>
 og (lodA 4 f6 σ) fun v76 =>
 acall TP fn_spec_l3Put [a0, v76] σ (onr (fun v77 σ =>
 og (ibin .neq v77 (iv 0)) fun v79 =>
 apick v79 (
 aret v77 σ R) (
 acall TP fn_spec_l3Whole [a0] σ (onr (fun v82 σ =>
 aret (iv 0) σ R) (pn R)))) (pn R)))))
def x141 : Sx := Q (A 0) (Q (F 0 0) (M 0 (D .eql (Z 0) (Y 1) (P 0 (.call 153 [(Z 5), (.lit (.val (.bool false)))] (.ret (Z 0))) (D .eql (Z 1) (Y 3) (P 0 (.call 153 [(Z 6), (.lit (.val (.bool true)))] (.ret (Z 0))) (D .eql (Z 2) (Y 2) (P 0 (Q (A 7) (Q (F 1 0) (M 0 (O 0 (D .eql (Z 0) (Y 0) (G 0 (.ret (Z 12)) (G 1 (A 0) (G 2 (F 2 0) (G 3 (L 0) (G 4 (.ret (Z 5)) (G 5 (B .sub (Z 0) (Y 1)) (G 6 (I 1 2 0) (G 7 (L 0) (Q (.pickV (Z 8) (.lit (.val (.bool true))) (Z 0)) (P 0 (.ret (Y 1)) (Q (A 21) (Q (F 1 0) (M 0 (D .sub (Z 13) (Y 1) (Q (.slc 1 (Z 1) none (some (Z 0)) none) (Q (A 26) (Q (F 1 0) (.sto 1 (Z 0) (Z 2) (Q (A 28) (Q (F 2 0) (M 0 (D .sub (Z 20) (Y 1) (Q (.slc 1 (Z 1) none (some (Z 0)) none) (Q (A 33) (Q (F 2 0) (.sto 1 (Z 0) (Z 2) (.call 154 [(Z 35)] (.ret (Y 0)))))))))))))))))))))))))))))))))) (.ord [0, 1, 2, 3, 4, 5, 6, 7, 8, 9, 10, 11, 12, 13, 14, 15] [0, 1, 3, 7, 15, 0, 32, 96, 224, 0, 512, 1536, 3584, 8191, 0, 32767] (Q (A 6) (Q (F 0 0) (M 0 (D .sub (Z 0) (Y 3) (Q (A 10) (Q (F 1 0) (M 0 (Q (A 13) (Q (F 2 0) (M 0 (Q (.bld [(iv 0), (iv 0), (iv 0), (str ⟨#[]⟩)] [(0, 1), (1, 1), (2, 1), (3, 1)] [(0, (Z 6)), (2, (Z 3)), (3, (Z 0))]) (.new [(iv 0), (iv 0), (iv 0), (str ⟨#[]⟩)] (.wat [] (.sto 4 (Z 0) (Z 1) (.wat [] (.frz 19 (Z 0) (Q (.lodA 4 (Z 0)) (.call 155 [(Z 21), (Z 0)] (D .neq (Z 0) (Y 0) (P 0 (.ret (Z 1)) (.call 154 [(Z 23)] (.ret (Y 0))))))))))))))))))))))))))))))))
theorem x141_ok : okF TT Tryz.f141 2 x141 = true := by decide +kernel
theorem s_spec_l3Token_ok (h : s_spec_l3Token a0 a1 σ R) : acall TP fn_spec_l3Token [a0, a1] σ R :=
 acall_okF (ρ := [a1, a0]) TT_ok Tryz.func141 rfl x141 x141_ok rfl h
def s_spec_l4Param (a0 a1 a2 : AV) (σ : AH) (R : AEnd → AH → Prop) : Prop :=
 og (anil a0) fun v11 =>
 og (fldA 0 v11) fun v12 =>
 og (lod v12 σ) fun v13 =>
 og (idx 4 v13 a1 σ) fun v15 =>
 jn (X := Tup [2, 8, 27]) (fun x1 σ =>
 apick x1.2.2.1 (
 aret (.tup [(str ⟨#[]⟩), (iv 1)]) σ R) (
 lp (X := Tup [2, 8, 9]) (fun R2 y2 σ =>
 og (lenS y2.1) fun v30 =>
 og (ibin .lss y2.2.2.1 v30) fun v31 =>
 apick v31 (
 og (idx 1 y2.1 y2.2.2.1 σ) fun v36 =>
 og (lod v36 σ) fun v37 =>
 og (anil y2.2.1) fun v39 =>
 og (fldA 3 v39) fun v40 =>
 og (lod v40 σ) fun v41 =>
 og (sbin .eql v37 v41) fun v42 =>
 apick v42 (
 aret (.tup [(str ⟨#[]⟩), (iv 1)]) σ R) (
 og (ibin .add y2.2.2.1 (iv 1)) fun v33 =>
 R2 (y2.1, y2.2.1, v33, ()) σ)) (
 og (anil y2.2.1) fun v44 =>
 og (fldA 3 v44) fun v45 =>
 og (lod v45 σ) fun v46 =>
 aret (.tup [v46, (iv 0)]) σ R)) (x1.1, x1.2.1, (iv 0), ()) σ)) fun k1 =>
 og (anil v15) fun v17 =>
 og (fldA 0 v17) fun v18 =>
 og (lod v18 σ) fun v19 =>
 og (ibin .neq v19 (iv 3)) fun v20 =>
 og (gval v20 false false (some v15)) fun v22 =>
 og (gval v20 false false (anil v22)) fun v23 =>
 og (gval v20 false false (fldA 3 v23)) fun v24 =>
 og (gval v20 false false (lod v24 σ)) fun v25 =>
 gpick v20 (
 k1 (a2, v15, (.val (.bool true)), ()) σ) (
 acall TP fn_spec_IsKeyword [v25] σ (onr (fun v26 σ =>
 k1 (a2, v15, v26, ()) σ) (pn R))) (False)
def x147 : Sx := Q (A 2) (Q (F 0 0) (M 0 (J 4 0 4 (.jn 29 [2, 8, 27] (P 2 (.rets [(.lit (str ⟨#[]⟩)), (Y 1)]) (.lp [2, 8, 9] (O 0 (D .lss (Z 3) (Z 0) (P 0 (.ord [0, 1, 2, 3, 4, 5, 6, 7, 8] [0, 0, 3, 7, 0, 16, 48, 112, 255] (J 1 2 4 (M 0 (Q (A 5) (Q (F 3 0) (M 0 (Q (.sbin .eql (Z 3) (Z 0)) (P 0 (.rets [(.lit (str ⟨#[]⟩)), (Y 1)]) (D .add (Z 10) (Y 1) (.jump 0 [(Z 9), (Z 10), (Z 0)])))))))))) (Q (A 3) (Q (F 3 0) (M 0 (.rets [(Z 0), (Y 0)]))))))) [(Z 0), (Z 1), (Y 0)])) (Q (A 0) (Q (F 0 0) (M 0 (D .neq (Z 0) (Y 3) (G 0 (.ret (Z 4)) (G 1 (A 0) (G 2 (F 3 0) (G 3 (L 0) (.gpick (Z 4) (.jump 0 [(Z 12), (Z 8), (.lit (.val (.bool true)))]) (.call 114 [(Z 0)] (.jump 0 [(Z 13), (Z 9), (Z 0)])) (.no))))))))))))))
theorem x147_ok : okF TT Tryz.f147 3 x147 = true := by decide +kernel
theorem s_spec_l4Param_ok (h : s_spec_l4Param a0 a1 a2 σ R) : acall TP fn_spec_l4Param [a0, a1, a2] σ R :=
 acall_okF (ρ := [a2, a1, a0]) TT_ok Tryz.func147 rfl x147 x147_ok rfl h
def s_spec_l4Bind (a0 a1 a2 : AV) (σ : AH) (R : AEnd → AH → Prop) : Prop :=
 og (anil a0) fun v9 =>
 og (fldA 2 v9) fun v10 =>
 og (lod v10 σ) fun v11 =>
 og (bld [nilS, (iv 0)] [(0, 1), (1, 1)] [(0, a1), (1, a2)]) fun v14 =>
 bsl 2 [nilS, (iv 0)] 1 [(0, v14)] σ fun v15 σ =>
 app 2 v11 v15 σ fun v16 σ =>
 og (anil a0) fun v17 =>
 og (fldA 2 v17) fun v18 =>
 sto 1 v18 v16 σ fun σ =>
 og (anil a0) fun v20 =>
 og (fldA 2 v20) fun v21 =>
 og (lod v21 σ) fun v22 =>
 og (lenS v22) fun v23 =>
 og (ibin .sub v23 (iv 1)) fun v24 =>
 aret v24 σ R
def x148 : Sx := Q (A 2) (Q (F 2 0) (M 0 (Q (.bld [nilS, (iv 0)] [(0, 1), (1, 1)] [(0, (Z 4)), (1, (Z 3))]) (.bsl 2 [nilS, (iv 0)] 1 [(0, (Z 0))] (.app 2 (Z 2) (Z 0) (Q (A 8) (Q (F 2 0) (.sto 1 (Z 0) (Z 2) (Q (A 10) (Q (F 2 0) (M 0 (O 0 (D .sub (Z 0) (Y 1) (.ret (Z 0)))))))))))))))
theorem x148_ok : okF TT Tryz.f148 3 x148 = true := by decide +kernel
theorem s_spec_l4Bind_ok (h : s_spec_l4Bind a0 a1 a2 σ R) : acall TP fn_spec_l4Bind [a0, a1, a2] σ R :=
 acall_okF (ρ := [a2, a1, a0]) TT_ok Tryz.func148 rfl x148 x148_ok rfl h
def s_spec_l2Skip (a0 a1 : AV) (σ : AH) (R : AEnd → AH → Prop) : Prop :=
 lp (X := Tup [0, 1]) (fun R1 y1 σ =>
 og (lenStr y1.1) fun v7 =>
 og (ibin .lss y1.2.1 v7) fun v8 =>
 apick v8 (
 og (idxStr y1.1 y1.2.1) fun v11 =>
 og (ibin .eql v11 (.val (.int .u8 59))) fun v12 =>
 apick v12 (
 lp (X := Tup [0, 1]) (fun R2 y2 σ =>
 og (lenStr y2.1) fun v15 =>
 og (ibin .lss y2.2.1 v15) fun v16 =>
 og (gval v16 true false (some y2.1)) fun v18 =>
 og (gval v16 true false (some y2.2.1)) fun v19 =>
 og (gval v16 true false (idxStr v18 v19)) fun v20 =>
 og (gval v16 true false (ibin .neq v20 (.val (.int .u8 10)))) fun v21 =>
 og (pickV v16 v21 (.val (.bool false))) fun v22 =>
 apick v22 (
 og (ibin .add y2.2.1 (iv 1)) fun v24 =>
 R2 (y2.1, v24, ()) σ) (
 R1 (y2.1, y2.2.1, ()) σ)) (y1.1, y1.2.1, ()) σ) (
 og (idxStr y1.1 y1.2.1) fun v27 =>
 og (ibin .neq v27 (.val (.int .u8 32))) fun v28 =>
 og (gval v28 true false (some y1.1)) fun v30 =>
 og (gval v28 true false (some y1.2.1)) fun v31 =>
 og (gval v28 true false (idxStr v30 v31)) fun v32 =>
 og (gval v28 true false (ibin .neq v32 (.val (.int .u8 10)))) fun v33 =>
 og (pickV v28 v33 (.val (.bool false))) fun v34 =>
 apick v34 (
 aret y1.2.1 σ R) (
 og (ibin .add y1.2.1 (iv 1)) fun v37 =>
 R1 (y1.1, v37, ()) σ))) (
 aret y1.2.1 σ R)) (a0, a1, ()) σ
def x149 : Sx := .lp [0, 1] (Q (.lenStr (Z 0)) (D .lss (Z 2) (Z 0) (P 0 (Q (.idxStr (Z 2) (Z 3)) (D .eql (Z 0) (.lit (.val (.int .u8 59))) (P 0 (.lp [0, 1] (Q (.lenStr (Z 0)) (D .lss (Z 2) (Z 0) (H 0 (.ret (Z 2)) (H 1 (.ret (Z 4)) (H 2 (.idxStr (Z 1) (Z 0)) (H 3 (B .neq (Z 0) (.lit (.val (.int .u8 10)))) (Q (.pickV (Z 4) (Z 0) (.lit (.val (.bool false)))) (P 0 (D .add (Z 8) (Y 1) (.jump 0 [(Z 8), (Z 0)])) (.jump 1 [(Z 7), (Z 8)]))))))))) [(Z 4), (Z 5)]) (Q (.idxStr (Z 4) (Z 5)) (D .neq (Z 0) (.lit (.val (.int .u8 32))) (H 0 (.ret (Z 6)) (H 1 (.ret (Z 8)) (H 2 (.idxStr (Z 1) (Z 0)) (H 3 (B .neq (Z 0) (.lit (.val (.int .u8 10)))) (Q (.pickV (Z 4) (Z 0) (.lit (.val (.bool false)))) (P 0 (.ret (Z 12)) (D .add (Z 12) (Y 1) (.jump 0 [(Z 12), (Z 0)]))))))))))))) (.ret (Z 3))))) [(Z 1), (Z 0)]
theorem x149_ok : okF TT Tryz.f149 2 x149 = true := by decide +kernel
theorem s_spec_l2Skip_ok (h : s_spec_l2Skip a0 a1 σ R) : acall TP fn_spec_l2Skip [a0, a1] σ R :=
 acall_okF (ρ := [a1, a0]) TT_ok Tryz.func149 rfl x149 x149_ok rfl h
def s_spec_l2Mark (a0 : AV) (σ : AH) (R : AEnd → AH → Prop) : Prop :=
 og (ibin .eql a0 (.val (.int .u8 40))) fun v5 =>
 apick v5 (
 aret (iv 1) σ R) (
 og (ibin .eql a0 (.val (.int .u8 41))) fun v7 =>
 apick v7 (
 aret (iv 2) σ R) (
 og (ibin .eql a0 (.val (.int .u8 39))) fun v9 =>
 apick v9 (
 aret (iv 3) σ R) (
 aret (iv 0) σ R)))
def x150 : Sx := D .eql (Z 0) (.lit (.val (.int .u8 40))) (P 0 (.ret (Y 1)) (D .eql (Z 1) (.lit (.val (.int .u8 41))) (P 0 (.ret (Y 2)) (D .eql (Z 2) (.lit (.val (.int .u8 39))) (P 0 (.ret (Y 3)) (.ret (Y 0)))))))
theorem x150_ok : okF TT Tryz.f150 1 x150 = true := by decide +kernel
theorem s_spec_l2Mark_ok (h : s_spec_l2Mark a0 σ R) : acall TP fn_spec_l2Mark [a0] σ R :=
 acall_okF (ρ := [a0]) TT_ok Tryz.func150 rfl x150 x150_ok rfl h
def s_spec_l2End (a0 a1 : AV) (σ : AH) (R : AEnd → AH → Prop) : Prop :=
 lp (X := Tup [0, 1]) (fun R1 y1 σ =>
 jn (X := Tup [0, 1, 33]) (fun x2 σ =>
 apick x2.2.2.1 (
 og (ibin .add x2.2.1 (iv 1)) fun v35 =>
 R1 (x2.1, v35, ()) σ) (
 aret x2.2.1 σ R)) fun k2 =>
 og (lenStr y1.1) fun v7 =>
 og (ibin .lss y1.2.1 v7) fun v8 =>
 og (gval v8 true false (some y1.1)) fun v10 =>
 og (gval v8 true false (some y1.2.1)) fun v11 =>
 og (gval v8 true false (idxStr v10 v11)) fun v12 =>
 og (gval v8 true false (ibin .neq v12 (.val (.int .u8 32)))) fun v13 =>
 og (pickV v8 v13 (.val (.bool false))) fun v14 =>
 og (gval v14 true false (some y1.1)) fun v16 =>
 og (gval v14 true false (some y1.2.1)) fun v17 =>
 og (gval v14 true false (idxStr v16 v17)) fun v18 =>
 og (gval v14 true false (ibin .neq v18 (.val (.int .u8 10)))) fun v19 =>
 og (pickV v14 v19 (.val (.bool false))) fun v20 =>
 og (gval v20 true false (some y1.1)) fun v22 =>
 og (gval v20 true false (some y1.2.1)) fun v23 =>
 og (gval v20 true false (idxStr v22 v23)) fun v24 =>
 og (gval v20 true false (ibin .neq v24 (.val (.int .u8 59)))) fun v25 =>
 og (pickV v20 v25 (.val (.bool false))) fun v26 =>
 og (gval v26 true false (some y1.1)) fun v28 =>
 og (gval v26 true false (some y1.2.1)) fun v29 =>
 og (gval v26 true false (idxStr v28 v29)) fun v30 =>
 gpick v26 (
 acall TP fn_spec_l2Mark [v30] σ (onr (fun v31 σ =>
 og (ibin .eql v31 (iv 0)) fun v32 =>
 k2 (y1.1, y1.2.1, v32, ()) σ) (pn R))) (
 k2 (y1.1, y1.2.1, (.val (.bool false)), ()) σ) (False)) (a0, a1, ()) σ
def x151 : Sx := .lp [0, 1] (.jn 97 [0, 1, 33] (P 2 (D .add (Z 1) (Y 1) (.jump 0 [(Z 1), (Z 0)])) (.ret (Z 1))) (Q (.lenStr (Z 0)) (D .lss (Z 2) (Z 0) (H 0 (.ret (Z 2)) (H 1 (.ret (Z 4)) (H 2 (.idxStr (Z 1) (Z 0)) (H 3 (B .neq (Z 0) (.lit (.val (.int .u8 32)))) (Q (.pickV (Z 4) (Z 0) (.lit (.val (.bool false)))) (H 0 (.ret (Z 7)) (H 1 (.ret (Z 9)) (H 2 (.idxStr (Z 1) (Z 0)) (H 3 (B .neq (Z 0) (.lit (.val (.int .u8 10)))) (Q (.pickV (Z 4) (Z 0) (.lit (.val (.bool false)))) (H 0 (.ret (Z 12)) (H 1 (.ret (Z 14)) (H 2 (.idxStr (Z 1) (Z 0)) (H 3 (B .neq (Z 0) (.lit (.val (.int .u8 59)))) (Q (.pickV (Z 4) (Z 0) (.lit (.val (.bool false)))) (H 0 (.ret (Z 17)) (H 1 (.ret (Z 19)) (H 2 (.idxStr (Z 1) (Z 0)) (.gpick (Z 3) (.call 150 [(Z 0)] (D .eql (Z 0) (Y 0) (.jump 0 [(Z 22), (Z 23), (Z 0)]))) (.jump 0 [(Z 20), (Z 21), (.lit (.val (.bool false)))]) (.no))))))))))))))))))))))) [(Z 1), (Z 0)]
theorem x151_ok : okF TT Tryz.f151 2 x151 = true := by decide +kernel
theorem s_spec_l2End_ok (h : s_spec_l2End a0 a1 σ R) : acall TP fn_spec_l2End [a0, a1] σ R :=
 acall_okF (ρ := [a1, a0]) TT_ok Tryz.func151 rfl x151 x151_ok rfl h
def s_spec_l2Word (a0 : AV) (σ : AH) (R : AEnd → AH → Prop) : Prop :=
 new [(iv 0), (iv 0), (str ⟨#[]⟩)] σ fun v2 σ =>
 acall TP fn_spec_l1Parse [a0] σ (onr (fun v8 σ =>
 og (aext v8 0) fun v9 =>
 og (aext v8 1) fun v10 =>
 apick v10 (
 og (bld [(iv 0), (iv 0), (str ⟨#[]⟩)] [(0, 1), (1, 1), (2, 1)] [(0, (iv 4)), (1, v9)]) fun v13 =>
 sto 3 v2 v13 σ fun σ =>
 og (lodA 3 v2 σ) fun r2 =>
 aret (.tup [r2, (.val (.bool true))]) σ R) (
 og (sbin .eql a0 (.val (.string ⟨#[35, 116]⟩))) fun v15 =>
 apick v15 (
 og (bld [(iv 0), (iv 0), (str ⟨#[]⟩)] [(0, 1), (1, 1), (2, 1)] [(0, (iv 5)), (1, (iv 1))]) fun v16 =>
 sto 3 v2 v16 σ fun σ =>
 og (lodA 3 v2 σ) fun r2 =>
 aret (.tup [r2, (.val (.bool true))]) σ R) (
 og (sbin .eql a0 (.val (.string ⟨#[35, 102]⟩))) fun v18 =>
 apick v18 (
 og (bld [(iv 0), (iv 0), (str ⟨#[]⟩)] [(0, 1), (1, 1), (2, 1)] [(0, (iv 5))]) fun v19 =>
 sto 3 v2 v19 σ fun σ =>
 og (lodA 3 v2 σ) fun r2 =>
 aret (.tup [r2, (.val (.bool true))]) σ R) (
 og (bld [(iv 0), (iv 0), (str ⟨#[]⟩)] [(0, 1), (1, 1), (2, 1)] [(0, (iv 6)), (2, a0)]) fun v21 =>
 acall TP fn_spec_l2Sym [a0] σ (onr (fun v23 σ =>
 sto 3 v2 v21 σ fun σ =>
 og (lodA 3 v2 σ) fun r2 =>
 aret (.tup [r2, v23]) σ R) (pn R)))))) (pn R))
def x152 : Sx := .new [(iv 0), (iv 0), (str ⟨#[]⟩)] (.call 157 [(Z 1)] (Q (.aext (Z 0) 0) (Q (.aext (Z 1) 1) (P 0 (Q (.bld [(iv 0), (iv 0), (str ⟨#[]⟩)] [(0, 1), (1, 1), (2, 1)] [(0, (Y 4)), (1, (Z 1))]) (.sto 3 (Z 4) (Z 0) (Q (.lodA 3 (Z 4)) (.rets [(Z 0), (.lit (.val (.bool true)))])))) (Q (.sbin .eql (Z 4) (.lit (.val (.string ⟨#[35, 116]⟩)))) (P 0 (Q (.bld [(iv 0), (iv 0), (str ⟨#[]⟩)] [(0, 1), (1, 1), (2, 1)] [(0, (Y 5)), (1, (Y 1))]) (.sto 3 (Z 5) (Z 0) (Q (.lodA 3 (Z 5)) (.rets [(Z 0), (.lit (.val (.bool true)))])))) (Q (.sbin .eql (Z 5) (.lit (.val (.string ⟨#[35, 102]⟩)))) (P 0 (Q (.bld [(iv 0), (iv 0), (str ⟨#[]⟩)] [(0, 1), (1, 1), (2, 1)] [(0, (Y 5))]) (.sto 3 (Z 6) (Z 0) (Q (.lodA 3 (Z 6)) (.rets [(Z 0), (.lit (.val (.bool true)))])))) (Q (.bld [(iv 0), (iv 0), (str ⟨#[]⟩)] [(0, 1), (1, 1), (2, 1)] [(0, (Y 6)), (2, (Z 6))]) (.call 91 [(Z 7)] (.sto 3 (Z 7) (Z 1) (Q (.lodA 3 (Z 7)) (.rets [(Z 0), (Z 1)])))))))))))))
theorem x152_ok : okF TT Tryz.f152 1 x152 = true := by decide +kernel
theorem s_spec_l2Word_ok (h : s_spec_l2Word a0 σ R) : acall TP fn_spec_l2Word [a0] σ R :=
 acall_okF (ρ := [a0]) TT_ok Tryz.func152 rfl x152 x152_ok rfl h
def s_spec_l3Begin (a0 a1 : AV) (σ : AH) (R : AEnd → AH → Prop) : Prop :=
 og (bld [(iv 0), (iv 0), (iv 0), (str ⟨#[]⟩)] [(0, 1), (1, 1), (2, 1), (3, 1)] [(0, (iv 4))]) fun v7 =>
 acall TP fn_spec_l3Put [a0, v7] σ (onr (fun v8 σ =>
 og (ibin .neq v8 (iv 0)) fun v10 =>
 apick v10 (
 aret v8 σ R) (
 og (anil a0) fun v14 =>
 og (fldA 1 v14) fun v15 =>
 og (lod v15 σ) fun v16 =>
 og (anil a0) fun v18 =>
 og (fldA 0 v18) fun v19 =>
 og (lod v19 σ) fun v20 =>
 og (lenS v20) fun v21 =>
 og (ibin .sub v21 (iv 1)) fun v22 =>
 og (bslR 1 [(iv 0)] 1 [(0, v22)]) fun v23 =>
 app 1 v16 v23 σ fun v24 σ =>
 (True) ∧
 og (anil a0) fun v25 =>
 og (fldA 1 v25) fun v26 =>
 sto 1 v26 v24 σ fun σ =>
 (True) ∧
 og (anil a0) fun v29 =>
 og (fldA 2 v29) fun v30 =>
 og (lod v30 σ) fun v31 =>
 bsl 1 [(.val (.bool false))] 1 [(0, a1)] σ fun v33 σ =>
 app 1 v31 v33 σ fun v34 σ =>
 og (anil a0) fun v35 =>
 og (fldA 2 v35) fun v36 =>
 sto 1 v36 v34 σ fun σ =>
 apick a1 (
 og (bld [(iv 0), (iv 0), (iv 0), (str ⟨#[]⟩)] [(0, 1), (1, 1), (2, 1), (3, 1)] [(0, (iv 3)), (3, (.val (.string ⟨#[113, 117, 111, 116, 101]⟩)))]) fun v39 =>
 acall TP fn_spec_l3Put [a0, v39] σ (onr (fun v40 σ =>
 aret v40 σ R) (pn R))) (
 aret (iv 0) σ R))) (pn R))
def x153 : Sx := Q (.bld [(iv 0), (iv 0), (iv 0), (str ⟨#[]⟩)] [(0, 1), (1, 1), (2, 1), (3, 1)] [(0, (Y 4))]) (.call 155 [(Z 2), (Z 0)] (D .neq (Z 0) (Y 0) (P 0 (.ret (Z 1)) (.ord [0, 1, 2, 3, 4, 5, 6, 7, 8, 9, 10, 11, 12, 13, 14, 15] [0, 0, 2, 6, 14, 0, 32, 96, 224, 480, 992, 2016, 4094, 8191, 16383, 32767] (Q (A 4) (Q (F 1 0) (M 0 (Q (A 7) (Q (F 0 0) (M 0 (O 0 (D .sub (Z 0) (Y 1) (Q (.bslR 1 [(iv 0)] 1 [(0, (Z 0))]) (.app 1 (Z 6) (Z 0) (.wat [] (Q (A 14) (Q (F 1 0) (.sto 1 (Z 0) (Z 2) (.wat [] (Q (A 16) (Q (F 2 0) (M 0 (.bsl 1 [(.val (.bool false))] 1 [(0, (Z 18))] (.app 1 (Z 1) (Z 0) (Q (A 21) (Q (F 2 0) (.sto 1 (Z 0) (Z 2) (P 22 (Q (.bld [(iv 0), (iv 0), (iv 0), (str ⟨#[]⟩)] [(0, 1), (1, 1), (2, 1), (3, 1)] [(0, (Y 3)), (3, (.lit (.val (.string ⟨#[113, 117, 111, 116, 101]⟩))))]) (.call 155 [(Z 24), (Z 0)] (.ret (Z 0)))) (.ret (Y 0))))))))))))))))))))))))))))))
theorem x153_ok : okF TT Tryz.f153 2 x153 = true := by decide +kernel
theorem s_spec_l3Begin_ok (h : s_spec_l3Begin a0 a1 σ R) : acall TP fn_spec_l3Begin [a0, a1] σ R :=
 acall_okF (ρ := [a1, a0]) TT_ok Tryz.func153 rfl x153 x153_ok rfl h
def s_spec_l3Whole (a0 : AV) (σ : AH) (R : AEnd → AH → Prop) : Prop :=
 lp (X := Tup [0]) (fun R1 y1 σ =>
 og (anil y1.1) fun v3 =>
 og (fldA 1 v3) fun v4 =>
 og (lod v4 σ) fun v5 =>
 og (lenS v5) fun v6 =>
 og (ibin .gtr v6 (iv 0)) fun v7 =>
 og (gval v7 true false (some y1.1)) fun v9 =>
 og (gval v7 true false (anil v9)) fun v10 =>
 og (gval v7 true false (fldA 2 v10)) fun v11 =>
 og (gval v7 true false (lod v11 σ)) fun v12 =>
 og (gval v7 true false (some y1.1)) fun v13 =>
 og (gval v7 true false (anil v13)) fun v14 =>
 og (gval v7 true false (fldA 2 v14)) fun v15 =>
 og (gval v7 true false (lod v15 σ)) fun v16 =>
 og (gval v7 true false (lenS v16)) fun v17 =>
 og (gval v7 true false (ibin .sub v17 (iv 1))) fun v18 =>
 og (gval v7 true false (idx 1 v12 v18 σ)) fun v19 =>
 og (gval v7 true false (lod v19 σ)) fun v20 =>
 og (pickV v7 v20 (.val (.bool false))) fun v21 =>
 apick v21 (
 og (anil y1.1) fun v24 =>
 og (fldA 1 v24) fun v25 =>
 og (lod v25 σ) fun v26 =>
 og (anil y1.1) fun v28 =>
 og (fldA 1 v28) fun v29 =>
 og (lod v29 σ) fun v30 =>
 og (lenS v30) fun v31 =>
 og (ibin .sub v31 (iv 1)) fun v32 =>
 og (slc 1 v26 none (some v32) none σ) fun v33 =>
 og (anil y1.1) fun v34 =>
 og (fldA 1 v34) fun v35 =>
 sto 1 v35 v33 σ fun σ =>
 (True) ∧
 og (anil y1.1) fun v38 =>
 og (fldA 2 v38) fun v39 =>
 og (lod v39 σ) fun v40 =>
 og (anil y1.1) fun v42 =>
 og (fldA 2 v42) fun v43 =>
 og (lod v43 σ) fun v44 =>
 og (lenS v44) fun v45 =>
 og (ibin .sub v45 (iv 1)) fun v46 =>
 og (slc 1 v40 none (some v46) none σ) fun v47 =>
 og (anil y1.1) fun v48 =>
 og (fldA 2 v48) fun v49 =>
 sto 1 v49 v47 σ fun σ =>
 (True) ∧
 R1 (y1.1, ()) σ) (
 aret (.tup []) σ R)) (a0, ()) σ
def x154 : Sx := .lp [0] (.ord [0, 1, 2, 3, 4, 5, 6, 7, 8, 9, 10, 11, 12, 13, 14, 15, 16, 17, 18, 19] [0, 1, 3, 7, 15, 31, 63, 127, 255, 511, 1023, 127, 2175, 6271, 14463, 30847, 63615, 131071, 262143, 524287] (Q (A 0) (Q (F 1 0) (M 0 (O 0 (D .gtr (Z 0) (Y 0) (H 0 (.ret (Z 5)) (H 1 (A 0) (H 2 (F 2 0) (H 3 (L 0) (H 4 (.ret (Z 9)) (H 5 (A 0) (H 6 (F 2 0) (H 7 (L 0) (H 8 (N 0) (H 9 (B .sub (Z 0) (Y 1)) (H 10 (I 1 6 0) (H 11 (L 0) (Q (.pickV (Z 12) (Z 0) (.lit (.val (.bool false)))) (P 0 (.ord [0, 1, 2, 3, 4, 5, 6, 7, 8, 9, 10, 11, 12, 13, 14] [0, 0, 2, 6, 14, 0, 32, 96, 224, 480, 992, 2046, 4095, 8191, 16383] (Q (A 18) (Q (F 1 0) (M 0 (Q (A 21) (Q (F 1 0) (M 0 (O 0 (D .sub (Z 0) (Y 1) (Q (.slc 1 (Z 5) none (some (Z 0)) none) (Q (A 27) (Q (F 1 0) (.sto 1 (Z 0) (Z 2) (.wat [] (.ord [0, 1, 2, 3, 4, 5, 6, 7, 8, 9, 10, 11, 12, 13, 14] [0, 0, 2, 6, 14, 0, 32, 96, 224, 480, 992, 2046, 4095, 8191, 16383] (Q (A 29) (Q (F 2 0) (M 0 (Q (A 32) (Q (F 2 0) (M 0 (O 0 (D .sub (Z 0) (Y 1) (Q (.slc 1 (Z 5) none (some (Z 0)) none) (Q (A 38) (Q (F 2 0) (.sto 1 (Z 0) (Z 2) (.wat [] (.jump 0 [(Z 40)]))))))))))))))))))))))))))))) (.rets []))))))))))))))))))))) [(Z 0)]
theorem x154_ok : okF TT Tryz.f154 1 x154 = true := by decide +kernel
theorem s_spec_l3Whole_ok (h : s_spec_l3Whole a0 σ R) : acall TP fn_spec_l3Whole [a0] σ R :=
 acall_okF (ρ := [a0]) TT_ok Tryz.func154 rfl x154 x154_ok rfl h
def s_spec_l3Put (a0 a1 : AV) (σ : AH) (R : AEnd → AH → Prop) : Prop :=
 abox a1 σ fun v3 σ =>
 og (anil a0) fun v7 =>
 og (fldA 0 v7) fun v8 =>
 og (lod v8 σ) fun v9 =>
 og (lenS v9) fun v10 =>
 og (ibin .geq v10 (iv 80)) fun v11 =>
 og (gval v11 false false (some a0)) fun v13 =>
 og (gval v11 false false (anil v13)) fun v14 =>
 og (gval v11 false false (fldA 1 v14)) fun v15 =>
 og (gval v11 false false (lod v15 σ)) fun v16 =>
 og (gval v11 false false (lenS v16)) fun v17 =>
 og (gval v11 false false (ibin .geq v17 (iv 12))) fun v18 =>
 og (pickV v11 (.val (.bool true)) v18) fun v19 =>
 apick v19 (
 aret (iv 2) σ R) (
 og (fldA 1 v3) fun v20 =>
 sto 1 v20 (iv (-1)) σ fun σ =>
 jn (X := Tup [0, 3]) (fun x1 σ =>
 frz x1.2.1 σ fun f3 σ =>
 og (anil x1.1) fun v39 =>
 og (fldA 0 v39) fun v40 =>
 og (lod v40 σ) fun v41 =>
 og (lodA 4 f3 σ) fun v42 =>
 og (bslR 4 [(iv 0), (iv 0), (iv 0), (str ⟨#[]⟩)] 1 [(0, v42)]) fun v43 =>
 app 4 v41 v43 σ fun v44 σ =>
 (True) ∧
 og (anil x1.1) fun v45 =>
 og (fldA 0 v45) fun v46 =>
 sto 1 v46 v44 σ fun σ =>
 (True) ∧
 aret (iv 0) σ R) fun k1 =>
 og (anil a0) fun v22 =>
 og (fldA 1 v22) fun v23 =>
 og (lod v23 σ) fun v24 =>
 og (lenS v24) fun v25 =>
 og (ibin .gtr v25 (iv 0)) fun v27 =>
 apick v27 (
 og (anil a0) fun v29 =>
 og (fldA 1 v29) fun v30 =>
 og (lod v30 σ) fun v31 =>
 og (ibin .sub v25 (iv 1)) fun v33 =>
 og (idx 1 v31 v33 σ) fun v34 =>
 og (lod v34 σ) fun v35 =>
 og (fldA 1 v3) fun v36 =>
 sto 1 v36 v35 σ fun σ =>
 k1 (a0, v3, ()) σ) (
 k1 (a0, v3, ()) σ))
def x155 : Sx := .box (Z 0) (Q (A 2) (Q (F 0 0) (M 0 (O 0 (D .geq (Z 0) (Y 80) (G 0 (.ret (Z 7)) (G 1 (A 0) (G 2 (F 1 0) (G 3 (L 0) (G 4 (N 0) (G 5 (B .geq (Z 0) (Y 12)) (Q (.pickV (Z 6) (.lit (.val (.bool true))) (Z 0)) (P 0 (.ret (Y 2)) (Q (F 1 12) (.sto 1 (Z 0) (Y (-1)) (.jn 31 [0, 3] (.frz 0 (Z 1) (.ord [0, 1, 2, 3, 4, 5, 6, 7, 8, 9, 10] [0, 0, 2, 6, 14, 0, 32, 126, 255, 511, 1023] (Q (A 1) (Q (F 0 0) (M 0 (Q (.lodA 4 (Z 3)) (Q (.bslR 4 [(iv 0), (iv 0), (iv 0), (str ⟨#[]⟩)] 1 [(0, (Z 0))]) (.app 4 (Z 2) (Z 0) (.wat [] (Q (A 7) (Q (F 0 0) (.sto 1 (Z 0) (Z 2) (.wat [] (.ret (Y 0))))))))))))))) (Q (A 15) (Q (F 1 0) (M 0 (O 0 (D .gtr (Z 0) (Y 0) (P 0 (Q (A 20) (Q (F 1 0) (M 0 (D .sub (Z 4) (Y 1) (J 1 1 0 (M 0 (Q (F 1 24) (.sto 1 (Z 0) (Z 1) (.jump 0 [(Z 27), (Z 25)]))))))))) (.jump 0 [(Z 20), (Z 18)])))))))))))))))))))))))
theorem x155_ok : okF TT Tryz.f155 2 x155 = true := by decide +kernel
theorem s_spec_l3Put_ok (h : s_spec_l3Put a0 a1 σ R) : acall TP fn_spec_l3Put [a0, a1] σ R :=
 acall_okF (ρ := [a1, a0]) TT_ok Tryz.func155 rfl x155 x155_ok rfl h
def s_spec_l1Parse (a0 : AV) (σ : AH) (R : AEnd → AH → Prop) : Prop :=
 jn (X := Tup [0, 4]) (fun x1 σ =>
 og (lenStr x1.1) fun v16 =>
 og (ibin .sub v16 x1.2.1) fun v18 =>
 og (ibin .lss v18 (iv 1)) fun v19 =>
 og (gval v19 false false (some x1.1)) fun v21 =>
 og (gval v19 false false (lenStr v21)) fun v22 =>
 og (gval v19 false false (some x1.2.1)) fun v23 =>
 og (gval v19 false false (ibin .sub v22 v23)) fun v24 =>
 og (gval v19 false false (ibin .gtr v24 (iv 10))) fun v25 =>
 og (pickV v19 (.val (.bool true)) v25) fun v26 =>
 apick v26 (
 aret (.tup [(iv 0), (.val (.bool false))]) σ R) (
 lp (X := Tup [0, 4, 5, 6]) (fun R2 y2 σ =>
 og (lenStr y2.1) fun v30 =>
 og (ibin .lss y2.2.2.2.1 v30) fun v31 =>
 apick v31 (
 og (idxStr y2.1 y2.2.2.2.1) fun v36 =>
 og (ibin .lss v36 (.val (.int .u8 48))) fun v37 =>
 og (gval v37 false false (some y2.1)) fun v39 =>
 og (gval v37 false false (some y2.2.2.2.1)) fun v40 =>
 og (gval v37 false false (idxStr v39 v40)) fun v41 =>
 og (gval v37 false false (ibin .gtr v41 (.val (.int .u8 57)))) fun v42 =>
 og (pickV v37 (.val (.bool true)) v42) fun v43 =>
 apick v43 (
 aret (.tup [(iv 0), (.val (.bool false))]) σ R) (
 og (ibin .mul y2.2.2.1 (iv 10)) fun v45 =>
 og (idxStr y2.1 y2.2.2.2.1) fun v48 =>
 og (ibin .sub v48 (.val (.int .u8 48))) fun v49 =>
 og (convI .i64 v49) fun v50 =>
 og (ibin .add v45 v50) fun v51 =>
 og (ibin .add y2.2.2.2.1 (iv 1)) fun v33 =>
 R2 (y2.1, y2.2.1, v51, v33, ()) σ)) (
 jn (X := Tup [0, 5]) (fun x3 σ =>
 jn (X := Tup [2, 3]) (fun x4 σ =>
 aret (.tup [x4.1, x4.2.1]) σ R) fun k4 =>
 acall TP fn_spec_l1Num [x3.2.1] σ (onr (fun v58 σ =>
 og (gval v58 true false (some x3.2.1)) fun v60 =>
 gpick v58 (
 acall TP fn_spec_l1Digits [v60] σ (onr (fun v61 σ =>
 og (sbin .eql v61 x3.1) fun v63 =>
 k4 (x3.2.1, v63, ()) σ) (pn R))) (
 k4 (x3.2.1, (.val (.bool false)), ()) σ) (False)) (pn R))) fun k3 =>
 og (ibin .eql y2.2.1 (iv 1)) fun v53 =>
 apick v53 (
 og (aun .neg y2.2.2.1) fun v55 =>
 k3 (y2.1, v55, ()) σ) (
 k3 (y2.1, y2.2.2.1, ()) σ))) (x1.1, x1.2.1, (iv 0), x1.2.1, ()) σ)) fun k1 =>
 og (lenStr a0) fun v8 =>
 og (ibin .gtr v8 (iv 0)) fun v9 =>
 og (gval v9 true false (some a0)) fun v11 =>
 og (gval v9 true false (idxStr v11 (iv 0))) fun v12 =>
 og (gval v9 true false (ibin .eql v12 (.val (.int .u8 45)))) fun v13 =>
 og (pickV v9 v13 (.val (.bool false))) fun v14 =>
 apick v14 (
 k1 (a0, (iv 1), ()) σ) (
 k1 (a0, (iv 0), ()) σ)
def x157 : Sx := .jn 15 [0, 4] (Q (.lenStr (Z 0)) (D .sub (Z 0) (Z 2) (D .lss (Z 0) (Y 1) (G 0 (.ret (Z 3)) (G 1 (.lenStr (Z 0)) (G 2 (.ret (Z 6)) (G 3 (B .sub (Z 1) (Z 0)) (G 4 (B .gtr (Z 0) (Y 10)) (Q (.pickV (Z 5) (.lit (.val (.bool true))) (Z 0)) (P 0 (.rets [(Y 0), (.lit (.val (.bool false)))]) (.lp [0, 4, 5, 6] (Q (.lenStr (Z 0)) (D .lss (Z 4) (Z 0) (P 0 (Q (.idxStr (Z 2) (Z 5)) (D .lss (Z 0) (.lit (.val (.int .u8 48))) (G 0 (.ret (Z 4)) (G 1 (.ret (Z 8)) (G 2 (.idxStr (Z 1) (Z 0)) (G 3 (B .gtr (Z 0) (.lit (.val (.int .u8 57)))) (Q (.pickV (Z 4) (.lit (.val (.bool true))) (Z 0)) (P 0 (.rets [(Y 0), (.lit (.val (.bool false)))]) (D .mul (Z 11) (Y 10) (Q (.idxStr (Z 10) (Z 13)) (D .sub (Z 0) (.lit (.val (.int .u8 48))) (Q (.conv .i64 (Z 0)) (D .add (Z 3) (Z 0) (D .add (Z 17) (Y 1) (.jump 0 [(Z 15), (Z 16), (Z 1), (Z 0)]))))))))))))))) (.jn 255 [0, 5] (.jn 511 [2, 3] (.rets [(Z 0), (Z 1)]) (.call 109 [(Z 1)] (H 0 (.ret (Z 2)) (.gpick (Z 1) (.call 119 [(Z 0)] (Q (.sbin .eql (Z 0) (Z 3)) (.jump 0 [(Z 5), (Z 0)]))) (.jump 0 [(Z 3), (.lit (.val (.bool false)))]) (.no))))) (D .eql (Z 3) (Y 1) (P 0 (Q (.aun .neg (Z 5)) (.jump 0 [(Z 4), (Z 0)])) (.jump 0 [(Z 3), (Z 5)]))))))) [(Z 9), (Z 10), (Y 0), (Z 10)]))))))))))) (Q (.lenStr (Z 0)) (D .gtr (Z 0) (Y 0) (H 0 (.ret (Z 2)) (H 1 (.idxStr (Z 0) (Y 0)) (H 2 (B .eql (Z 0) (.lit (.val (.int .u8 45)))) (Q (.pickV (Z 3) (Z 0) (.lit (.val (.bool false)))) (P 0 (.jump 0 [(Z 6), (Y 1)]) (.jump 0 [(Z 6), (Y 0)]))))))))
theorem x157_ok : okF TT Tryz.f157 1 x157 = true := by decide +kernel
theorem s_spec_l1Parse_ok (h : s_spec_l1Parse a0 σ R) : acall TP fn_spec_l1Parse [a0] σ R :=
 acall_okF (ρ := [a0]) TT_ok Tryz.func157 rfl x157 x157_ok rfl h
end Go.Proofs.YtbapalgndjiamaaGreatDoor.E
/- Texts: bytes of a text, trimming by a set of bytes, names. -/
set_option linter.unusedSectionVars false
set_option linter.unusedSimpArgs false
set_option linter.unusedVariables false
namespace Go.Proofs.YtbapalgndjiamaaGreatDoor.E
open Go Go.RowKit
variable [L : Lam]
variable {σ : AH} {R : AEnd → AH → Prop}
abbrev u8v (n : Int) : AV := .val (.int .u8 n)
abbrev bs (l : List UInt8) : ByteArray := ⟨l.toArray⟩
abbrev by8 (s : ByteArray) : List UInt8 := s.data.toList
theorem bs_by8 (s : ByteArray) : bs (by8 s) = s := by cases s; simp
theorem size_by8 (s : ByteArray) : s.size = (by8 s).length := by show s.data.size = s.data.toList.length; simp
theorem size_bs (l : List UInt8) : (bs l).size = l.length := by show l.toArray.size = l.length; simp
theorem abd_nat (i d : Nat) : abd (some (iv (i : Nat))) d = some i := by simp [abd]
theorem ga_bs {l : List UInt8} {i : Nat} (h : i < l.length) : (bs l)[i]? = some l[i] := by
 have h' : i < (bs l).size := by rw [size_bs]; exact h
 rw [getElem?_pos (bs l) i h']
 rfl
theorem idxStr_bs {l : List UInt8} {i : Nat} (h : i < l.length) : idxStr (str (bs l)) (.val (.int .i64 (i : Int))) = some (u8v (l[i].toNat : Nat)) := by
 simp only [idxStr, Int.toNat_natCast, ga_bs h]
 rw [if_pos (by omega)]
theorem slc_from1 {b : UInt8} {l : List UInt8} : slcStr (str (bs (b :: l))) (some (.val (.int .i64 1))) none = some (str (bs l)) := by
 have e1 : abd (some (AV.val (.int .i64 1))) 0 = some 1 := rfl
 have e2 : abd none (bs (b :: l)).size = some (bs (b :: l)).size := rfl
 simp only [slcStr, e1, e2]
 rw [if_pos ⟨by rw [size_bs]; simp, Nat.le_refl _⟩]
 congr 3
 apply ByteArray.ext
 rw [ByteArray.data_extract, size_bs]; simp
theorem slc_init {b : UInt8} {l : List UInt8} : slcStr (str (bs (l ++ [b]))) none (some (.val (.int .i64 (l.length : Nat)))) = some (str (bs l)) := by
 have e1 : abd none 0 = some 0 := rfl
 have e2 : abd (some (AV.val (.int .i64 ((l.length : Nat) : Int)))) (bs (l ++ [b])).size = some l.length := abd_nat _ _
 simp only [slcStr, e1, e2]
 rw [if_pos ⟨Nat.zero_le _, by rw [size_bs]; simp⟩]
 congr 3
 apply ByteArray.ext
 rw [ByteArray.data_extract]; simp
theorem ibin_cmp8 (a b : Int) : ibin .geq (u8v a) (u8v b) = some (bv (decide (b ≤ a))) ∧ ibin .leq (u8v a) (u8v b) = some (bv (decide (a ≤ b))) ∧ ibin .lss (u8v a) (u8v b) = some (bv (decide (a < b))) ∧ ibin .gtr (u8v a) (u8v b) = some (bv (decide (b < a))) ∧
  ibin .eql (u8v a) (u8v b) = some (bv (decide (a = b))) ∧ ibin .neq (u8v a) (u8v b) = some (bv (!decide (a = b))) := ⟨id rfl, id rfl, id rfl, id rfl, id rfl, id rfl⟩
theorem lod_rop {cs : List AV} {off : Nat} {σ : AH} : lod (.rop cs off) σ = cs[off]? := by
 unfold lod acellsAt
 simp only []
 rcases Nat.lt_or_ge off cs.length with h | h
 ·rw [List.drop_eq_getElem_cons h, List.getElem?_eq_getElem h]
 ·rw [List.drop_eq_nil_of_le h, List.getElem?_eq_none h]
theorem dropWhile_nil (p : UInt8 → Bool) : ∀ l : List UInt8, l.dropWhile p = [] ↔ ∀ b, b ∈ l → p b = true := by
 intro l
 induction l with
 | nil => simp
 | cons b l ih =>
  rw [List.dropWhile_cons]
  by_cases h : p b = true
  ·rw [if_pos h, ih]; simp [h]
  ·rw [if_neg h]; simp [h]
theorem any_contains (c : List UInt8) (b : UInt8) : (c.any fun x => x.toNat == b.toNat) = c.contains b := by
 induction c with
 | nil => rfl
 | cons x c ih =>
  rw [List.any_cons, List.contains_cons, ih]
  congr 1
  by_cases e : x = b
  ·subst e; simp
  ·have h1 : x.toNat ≠ b.toNat := fun h => e (UInt8.toNat_inj.1 h)
   have h2 : (x.toNat == b.toNat) = false := by simpa using h1
   have h3 : (b == x) = false := by simpa using Ne.symm e
   rw [h2, h3]
def setC (c : List UInt8) : List AV := (List.range 256).map fun j => bv (c.any fun b => b.toNat == j)
theorem setC_len (c : List UInt8) : (setC c).length = 256 := by simp [setC]
theorem setC_nil : setC [] = List.replicate 256 (bv false) := by
 unfold setC
 simp only [List.any_nil]
 rw [List.map_const', List.length_range]
theorem setC_at (c : List UInt8) {n : Nat} (h : n < 256) : (setC c)[n]? = some (bv (c.any fun b => b.toNat == n)) := by simp [setC, h]
theorem setC_snoc (c : List UInt8) (b : UInt8) : (setC c).set b.toNat (bv true) = setC (c ++ [b]) := by
 apply List.ext_getElem?
 intro j
 by_cases hj : j < 256
 ·rw [setC_at _ hj, List.getElem?_set]
  by_cases e : b.toNat = j
  ·rw [if_pos e, if_pos (by rw [setC_len]; exact e ▸ hj)]; simp [e]
  ·rw [if_neg e, setC_at _ hj]; simp [e]
 ·rw [List.getElem?_eq_none (by rw [List.length_set, setC_len]; omega), List.getElem?_eq_none (by rw [setC_len]; omega)]
theorem u8_lt (b : UInt8) : b.toNat < 256 := b.toNat_lt
theorem c_strings_makeASCIISet {c : List UInt8} (hc : ∀ b, b ∈ c → b.toNat < 128) (hl : c.length ≤ 1000000) (h : R (.ret (.tup [.agg (setC c), bv true])) σ) : acall TP fn_strings_makeASCIISet [str (bs c)] σ R := by
 refine s_strings_makeASCIISet_ok ?_
 unfold s_strings_makeASCIISet
 intro φ hφ
 simp only [List.length_replicate]
 refine lp_for c.length (fun i => (str (bs c), .ptr φ 0 0 0, iv (i : Int), ())) (fun i σ' => σ' = σ.set φ ⟨0, 256, [setC (c.take i)]⟩) rfl (by rw [List.take_zero, setC_nil]) ?_
 rintro i σ' hi rfl R' hR'
 have hF : (σ.set φ ⟨0, 256, [setC (c.take i)]⟩) φ = some ⟨0, 256, [setC (c.take i)]⟩ := AH.set_same ..
 have hsz : (bs c).size = c.length := size_bs c
 simp only [RR, hsz]
 by_cases hlt : i < c.length
 ·have g : (i : Int) < (c.length : Int) := by omega
  have hb := hc _ (List.getElem_mem hlt)
  have g2 : ¬ (128 : Int) ≤ ((c[i].toNat : Nat) : Int) := by omega
  have e1 : idxArr 256 1 (.ptr φ 0 0 0) (u8v (c[i].toNat : Nat)) = some (.ptr φ 0 0 c[i].toNat) := by
   simp only [idxArr]
   rw [if_pos ⟨by omega, by omega⟩]; simp
  simp only [g, idxStr_bs hlt, ibin_cmp8, g2, e1, ibin_up hlt (by omega), RR]
  refine sto_fld (sz := 256) (off := c[i].toNat) (i := 0) (cs := setC (c.take i)) (v := bv true) hF rfl (u8_lt _) rfl rfl ?_
  have ht : c.take i ++ [c[i]] = c.take (i + 1) := List.take_append_getElem hlt
  simp only [List.set_cons_zero, AH.set_set, setC_snoc, ht]
  exact hR' hlt _ _ (.refl _) rfl
 ·have g : ¬ (i : Int) < (c.length : Int) := by omega
  obtain rfl : i = c.length := by omega
  rw [List.take_length] at hF ⊢
  have e1 := lodA_at (σ := σ.set φ ⟨0, 256, [setC c]⟩) (st := 0) (i := 0) (n := 256) (cs := setC c) hF rfl rfl (setC_len c)
  simp only [g, e1, RR]
  refine sto_own (es := [setC c]) (cs := setC c) hF (by simp) (setC_len c) rfl (setC_len c) ?_ ?_
  ·intro x hx
   obtain ⟨j, _, rfl⟩ := List.mem_map.1 hx; rfl
  simp only [List.set_cons_zero, AH.set_set, e1, RR]
  exact aret_sub (sub_set (.refl _) hφ) h
theorem c_strings_asciiSet_contains {c : List UInt8} {b : UInt8} (h : R (.ret (bv (c.contains b))) σ) : acall TP fn_strings_asciiSet_contains [.rop (setC c) 0, u8v (b.toNat : Nat)] σ R := by
 refine s_strings_asciiSet_contains_ok ?_
 unfold s_strings_asciiSet_contains
 have e1 : idxArr 256 1 (.rop (setC c) 0) (u8v (b.toNat : Nat)) = some (.rop (setC c) b.toNat) := by
  have := u8_lt b
  simp only [idxArr]
  rw [if_pos ⟨by omega, by omega⟩]; simp
 have e2 : lod (.rop (setC c) b.toNat) σ = some (bv (c.contains b)) := by
  have hb := u8_lt b
  have hi : b.toNat < (setC c).length := by rw [setC_len]; exact hb
  have e := setC_at c hb
  rw [lod_rop, e, any_contains]
 simp only [RR, e1, e2]
 exact ret_here h
def trimL (p : UInt8 → Bool) (l : List UInt8) : List UInt8 := l.dropWhile p
def trimR (p : UInt8 → Bool) (l : List UInt8) : List UInt8 := (l.reverse.dropWhile p).reverse
theorem trimR_snoc (p : UInt8 → Bool) (l : List UInt8) (b : UInt8) : trimR p (l ++ [b]) = if p b then trimR p l else l ++ [b] := by
 unfold trimR
 rw [List.reverse_append]
 simp only [List.reverse_cons, List.reverse_nil, List.nil_append, List.singleton_append, List.dropWhile_cons]
 split <;> simp
theorem trim_nil (p : UInt8 → Bool) : ∀ l : List UInt8, trimL p (trimR p l) = [] ↔ l.all p = true := by
 intro l
 have hR : trimR p l = [] ↔ l.all p = true := by
  unfold trimR
  rw [List.reverse_eq_nil_iff, dropWhile_nil]
  simp [List.all_eq_true]
 constructor
 ·intro h
  unfold trimL at h
  rw [dropWhile_nil] at h
  refine hR.1 ?_
  by_cases e : trimR p l = []
  ·exact e
  ·exfalso
   have hne : l.reverse.dropWhile p ≠ [] := fun h' => e (by unfold trimR; rw [h']; rfl)
   have h1 := List.head_dropWhile_not p hne
   have h2 := h ((l.reverse.dropWhile p).head hne) (by unfold trimR; rw [List.mem_reverse]; exact List.head_mem hne)
   rw [h1] at h2; cases h2
 ·intro h
  rw [hR.2 h]; rfl
theorem c_strings_trimRightASCII {c l : List UInt8} (hl : l.length ≤ 1000000) (h : R (.ret (str (bs (trimR c.contains l)))) σ) : acall TP fn_strings_trimRightASCII [str (bs l), .rop (setC c) 0] σ R := by
 refine s_strings_trimRightASCII_ok ?_
 unfold s_strings_trimRightASCII
 refine jn_of (fun x σ' => σ' = σ ∧ x = (str (bs (trimR c.contains l)), ())) ?_ ?_
 ·rintro x σ' ⟨rfl, rfl⟩; exact ret_here h
 intro k hk
 refine lp_by (fun n x σ' => ∃ l', x = (str (bs l'), .rop (setC c) 0, ()) ∧ σ' = σ ∧ l'.length = n ∧ n ≤ 1000000 ∧ trimR c.contains l' = trimR c.contains l) l.length ⟨l, rfl, rfl, rfl, hl, rfl⟩ ?_
 rintro n x σ' ⟨l', rfl, rfl, hn, hn2, ht⟩ R' hR'
 have hsz : (bs l').size = l'.length := size_bs l'
 simp only [RR, hsz]
 rcases List.eq_nil_or_concat l' with rfl | ⟨m, b, rfl⟩
 ·have e : trimR c.contains l = [] := ht.symm
  have g : ¬ (0 : Int) < (([] : List UInt8).length : Int) := by simp
  simp only [g, RR]
  exact hk _ _ ⟨rfl, by rw [e]; rfl⟩
 ·rw [List.concat_eq_append] at ht hn hsz ⊢
  have hlen : (m ++ [b]).length = m.length + 1 := by simp
  have g : (0 : Int) < ((m ++ [b]).length : Int) := by omega
  have e1 : ibin .sub (.val (.int .i64 ((m ++ [b]).length : Int))) (.val (.int .i64 1)) = some (iv (m.length : Nat)) := by rw [ibin_sub (by omega) (by omega)]; congr 3; omega
  have e2 : idxStr (str (bs (m ++ [b]))) (.val (.int .i64 (m.length : Nat))) = some (u8v (b.toNat : Nat)) := by
   rw [idxStr_bs (by omega)]; simp
  rw [trimR_snoc] at ht
  simp only [g, e1, e2, hsz, RR]
  refine c_strings_asciiSet_contains ?_
  by_cases hb : c.contains b = true
  ·rw [if_pos hb] at ht
   simp only [hb, e1, slc_init, RR]
   exact hR' _ _ m.length σ' (by omega) (.refl _) ⟨m, rfl, rfl, rfl, by omega, ht⟩
  ·rw [if_neg hb] at ht
   have hb' : c.contains b = false := by simpa using hb
   simp only [hb', RR]
   exact hk _ _ ⟨rfl, by rw [ht]; rfl⟩
theorem c_strings_trimLeftASCII {c l : List UInt8} (hl : l.length ≤ 1000000) (h : R (.ret (str (bs (trimL c.contains l)))) σ) : acall TP fn_strings_trimLeftASCII [str (bs l), .rop (setC c) 0] σ R := by
 refine s_strings_trimLeftASCII_ok ?_
 unfold s_strings_trimLeftASCII
 refine jn_of (fun x σ' => σ' = σ ∧ x = (str (bs (trimL c.contains l)), ())) ?_ ?_
 ·rintro x σ' ⟨rfl, rfl⟩; exact ret_here h
 intro k hk
 refine lp_by (fun n x σ' => ∃ l', x = (str (bs l'), .rop (setC c) 0, ()) ∧ σ' = σ ∧ l'.length = n ∧ n ≤ 1000000 ∧ trimL c.contains l' = trimL c.contains l) l.length ⟨l, rfl, rfl, rfl, hl, rfl⟩ ?_
 rintro n x σ' ⟨l', rfl, rfl, hn, hn2, ht⟩ R' hR'
 have hsz : (bs l').size = l'.length := size_bs l'
 simp only [RR, hsz]
 match l', ht, hn, hsz with
 | [], ht, hn, hsz =>
  have e : trimL c.contains l = [] := ht.symm
  have g : ¬ (0 : Int) < (([] : List UInt8).length : Int) := by simp
  simp only [g, RR]
  exact hk _ _ ⟨rfl, by rw [e]; rfl⟩
 | b :: m, ht, hn, hsz =>
  have g : (0 : Int) < ((b :: m).length : Int) := by rw [List.length_cons]; omega
  have e2 : idxStr (str (bs (b :: m))) (.val (.int .i64 0)) = some (u8v (b.toNat : Nat)) := idxStr_bs (l := b :: m) (i := 0) (by simp)
  unfold trimL at ht
  rw [List.dropWhile_cons] at ht
  simp only [g, e2, RR]
  refine c_strings_asciiSet_contains ?_
  by_cases hb : c.contains b = true
  ·rw [if_pos hb] at ht
   simp only [hb, slc_from1, RR]
   exact hR' _ _ m.length σ' (by simp at hn; omega) (.refl _) ⟨m, rfl, rfl, rfl, by simp at hn; omega, ht⟩
  ·rw [if_neg hb] at ht
   have hb' : c.contains b = false := by simpa using hb
   simp only [hb', RR]
   refine hk _ _ ⟨rfl, ?_⟩
   show (str (bs (b :: m)), ()) = (str (bs (trimL c.contains l)), ())
   unfold trimL; rw [← ht]
theorem c_strings_Trim {c l : List UInt8} (hc : ∀ b, b ∈ c → b.toNat < 128) (hc2 : 2 ≤ c.length) (hcl : c.length ≤ 1000000) (hl : l.length ≤ 1000000) (h : R (.ret (str (bs (trimL c.contains (trimR c.contains l))))) σ) : acall TP fn_strings_Trim [str (bs l), str (bs c)] σ R := by
 refine s_strings_Trim_ok ?_
 unfold s_strings_Trim
 have hsz : (bs c).size = c.length := size_bs c
 have ce : ¬ bs c = (⟨#[]⟩ : ByteArray) := by
  intro e
  have := congrArg ByteArray.size e
  rw [size_bs] at this
  change c.length = 0 at this; omega
 have g1 : ¬ ((c.length : Int) = 1) := by omega
 by_cases le : l = []
 ·subst le
  have e : (bs ([] : List UInt8)) = (⟨#[]⟩ : ByteArray) := rfl
  simp only [e, sbin_eql', RR]
  exact ret_here h
 ·have e : ¬ bs l = (⟨#[]⟩ : ByteArray) := by
   intro e
   have := congrArg ByteArray.size e
   rw [size_bs] at this
   exact le (List.eq_nil_of_length_eq_zero this)
  simp only [e, ce, sbin_eql', hsz, g1, RR]
  refine c_strings_makeASCIISet hc hcl ?_
  simp only [aext_tup, List.getElem?_cons_zero, List.getElem?_cons_succ, RR]
  refine new_frz rfl (setC_len c) List.length_replicate (fun y hy => by obtain ⟨j, _, rfl⟩ := List.mem_map.1 hy; rfl) ?_
  refine c_strings_trimRightASCII hl ?_
  simp only [RR]
  refine c_strings_trimLeftASCII ?_ ?_
  ·have : (trimR c.contains l).length ≤ l.length := by
    unfold trimR
    rw [List.length_reverse]
    have := (List.dropWhile_sublist c.contains (l := l.reverse)).length_le
    rwa [List.length_reverse] at this
   omega
  simp only [RR]
  exact ret_here h
end Go.Proofs.YtbapalgndjiamaaGreatDoor.E
/- Numbers, names, kinds. -/
namespace Go.Proofs.YtbapalgndjiamaaGreatDoor.E
open Go Go.RowKit
variable [L : Lam]
variable {σ : AH} {R : AEnd → AH → Prop}
def inB (lo hi x : Int) : Bool := decide (lo ≤ x) && decide (x ≤ hi)
theorem inB_iff {lo hi x : Int} : inB lo hi x = true ↔ lo ≤ x ∧ x ≤ hi := by simp [inB]
theorem c_impl_in {x lo hi : Int} (h : R (.ret (bv (inB lo hi x))) σ) : acall TP fn_impl_in [iv x, iv lo, iv hi] σ R := by
 refine s_impl_in_ok ?_
 unfold s_impl_in
 unfold inB at h
 by_cases h1 : lo ≤ x
 ·simp only [h1, RR, Bool.true_and] at h ⊢; exact ret_here h
 ·simp only [h1, RR, Bool.false_and] at h ⊢; exact ret_here h
theorem c_spec_l1In {x lo hi : Int} (h : R (.ret (bv (inB lo hi x))) σ) : acall TP fn_spec_l1In [iv x, iv lo, iv hi] σ R := by
 refine s_spec_l1In_ok ?_
 unfold s_spec_l1In
 unfold inB at h
 by_cases h1 : lo ≤ x
 ·simp only [h1, RR, Bool.true_and] at h ⊢; exact ret_here h
 ·simp only [h1, RR, Bool.false_and] at h ⊢; exact ret_here h
def numB (n : Int) : Bool := inB (-1000000000) 1000000000 n
theorem c_spec_l1Num {n : Int} (h : R (.ret (bv (numB n))) σ) : acall TP fn_spec_l1Num [iv n] σ R := s_spec_l1Num_ok (c_spec_l1In (ret_here h))
theorem c_impl_NumFault {n : Int} (h : R (.ret (iv (if numB n then 0 else 3))) σ) : acall TP fn_impl_NumFault [iv n] σ R := by
 refine s_impl_NumFault_ok (c_impl_in ?_)
 change R (.ret (iv (if inB (-1000000000) 1000000000 n then 0 else 3))) σ at h
 cases c : inB (-1000000000) 1000000000 n <;> rw [c] at h <;> simp only [RR] <;> exact ret_here h
def cutset : List UInt8 := [97, 98, 99, 100, 101, 102, 103, 104, 105, 106, 107, 108, 109, 110, 111, 112, 113, 114, 115, 116, 117, 118, 119, 120, 121, 122, 43, 45, 42, 47, 60, 61, 63, 33]
def symB (b : UInt8) : Bool := cutset.contains b
def symOk (s : ByteArray) : Bool := inB 1 12 s.size && (by8 s).all symB
theorem c_impl_SymFault {s : ByteArray} (h : R (.ret (iv (if symOk s then 0 else 5))) σ) : acall TP fn_impl_SymFault [str s] σ R := by
 refine s_impl_SymFault_ok ?_
 unfold s_impl_SymFault
 unfold symOk at h
 simp only [jn, RR]
 refine c_impl_in ?_
 cases c : inB 1 12 (s.size : Int)
 ·rw [c] at h
  simp only [RR]; exact ret_here h
 ·rw [c] at h
  have hi := inB_iff.1 c
  have hl : (by8 s).length ≤ 1000000 := by rw [← size_by8]; omega
  simp only [RR]
  rw [← bs_by8 s]
  refine c_strings_Trim (c := cutset) (by decide) (by decide) (by decide) hl ?_
  have ht := trim_nil symB (by8 s)
  have e : (bs (trimL cutset.contains (trimR cutset.contains (by8 s))) = (⟨#[]⟩ : ByteArray)) ↔ (by8 s).all symB = true := by
   rw [← ht]
   constructor
   ·intro e
    have := congrArg (fun b : ByteArray => b.data.toList) e
    exact this
   ·intro e
    have e : trimL cutset.contains (trimR cutset.contains (by8 s)) = [] := e
    rw [e]
  cases ha : (by8 s).all symB
  ·rw [ha] at h e
   have e : ¬ bs (trimL cutset.contains (trimR cutset.contains (by8 s))) = (⟨#[]⟩ : ByteArray) := fun h => by have := e.1 h; cases this
   simp only [sbin_neq', e, RR]; exact ret_here h
  ·rw [ha] at h e
   have e := e.2 rfl
   simp only [sbin_neq', e, RR]; exact ret_here h
def signs : List UInt8 := [43, 45, 42, 47, 60, 61, 63, 33]
theorem symB_eq (b : UInt8) : symB b = ((decide (97 ≤ b.toNat) && decide (b.toNat ≤ 122)) || signs.contains b) := by
 have key : ∀ n : Fin 256, symB (UInt8.ofNat n.val) = ((decide (97 ≤ n.val) && decide (n.val ≤ 122)) || signs.contains (UInt8.ofNat n.val)) := by decide +kernel
 have hk := key ⟨b.toNat, b.toNat_lt⟩
 rw [UInt8.ofNat_toNat] at hk
 exact hk
theorem c_spec_l2Byte {b : UInt8} (h : R (.ret (bv (symB b))) σ) : acall TP fn_spec_l2Byte [u8v (b.toNat : Nat)] σ R := by
 refine s_spec_l2Byte_ok ?_
 unfold s_spec_l2Byte
 rw [symB_eq] at h
 by_cases c : 97 ≤ b.toNat ∧ b.toNat ≤ 122
 · have g1 : (97 : Int) ≤ ((b.toNat : Nat) : Int) := by omega
   have g2 : ((b.toNat : Nat) : Int) ≤ 122 := by omega
   simp only [ibin_cmp8, g1, g2, RR]
   rw [decide_eq_true c.1, decide_eq_true c.2] at h
   exact ret_here h
 have e : (decide (97 ≤ b.toNat) && decide (b.toNat ≤ 122)) = false := by simpa using c
 rw [e, Bool.false_or] at h
 have loop : ∀ (i : Nat) (_ : i ≤ signs.length) (_ : ∀ j, j < i → signs[j]? ≠ some b) (R' : Tup [0, 3, 4] → AH → Prop), (i < signs.length → signs[i]? ≠ some b → R' (u8v (b.toNat : Nat), str (bs signs), iv ((i + 1 : Nat) : Int), ()) σ) →
     (og (lenStr (str (bs signs))) fun v13 => og (ibin .lss (iv (i : Int)) v13) fun v14 => apick v14
       (og (idxStr (str (bs signs)) (iv (i : Int))) fun v19 => og (ibin .eql v19 (u8v (b.toNat : Nat))) fun v21 => apick v21 (aret (bv true) σ R)
         (og (ibin .add (iv (i : Int)) (.val (.int .i64 1))) fun v16 => R' (u8v (b.toNat : Nat), str (bs signs), v16, ()) σ)) (aret (bv false) σ R)) := by
   intro i hi hj R' hR'
   have hsz : (bs signs).size = signs.length := size_bs _
   have hsg : signs.length = 8 := rfl
   by_cases hlt : i < signs.length
   · have g : (i : Int) < (signs.length : Int) := by omega
     simp only [RR, hsz, g, idxStr_bs hlt, ibin_cmp8, ibin_up hlt (by omega)]
     have e1 := List.getElem?_eq_getElem hlt
     by_cases q : signs[i] = b
     · have q1 : ((signs[i].toNat : Nat) : Int) = ((b.toNat : Nat) : Int) := by rw [q]
       simp only [q1, RR]
       refine ret_here ?_
       rw [List.contains_iff_mem.2 (List.mem_of_getElem? (e1.trans (congrArg some q)))] at h
       exact h
     · have q1 : ¬ ((signs[i].toNat : Nat) : Int) = ((b.toNat : Nat) : Int) := fun e => q (UInt8.toNat_inj.1 (by omega))
       simp only [q1, RR]
       exact hR' hlt (by rw [e1]; exact fun e => q (Option.some.inj e))
   · have g : ¬ (i : Int) < (signs.length : Int) := by omega
     simp only [RR, hsz, g]
     refine ret_here ?_
     have : signs.contains b = false := by
       rw [Bool.eq_false_iff]
       intro hc
       obtain ⟨j, hj1, hj2⟩ := List.getElem_of_mem (List.contains_iff_mem.1 hc)
       exact hj j (by omega) (by rw [List.getElem?_eq_getElem hj1, hj2])
     rw [this] at h; exact h
 have go : lp (X := Tup [0, 3, 4]) (fun R1 y1 σ => og (lenStr y1.2.1) fun v13 => og (ibin .lss y1.2.2.1 v13) fun v14 => apick v14
       (og (idxStr y1.2.1 y1.2.2.1) fun v19 => og (ibin .eql v19 y1.1) fun v21 => apick v21 (aret (bv true) σ R)
         (og (ibin .add y1.2.2.1 (.val (.int .i64 1))) fun v16 => R1 (y1.1, y1.2.1, v16, ()) σ)) (aret (bv false) σ R)) (u8v (b.toNat : Nat), str (bs signs), .val (.int .i64 0), ()) σ := by
   refine lp_same signs.length (fun i => (u8v (b.toNat : Nat), str (bs signs), iv (i : Int), ())) (fun i => ∀ j, j < i → signs[j]? ≠ some b) rfl (fun j hj => by omega) ?_
   intro i hi hj R' hR'
   refine loop i hi hj R' fun hlt hne => hR' hlt ?_ σ (.refl _)
   intro j hj'
   rcases Nat.lt_or_ge j i with h1 | h1
   · exact hj j h1
   · obtain rfl : j = i := by omega
     exact hne
 by_cases h1 : (97 : Int) ≤ ((b.toNat : Nat) : Int)
 · have g2 : ¬ ((b.toNat : Nat) : Int) ≤ 122 := by omega
   simp only [ibin_cmp8, h1, g2, RR]
   exact go
 · simp only [ibin_cmp8, h1, RR]
   exact go
theorem all_below {i : Nat} {Q : Nat → Prop} (h : ∀ j, j < i → Q j) (hi : Q i) : ∀ j, j < i + 1 → Q j := by
 intro j hj
 rcases Nat.lt_or_ge j i with h1 | h1
 ·exact h j h1
 ·obtain rfl : j = i := by omega
  exact hi
theorem c_spec_l2Sym {s : ByteArray} (hs : s.size ≤ 1099511627776) (h : R (.ret (bv (symOk s))) σ) : acall TP fn_spec_l2Sym [str s] σ R := by
 refine s_spec_l2Sym_ok ?_
 unfold s_spec_l2Sym
 unfold symOk at h
 refine lp_same (by8 s).length (fun i => (str s, iv (i : Int), ())) (fun i => ∀ j (hj : j < (by8 s).length), j < i → symB (by8 s)[j] = true) rfl (fun j _ hj => by omega) ?_
 intro i hi hj R' hR'
 have hsz := size_by8 s
 by_cases hlt : i < (by8 s).length
 ·have g : (i : Int) < (s.size : Int) := by omega
  have e1 : idxStr (str s) (iv (i : Int)) = some (u8v ((by8 s)[i].toNat : Nat)) := by
   have := idxStr_bs hlt
   rwa [bs_by8] at this
  simp only [RR, g, e1]
  refine c_spec_l2Byte ?_
  cases c : symB (by8 s)[i]
  ·simp only [RR]
   refine ret_here ?_
   have : (by8 s).all symB = false := by
    rw [Bool.eq_false_iff]
    intro ha
    have := List.all_eq_true.1 ha _ (List.getElem_mem hlt)
    rw [c] at this; cases this
   rw [this, Bool.and_false] at h; exact h
  ·simp only [ibin_up hlt (by omega), RR]
   refine hR' hlt ?_ σ (.refl _)
   intro j hj' hlt'
   rcases Nat.lt_or_ge j i with h1 | h1
   ·exact hj j hj' h1
   ·obtain rfl : j = i := by omega
    exact c
 ·have g : ¬ (i : Int) < (s.size : Int) := by omega
  simp only [RR, g]
  refine c_spec_l1In ?_
  simp only [RR]
  refine ret_here ?_
  have : (by8 s).all symB = true := by
   rw [List.all_eq_true]
   intro b hb
   obtain ⟨j, hj1, rfl⟩ := List.getElem_of_mem hb
   exact hj j hj1 (by omega)
  rw [this, Bool.and_true] at h; exact h
def kindF (kind num : Int) (name : ByteArray) : Int :=
 if kind = 1 then (if numB num then 0 else 3) else if kind = 2 then (if inB 0 1 num then 0 else 3) else if kind = 3 then (if symOk name then 0 else 5) else 0
theorem c_impl_kindFault {kind n : Int} {s : ByteArray} (h : R (.ret (iv (kindF kind n s))) σ) : acall TP fn_impl_kindFault [iv kind, iv 1, iv 3, iv 2, iv n, str s] σ R := by
 refine s_impl_kindFault_ok ?_
 unfold s_impl_kindFault
 unfold kindF at h
 simp only [jn, RR]
 by_cases c1 : kind = 1
 ·simp only [c1, RR]
  rw [if_pos c1] at h
  refine c_impl_NumFault ?_
  simp only [RR]; exact ret_here h
 rw [if_neg c1] at h
 simp only [c1, RR]
 by_cases c2 : kind = 2
 ·simp only [c2, RR]
  rw [if_pos c2] at h
  refine c_impl_in ?_
  cases c : inB 0 1 n <;> rw [c] at h <;> simp only [RR] <;> exact ret_here h
 rw [if_neg c2] at h
 simp only [c2, RR]
 by_cases c3 : kind = 3
 ·simp only [c3, RR]
  rw [if_pos c3] at h
  refine c_impl_SymFault ?_
  simp only [RR]; exact ret_here h
 rw [if_neg c3] at h
 simp only [c3, RR]
 exact ret_here h
end Go.Proofs.YtbapalgndjiamaaGreatDoor.E
/- Data: their faults. -/
namespace Go.Proofs.YtbapalgndjiamaaGreatDoor.E
open Go Go.RowKit
variable [L : Lam]
variable {σ : AH} {R : AEnd → AH → Prop}
def upW (p : Int → Int) (at_ to : Int) : Bool := if at_ < 0 then false else if at_ = to then true else if p at_ < at_ then upW p (p at_) to else false
termination_by (at_ + 1).toNat
decreasing_by omega
def deepW (p : Int → Int) (at_ : Int) : Nat := if at_ < 0 then 0 else if p at_ < at_ then deepW p (p at_) + 1 else 0
termination_by (at_ + 1).toNat
decreasing_by omega
theorem deepW_le (p : Int → Int) (n : Nat) : ∀ at_ : Int, (at_ + 1).toNat ≤ n → deepW p at_ ≤ n := by
 induction n with
 | zero => intro a h; rw [deepW]; split <;> omega
 | succ n ih =>
  intro a h
  rw [deepW]
  split
  ·omega
  ·split
   ·have := ih (p a) (by omega); omega
   ·omega
theorem c_impl_isUp {f : AV} {p : Int → Int} {n from_ to : Int} (hf : ∀ (a : Int) (R : AEnd → AH → Prop), 0 ≤ a → a < n → R (.ret (iv (p a))) σ → acallv TP f [iv a] σ R) (hp : ∀ a, 0 ≤ a → a < n → p a < a) (hn : from_ < n)
  (h : R (.ret (bv (upW p from_ to))) σ) : acall TP fn_impl_isUp [f, iv from_, iv to] σ R := by
 refine s_impl_isUp_ok ?_
 unfold s_impl_isUp
 refine lp_by (fun k x σ' => ∃ a : Int, x = (f, iv to, iv a, ()) ∧ σ' = σ ∧ (a + 1).toNat = k ∧ a < n ∧ upW p a to = upW p from_ to) (from_ + 1).toNat ⟨from_, rfl, rfl, rfl, hn, rfl⟩ ?_
 rintro k x σ' ⟨a, rfl, rfl, hk, ha, e⟩ R' hR'
 rw [upW] at e
 by_cases c0 : 0 ≤ a
 ·rw [if_neg (by omega)] at e
  by_cases c1 : a = to
  ·rw [if_pos c1] at e
   rw [← e] at h
   simp only [c0, c1, RR]
   have c0' : 0 ≤ to := by omega
   simp only [c0', RR]
   exact ret_here h
  ·rw [if_neg c1, if_pos (hp a c0 ha)] at e
   simp only [c0, c1, RR]
   refine hf a _ c0 ha ?_
   simp only [RR]
   have := hp a c0 ha
   exact hR' _ _ ((p a) + 1).toNat σ' (by omega) (.refl _) ⟨p a, rfl, rfl, rfl, by omega, e⟩
 ·rw [if_pos (by omega)] at e
  rw [← e] at h
  simp only [c0, RR]
  exact ret_here h
def dat (ds : List Dat) (i : Nat) : Dat := ds.getD i default
def par (ds : List Dat) (a : Int) : Int := (dat ds a.toNat).parent
theorem dat_at {ds : List Dat} {i : Nat} (h : i < ds.length) : ds[i] = dat ds i := by simp [dat, List.getD, h]
theorem dat_mem {ds : List Dat} {i : Nat} (h : i < ds.length) : dat ds i ∈ ds := by rw [← dat_at h]; exact List.getElem_mem h
def bareB (x : Dat) : Bool := inB 1 4 x.kind && (decide (x.kind = 1) || decide (x.kind = 2) || decide (x.num = 0)) && (decide (x.kind = 3) || decide (x.name = (⟨#[]⟩ : ByteArray)))
def datF (ds : List Dat) (i : Nat) : Int :=
 if bareB (dat ds i) = false then 1
 else if kindF (dat ds i).kind (dat ds i).num (dat ds i).name ≠ 0 then kindF (dat ds i).kind (dat ds i).num (dat ds i).name
 else if i = 0 then (if (dat ds i).parent ≠ -1 then 3 else 0)
 else if inB 0 ((i : Int) - 1) (dat ds i).parent = false then 3
 else if (dat ds (dat ds i).parent.toNat).kind ≠ 4 ∨ upW (par ds) ((i : Int) - 1) (dat ds i).parent = false then 1
 else if 12 < deepW (par ds) i then 2 else 0
def firstF (f : Nat → Int) : Nat → Nat → Int
 | _, 0 => 0
 | i, n + 1 => if f i ≠ 0 then f i else firstF f (i + 1) n
theorem firstF_all {f : Nat → Int} : ∀ (n i : Nat), (∀ j, i ≤ j → j < i + n → f j = 0) → firstF f i n = 0 := by
 intro n
 induction n with
 | zero => intro i _; rfl
 | succ n ih =>
  intro i h
  simp only [firstF]
  rw [if_neg (by rw [h i (Nat.le_refl _) (by omega)]; simp)]
  exact ih _ fun j h1 h2 => h j (by omega) (by omega)
theorem firstF_at {f : Nat → Int} {k : Nat} (hk : f k ≠ 0) : ∀ (n i : Nat), i ≤ k → k < i + n → (∀ j, i ≤ j → j < k → f j = 0) → firstF f i n = f k := by
 intro n
 induction n with
 | zero => intro i h1 h2; omega
 | succ n ih =>
  intro i h1 h2 h
  simp only [firstF]
  by_cases e : i = k
  ·subst e; rw [if_pos hk]
  ·rw [if_neg (by rw [h i (Nat.le_refl _) (by omega)]; simp)]
   exact ih _ (by omega) (by omega) fun j h1 h2 => h j (by omega) h2
theorem firstF_zero {f : Nat → Int} : ∀ (n i : Nat), firstF f i n = 0 → ∀ j, i ≤ j → j < i + n → f j = 0 := by
 intro n
 induction n with
 | zero => intro i _ j h1 h2; omega
 | succ n ih =>
  intro i h j h1 h2
  simp only [firstF] at h
  split at h
  ·rename_i hc; exact absurd h hc
  ·rename_i hc
   by_cases e : j = i
   ·subst e; simpa using hc
   ·exact ih _ h j (by omega) (by omega)
def dataF (ds : List Dat) : Int := if inB 1 80 (ds.length : Int) then firstF (datF ds) 0 ds.length else 2
def Pars (ds : List Dat) (i : Nat) : Prop := ∀ a : Int, 0 ≤ a → a < i → par ds a < a ∧ -1 ≤ par ds a
theorem datF_par {ds : List Dat} {i : Nat} (h : datF ds i = 0) : par ds (i : Int) < i ∧ -1 ≤ par ds (i : Int) := by
 unfold datF at h
 have e : ((i : Int)).toNat = i := by omega
 unfold par
 rw [e]
 split at h
 ·cases h
 split at h
 ·rename_i hk; exact absurd h hk
 split at h
 ·rename_i h0
  split at h
  ·cases h
  ·rename_i h1; omega
 ·rename_i h0
  split at h
  ·cases h
  ·rename_i h1
   have : inB 0 ((i : Int) - 1) (dat ds i).parent = true := by simpa using h1
   have := inB_iff.1 this
   omega
theorem pars_of {ds : List Dat} {i : Nat} (h : ∀ j, j < i → datF ds j = 0) : Pars ds i := by
 intro a h0 h1
 have := datF_par (h a.toNat (by omega))
 rw [show ((a.toNat : Nat) : Int) = a by omega] at this
 exact this
def sD (ds : List Dat) : Prop := ∀ d, d ∈ ds → d.name.size ≤ 1099511627776
theorem c_impl_datumFault_1 {ds : List Dat} {a : Int} (h0 : 0 ≤ a) (h1 : a < ds.length) (h : R (.ret (iv (par ds a))) σ) : acall TP fn_impl_datumFault_1 [iv a, .rop [roD ds] 0] σ R := by
 refine s_impl_datumFault_1_ok ?_
 unfold s_impl_datumFault_1
 have hi : a.toNat < ds.length := by omega
 simp only [lod_one, idx_roI h0 hi len_encDat, RR, RT]
 rw [dat_at hi]
 exact ret_here h
theorem c_impl_deep {ds : List Dat} {i : Nat} (hi : i < ds.length) (hl : ds.length ≤ 1000) (hP : Pars ds (i + 1)) (h : R (.ret (iv (deepW (par ds) i : Nat))) σ) : acall TP fn_impl_deep [roD ds, iv (i : Int)] σ R := by
 refine s_impl_deep_ok ?_
 unfold s_impl_deep
 refine lp_by (fun k x σ' => ∃ (a : Int) (c : Nat), x = (roD ds, iv a, iv (c : Nat), ()) ∧ σ' = σ ∧ (a + 1).toNat = k ∧ a ≤ i ∧ c + deepW (par ds) a = deepW (par ds) i) ((i : Int) + 1).toNat ⟨i, 0, rfl, rfl, rfl, by omega, by omega⟩ ?_
 rintro k x σ' ⟨a, c, rfl, rfl, hk, ha, e⟩ R' hR'
 rw [deepW] at e
 have hd := deepW_le (par ds) (i + 1) i (by omega)
 by_cases c0 : 0 ≤ a
 ·have hp := hP a c0 (by omega)
  rw [if_neg (by omega), if_pos hp.1] at e
  have hi' : a.toNat < ds.length := by omega
  have e1 : ibin .add (iv (c : Nat)) (.val (.int .i64 1)) = some (iv ((c + 1 : Nat) : Int)) := by rw [ibin_add (by omega) (by omega)]; rfl
  simp only [c0, e1, idx_roI c0 hi' len_encDat, RR, RT]
  rw [dat_at hi']
  exact hR' _ _ (par ds a + 1).toNat σ' (by omega) (.refl _) ⟨par ds a, c + 1, rfl, rfl, rfl, by omega, by omega⟩
 ·rw [if_pos (by omega)] at e
  simp only [c0, RR]
  rw [Nat.add_zero] at e
  rw [e]
  exact ret_here h
theorem bare_not (x : Dat) : (!inB 1 4 x.kind || !decide (x.num = 0) && !decide (x.kind = 1) && !decide (x.kind = 2) || !decide (x.name = { data := #[] }) && !decide (x.kind = 3)) = !bareB x := by
 unfold bareB
 generalize inB 1 4 x.kind = a
 generalize decide (x.num = 0) = b
 generalize decide (x.kind = 1) = c
 generalize decide (x.kind = 2) = d
 generalize decide (x.kind = 3) = e
 generalize decide (x.name = { data := #[] }) = f
 cases a <;> cases b <;> cases c <;> cases d <;> cases e <;> cases f <;> rfl
theorem c_impl_datumFault {ds : List Dat} {i : Nat} (hi : i < ds.length) (hl : ds.length ≤ 80) (hP : Pars ds i) (h : R (.ret (iv (datF ds i))) σ) : acall TP fn_impl_datumFault [roD ds, iv (i : Int)] σ R := by
 refine s_impl_datumFault_ok ?_
 unfold s_impl_datumFault
 refine box_frz rfl ?_
 simp only [lod_one, idx_ro hi len_encDat, RR, RT]
 refine new_encDat rfl ?_
 rw [dat_at hi]
 simp only [RR, RT]
 refine c_impl_in ?_
 simp only [RR, RT, RG, sbin_neq']
 unfold datF at h
 refine apick_cases (fun c1 => ?_) (fun c1 => ?_)
 ·rw [bare_not] at c1
  rw [if_pos (by simpa using c1)] at h
  exact ret_here h
 rw [bare_not] at c1
 have c1 : bareB (dat ds i) = true := by simpa using c1
 rw [if_neg (by rw [c1]; simp)] at h
 refine c_impl_kindFault ?_
 simp only [RR]
 by_cases c2 : kindF (dat ds i).kind (dat ds i).num (dat ds i).name = 0
 case neg =>
  rw [if_pos c2] at h
  simp only [c2, RR]
  exact ret_here h
 rw [if_neg (by simpa using c2)] at h
 simp only [c2, RR]
 by_cases c3 : i = 0
 ·have g : ((i : Int) = 0) := by omega
  rw [if_pos c3] at h
  simp only [g, RR]
  by_cases c4 : (dat ds i).parent = -1
  ·rw [if_neg (by simpa using c4)] at h
   simp only [c4, RR]; exact ret_here h
  ·rw [if_pos c4] at h
   simp only [c4, RR]; exact ret_here h
 have g : ¬ ((i : Int) = 0) := by omega
 rw [if_neg c3] at h
 have hs : ibin .sub (iv (i : Int)) (.val (.int .i64 1)) = some (iv ((i : Int) - 1)) := ibin_sub (by omega) (by omega)
 simp only [g, hs, RR]
 refine c_impl_in ?_
 simp only [RR]
 refine apick_cases (fun c4 => ?_) (fun c4 => ?_)
 ·rw [if_pos (by simpa using c4)] at h
  exact ret_here h
 have c4 : inB 0 ((i : Int) - 1) (dat ds i).parent = true := by simpa using c4
 rw [if_neg (by rw [c4]; simp)] at h
 obtain ⟨p0, p1⟩ := inB_iff.1 c4
 have hpi : (dat ds i).parent.toNat < ds.length := by omega
 have hPar : Pars ds (i + 1) := by
  intro a h0 h1
  by_cases e : a < (i : Int)
  ·exact hP a h0 e
  ·obtain rfl : a = (i : Int) := by omega
   have : par ds (i : Int) = (dat ds i).parent := by unfold par; rw [show ((i : Int)).toNat = i by omega]
   rw [this]; omega
 have tail : ¬ ((dat ds (dat ds i).parent.toNat).kind ≠ 4 ∨ upW (par ds) ((i : Int) - 1) (dat ds i).parent = false) → acall TP fn_impl_deep [roD ds, iv (i : Int)] σ (onr (fun v83 σ => og (ibin .gtr v83 (.val (.int .i64 12))) fun v84 => apick v84 (aret (.val (.int .i64 2)) σ R) (aret (.val (.int .i64 0)) σ R)) (fun v σ => apan v σ R)) := by
  intro hc
  rw [if_neg hc] at h
  refine c_impl_deep hi (by omega) hPar ?_
  simp only [RR]
  by_cases c6 : 12 < deepW (par ds) (i : Int)
  ·have g6 : (12 : Int) < ((deepW (par ds) (i : Int) : Nat) : Int) := by omega
   rw [if_pos c6] at h
   simp only [g6, RR]; exact ret_here h
  ·have g6 : ¬ (12 : Int) < ((deepW (par ds) (i : Int) : Nat) : Int) := by omega
   rw [if_neg c6] at h
   simp only [g6, RR]; exact ret_here h
 simp only [lod_one, jn, idx_roI p0 hpi len_encDat, RR, RT]
 rw [dat_at hpi]
 refine gpick_cases (fun c5 => ?_) (fun c5 => ?_)
 ·have c5 : (dat ds (dat ds i).parent.toNat).kind ≠ 4 := by simpa using c5
  rw [if_pos (.inl c5)] at h
  exact ret_here h
 have c5 : (dat ds (dat ds i).parent.toNat).kind = 4 := by simpa using c5
 refine c_impl_isUp (p := par ds) (n := (i : Int)) (fun a R h0 h1 h => acallv_clo (c_impl_datumFault_1 h0 (by omega) h)) (fun a h0 h1 => (hP a h0 h1).1) (by omega) ?_
 simp only [RR]
 refine apick_cases (fun c6 => ?_) (fun c6 => ?_)
 ·have c6 : upW (par ds) ((i : Int) - 1) (dat ds i).parent = false := by simpa using c6
  rw [if_pos (.inr c6)] at h
  exact ret_here h
 ·have c6 : upW (par ds) ((i : Int) - 1) (dat ds i).parent = true := by simpa using c6
  exact tail (by rw [c6, c5]; simp)
theorem c_impl_DataFault {ds : List Dat} (h : R (.ret (iv (dataF ds))) σ) : acall TP fn_impl_DataFault [roD ds] σ R := by
 refine s_impl_DataFault_ok ?_
 unfold s_impl_DataFault
 unfold dataF at h
 simp only [RR, RT]
 refine c_impl_in ?_
 simp only [RR]
 refine apick_cases (fun c1 => ?_) (fun c1 => ?_)
 ·have c1 : inB 1 80 (ds.length : Int) = false := by simpa using c1
  rw [if_neg (by rw [c1]; simp)] at h
  exact ret_here h
 have c1 : inB 1 80 (ds.length : Int) = true := by simpa using c1
 rw [if_pos c1] at h
 have hl := inB_iff.1 c1
 refine lp_same ds.length (fun i => (roD ds, iv (ds.length : Int), iv (i : Int), ())) (fun i => ∀ j, j < i → datF ds j = 0) rfl (fun j hj => by omega) ?_
 intro i hi hj R' hR'
 by_cases hlt : i < ds.length
 ·have g : (i : Int) < (ds.length : Int) := by omega
  simp only [g, RR]
  refine c_impl_datumFault hlt (by omega) (pars_of hj) ?_
  simp only [RR]
  by_cases c2 : datF ds i = 0
  ·simp only [c2, ibin_up hlt (by omega), RR]
   exact hR' hlt (all_below hj c2) σ (.refl _)
  ·simp only [c2, RR]
   rw [firstF_at c2 ds.length 0 (Nat.zero_le _) (by omega) (fun j _ h2 => hj j h2)] at h
   exact ret_here h
 ·have g : ¬ (i : Int) < (ds.length : Int) := by omega
  obtain rfl : i = ds.length := by omega
  simp only [g, RR]
  rw [firstF_all _ _ (fun j _ h2 => hj j (by omega))] at h
  exact ret_here h
end Go.Proofs.YtbapalgndjiamaaGreatDoor.E
/- Data: their faults, by the reference. -/
namespace Go.Proofs.YtbapalgndjiamaaGreatDoor.E
open Go Go.RowKit
variable [L : Lam]
variable {σ : AH} {R : AEnd → AH → Prop}
theorem c_spec_l3Bare {x : Dat} (h : R (.ret (bv (bareB x))) σ) : acall TP fn_spec_l3Bare [.rop (encDat x) 0] σ R := by
 refine s_spec_l3Bare_ok ?_
 unfold s_spec_l3Bare
 simp only [RR, RT, RG]
 refine c_spec_l1In ?_
 simp only [RR, RT, RG, sbin_eql']
 refine ret_here ?_
 unfold bareB at h
 exact h
theorem c_spec_l3Line {ds : List Dat} {i : Nat} (hi : i < ds.length) (hl : ds.length ≤ 1000) (hP : Pars ds i) (h : R (.ret (bv (upW (par ds) ((i : Int) - 1) (dat ds i).parent && decide ((dat ds (dat ds i).parent.toNat).kind = 4)))) σ) : acall TP fn_spec_l3Line [roD ds, iv (i : Int)] σ R := by
 refine s_spec_l3Line_ok ?_
 unfold s_spec_l3Line
 simp only [ibin_sub (a := (i : Int)) (b := 1) (by omega) (by omega), RR]
 refine lp_by (fun k x σ' => ∃ a : Int, x = (roD ds, iv (i : Int), iv a, ()) ∧ σ' = σ ∧ (a + 1).toNat = k ∧ a < i ∧ upW (par ds) a (dat ds i).parent = upW (par ds) ((i : Int) - 1) (dat ds i).parent) ((i : Int) - 1 + 1).toNat ⟨(i : Int) - 1, rfl, rfl, rfl, by omega, rfl⟩ ?_
 rintro k x σ' ⟨a, rfl, rfl, hk, ha, e⟩ R' hR'
 rw [upW] at e
 by_cases c0 : 0 ≤ a
 ·rw [if_neg (by omega)] at e
  have ha' : a.toNat < ds.length := by omega
  simp only [c0, idx_ro hi len_encDat, idx_roI c0 ha' len_encDat, RR, RT]
  rw [dat_at hi, dat_at ha']
  by_cases c1 : a = (dat ds i).parent
  ·rw [if_pos c1] at e
   rw [← e, Bool.true_and, ← c1] at h
   simp only [c1, RR]
   rw [← c1]
   exact ret_here h
  ·rw [if_neg c1, if_pos (hP a c0 (by omega)).1] at e
   simp only [c1, RR]
   have := (hP a c0 (by omega)).1
   exact hR' _ _ (par ds a + 1).toNat σ' (by omega) (.refl _) ⟨par ds a, rfl, rfl, rfl, by omega, e⟩
 ·rw [if_pos (by omega)] at e
  rw [← e, Bool.false_and] at h
  simp only [c0, RR]
  exact ret_here h
theorem c_spec_l3Deep {ds : List Dat} {i : Nat} (hi : i < ds.length) (hl : ds.length ≤ 90) (hP : Pars ds (i + 1)) (h : R (.ret (iv (deepW (par ds) i : Nat))) σ) : acall TP fn_spec_l3Deep [roD ds, iv (i : Int)] σ R := by
 refine s_spec_l3Deep_ok ?_
 unfold s_spec_l3Deep
 refine lp_by (fun k x σ' => ∃ (a : Int) (c : Nat), x = (roD ds, iv a, iv (c : Nat), ()) ∧ σ' = σ ∧ (a + 1).toNat = k ∧ a ≤ i ∧ c + deepW (par ds) a = deepW (par ds) i) ((i : Int) + 1).toNat ⟨i, 0, rfl, rfl, rfl, by omega, by omega⟩ ?_
 rintro k x σ' ⟨a, c, rfl, rfl, hk, ha, e⟩ R' hR'
 rw [deepW] at e
 have hd := deepW_le (par ds) (i + 1) i (by omega)
 by_cases c0 : 0 ≤ a
 ·have hp := hP a c0 (by omega)
  rw [if_neg (by omega), if_pos hp.1] at e
  have hi' : a.toNat < ds.length := by omega
  have e1 : ibin .add (iv (c : Nat)) (.val (.int .i64 1)) = some (iv ((c + 1 : Nat) : Int)) := by rw [ibin_add (by omega) (by omega)]; rfl
  have g : ((c : Nat) : Int) < 100 := by omega
  simp only [c0, g, e1, idx_roI c0 hi' len_encDat, RR, RT]
  rw [dat_at hi']
  exact hR' _ _ (par ds a + 1).toNat σ' (by omega) (.refl _) ⟨par ds a, c + 1, rfl, rfl, rfl, by omega, by omega⟩
 ·rw [if_pos (by omega)] at e
  simp only [c0, RR]
  rw [Nat.add_zero] at e
  rw [e]
  exact ret_here h
def kB2 (x : Dat) : Bool := (decide (x.kind = 1) && !numB x.num) || (decide (x.kind = 2) && !inB 0 1 x.num)
def kB3 (x : Dat) : Bool := decide (x.kind = 3) && !symOk x.name
theorem kindF_2 {x : Dat} (h : kB2 x = true) : kindF x.kind x.num x.name = 3 := by
 unfold kB2 at h
 unfold kindF
 by_cases c1 : x.kind = 1
 ·rw [if_pos c1]; cases c : numB x.num
  ·rfl
  ·simp [c1, c] at h
 ·rw [if_neg c1]
  by_cases c2 : x.kind = 2
  ·rw [if_pos c2]; cases c : inB 0 1 x.num
   ·rfl
   ·simp [c2, c] at h
  ·simp [c1, c2] at h
theorem kindF_3 {x : Dat} (h : kB3 x = true) : kindF x.kind x.num x.name = 5 := by
 unfold kB3 at h
 simp only [Bool.and_eq_true, decide_eq_true_eq, Bool.not_eq_true'] at h
 unfold kindF
 rw [if_neg (by omega), if_neg (by omega), if_pos h.1, h.2]; rfl
theorem kindF_0 {x : Dat} (h : kB2 x = false) (h3 : kB3 x = false) : kindF x.kind x.num x.name = 0 := by
 unfold kB2 at h
 unfold kB3 at h3
 unfold kindF
 by_cases c1 : x.kind = 1
 ·rw [if_pos c1]; cases c : numB x.num
  ·simp [c1, c] at h
  ·rfl
 ·rw [if_neg c1]
  by_cases c2 : x.kind = 2
  ·rw [if_pos c2]; cases c : inB 0 1 x.num
   ·simp [c2, c] at h
   ·rfl
  ·rw [if_neg c2]
   by_cases c3 : x.kind = 3
   ·rw [if_pos c3]; cases c : symOk x.name
    ·simp [c3, c] at h3
    ·rfl
   ·rw [if_neg c3]
theorem c_spec_l3Fault {ds : List Dat} (hs : sD ds) (h : R (.ret (iv (dataF ds))) σ) : acall TP fn_spec_l3Fault [roD ds] σ R := by
 refine s_spec_l3Fault_ok ?_
 unfold s_spec_l3Fault
 unfold dataF at h
 simp only [RR, RT, RG]
 refine apick_cases (fun c1 => ?_) (fun c1 => ?_)
 ·have c1 : inB 1 80 (ds.length : Int) = false := by
   simp only [Bool.or_eq_true, decide_eq_true_eq] at c1
   rw [Bool.eq_false_iff]; intro hc; have := inB_iff.1 hc; omega
  rw [if_neg (by rw [c1]; simp)] at h
  exact ret_here h
 have hl : 1 ≤ ds.length ∧ ds.length ≤ 80 := by
  simp only [Bool.or_eq_false_iff, decide_eq_false_iff_not] at c1; omega
 rw [if_pos (inB_iff.2 (by omega))] at h
 refine lp_same ds.length (fun i => (roD ds, iv (i : Int), ())) (fun i => ∀ j, j < i → datF ds j = 0) rfl (fun j hj => by omega) ?_
 intro i hi hj R' hR'
 by_cases hlt : i < ds.length
 case neg =>
  have g : ¬ (i : Int) < (ds.length : Int) := by omega
  obtain rfl : i = ds.length := by omega
  simp only [g, RR, RT]
  rw [firstF_all _ _ (fun j _ h2 => hj j (by omega))] at h
  exact ret_here h
 have g : (i : Int) < (ds.length : Int) := by omega
 have bad : ∀ v : Int, datF ds i = v → v ≠ 0 → R (.ret (iv v)) σ := fun v e hv => by
  rw [firstF_at (by rw [e]; exact hv) ds.length 0 (Nat.zero_le _) (by omega) (fun j _ h2 => hj j h2), e] at h
  exact h
 have good : datF ds i = 0 → R' (roD ds, iv ((i + 1 : Nat) : Int), ()) σ := fun e => hR' hlt (all_below hj e) σ (.refl _)
 have hP := pars_of hj
 simp only [g, idx_ro hlt len_encDat, RR, RT]
 rw [dat_at hlt]
 refine c_spec_l3Bare ?_
 simp only [RR]
 refine apick_cases (fun c2 => ?_) (fun c2 => ?_)
 ·have c2 : bareB (dat ds i) = false := by simpa using c2
  exact ret_here (bad 1 (by unfold datF; rw [if_pos c2]) (by decide))
 have c2 : bareB (dat ds i) = true := by simpa using c2
 refine jn_of (fun x σ' => σ' = σ ∧ x = (roD ds, iv (i : Int), .rop (encDat (dat ds i)) 0, bv (kB2 (dat ds i)), ())) ?_ ?_
 rotate_left
 ·intro k hk
  unfold kB2 at hk
  simp only [RR, RT, RG]
  by_cases k1 : (dat ds i).kind = 1
  ·have k2 : ¬ (dat ds i).kind = 2 := by omega
   simp only [k1, RR, RT]
   refine c_spec_l1Num ?_
   simp only [k1, RR, RT, RG]
   have k3 : decide ((1 : Int) = 2) = false := rfl
   cases cn : numB (dat ds i).num
   ·simp only [RR, k3]
    exact hk _ _ ⟨rfl, by simp [k1, cn] <;> rfl⟩
   ·simp only [RR, k3]
    exact hk _ _ ⟨rfl, by simp [k1, k2, cn] <;> rfl⟩
  ·simp only [k1, RR, RT, RG]
   refine gpick_cases (fun k2 => ?_) (fun k2 => ?_)
   ·simp only [k2, RR]
    refine c_spec_l1In ?_
    simp only [RR]
    have k2 : (dat ds i).kind = 2 := by simpa using k2
    exact hk _ _ ⟨rfl, by simp [k2] <;> rfl⟩
   ·have k2 : ¬ (dat ds i).kind = 2 := by simpa using k2
    exact hk _ _ ⟨rfl, by simp [k1, k2] <;> rfl⟩
 rintro x σ' ⟨rfl, rfl⟩
 refine apick_cases (fun c3 => ?_) (fun c3 => ?_)
 ·have e := kindF_2 c3
  exact ret_here (bad 3 (by unfold datF; rw [if_neg (by rw [c2]; simp), if_pos (by rw [e]; decide), e]) (by decide))
 refine jn_of (fun x σ'' => σ'' = σ' ∧ x = (roD ds, iv (i : Int), .rop (encDat (dat ds i)) 0, bv (kB3 (dat ds i)), ())) ?_ ?_
 rotate_left
 ·intro k hk
  unfold kB3 at hk
  simp only [RR, RT, RG]
  refine gpick_cases (fun k1 => ?_) (fun k1 => ?_)
  ·simp only [k1, RR]
   refine c_spec_l2Sym (hs _ (dat_mem hlt)) ?_
   simp only [RR]
   exact hk _ _ ⟨rfl, by rw [k1, Bool.true_and]; rfl⟩
  ·exact hk _ _ ⟨rfl, by rw [k1, Bool.false_and]; rfl⟩
 rintro x σ ⟨rfl, rfl⟩
 refine apick_cases (fun c4 => ?_) (fun c4 => ?_)
 ·have e := kindF_3 c4
  exact ret_here (bad 5 (by unfold datF; rw [if_neg (by rw [c2]; simp), if_pos (by rw [e]; decide), e]) (by decide))
 have ek := kindF_0 c3 c4
 have hd : datF ds i = if i = 0 then (if (dat ds i).parent ≠ -1 then 3 else 0) else if inB 0 ((i : Int) - 1) (dat ds i).parent = false then 3
   else if (dat ds (dat ds i).parent.toNat).kind ≠ 4 ∨ upW (par ds) ((i : Int) - 1) (dat ds i).parent = false then 1 else if 12 < deepW (par ds) i then 2 else 0 := by
  unfold datF; rw [if_neg (by rw [c2]; simp), if_neg (by rw [ek]; simp)]
 have hsub : ibin .sub (iv (i : Int)) (.val (.int .i64 1)) = some (iv ((i : Int) - 1)) := ibin_sub (by omega) (by omega)
 refine jn_of (fun x σ' => σ' = σ ∧ x = (roD ds, iv (i : Int), bv ((decide (i = 0) && !decide ((dat ds i).parent = -1)) || (!decide (i = 0) && !inB 0 ((i : Int) - 1) (dat ds i).parent)), ())) ?_ ?_
 rotate_left
 ·intro k hk
  simp only [RR, RT, RG]
  by_cases i0 : i = 0
  ·have g0 : (i : Int) = 0 := by omega
   have g1 : ¬ (0 : Int) < (i : Int) := by omega
   simp only [g0, RR, RT, RG]
   cases cp : decide ((dat ds i).parent = -1)
   ·simp only [RR]
    exact hk _ _ ⟨rfl, by subst i0; simp [cp] <;> rfl⟩
   ·simp only [RR]
    have g3 : decide ((0 : Int) < 0) = false := rfl
    simp only [g3, RR]
    exact hk _ _ ⟨rfl, by subst i0; simp [cp] <;> rfl⟩
  ·have g0 : ¬ (i : Int) = 0 := by omega
   have g1 : (0 : Int) < (i : Int) := by omega
   simp only [g0, g1, hsub, RR, RT, RG]
   refine c_spec_l1In ?_
   simp only [RR]
   exact hk _ _ ⟨rfl, by simp [i0] <;> rfl⟩
 rintro x σ' ⟨rfl, rfl⟩
 refine apick_cases (fun c5 => ?_) (fun c5 => ?_)
 ·refine ret_here (bad 3 ?_ (by decide))
  rw [hd]
  by_cases i0 : i = 0
  ·rw [if_pos i0]; rw [if_pos]; simpa [i0] using c5
  ·rw [if_neg i0]; rw [if_pos]; simpa [i0] using c5
 by_cases i0 : i = 0
 ·rw [if_pos i0] at hd
  have hp : (dat ds i).parent = -1 := by simpa [i0] using c5
  rw [if_neg (by simpa using hp)] at hd
  have g1 : ¬ (0 : Int) < (i : Int) := by omega
  have hPar : Pars ds (i + 1) := pars_of (all_below hj hd)
  simp only [jn, g1, RR, RT]
  refine c_spec_l3Deep hlt (by omega) hPar ?_
  have hdeep := deepW_le (par ds) 1 (i : Int) (by omega)
  have g6 : ¬ (12 : Int) < ((deepW (par ds) (i : Int) : Nat) : Int) := by omega
  simp only [g6, ibin_up hlt (by omega), RR]
  exact good hd
 rw [if_neg i0] at hd
 have c5 : inB 0 ((i : Int) - 1) (dat ds i).parent = true := by simpa [i0] using c5
 obtain ⟨p0, p1⟩ := inB_iff.1 c5
 rw [if_neg (by rw [c5]; simp)] at hd
 have g1 : (0 : Int) < (i : Int) := by omega
 have hPar : Pars ds (i + 1) := by
  intro a h0 h1
  by_cases e : a < (i : Int)
  ·exact hP a h0 e
  ·obtain rfl : a = (i : Int) := by omega
   have : par ds (i : Int) = (dat ds i).parent := by unfold par; rw [show ((i : Int)).toNat = i by omega]
   rw [this]; omega
 simp only [jn, g1, RR, RT]
 refine c_spec_l3Line hlt (by omega) hP ?_
 simp only [RR]
 refine apick_cases (fun c6 => ?_) (fun c6 => ?_)
 ·refine ret_here (bad 1 ?_ (by decide))
  rw [hd, if_pos]
  cases cu : upW (par ds) ((i : Int) - 1) (dat ds i).parent
  ·exact .inr rfl
  ·rw [cu] at c6
   exact .inl (by simpa using c6)
 have c6 : upW (par ds) ((i : Int) - 1) (dat ds i).parent = true ∧ (dat ds (dat ds i).parent.toNat).kind = 4 := by simpa using c6
 rw [if_neg (by rw [c6.1, c6.2]; simp)] at hd
 refine c_spec_l3Deep hlt (by omega) hPar ?_
 simp only [RR]
 by_cases c7 : 12 < deepW (par ds) (i : Int)
 ·have g6 : (12 : Int) < ((deepW (par ds) (i : Int) : Nat) : Int) := by omega
  rw [if_pos c7] at hd
  simp only [g6, RR]
  exact ret_here (bad 2 hd (by decide))
 ·have g6 : ¬ (12 : Int) < ((deepW (par ds) (i : Int) : Nat) : Int) := by omega
  rw [if_neg c7] at hd
  simp only [g6, ibin_up hlt (by omega), RR]
  exact good hd
end Go.Proofs.YtbapalgndjiamaaGreatDoor.E
/- Operations and blocks: their faults. -/
namespace Go.Proofs.YtbapalgndjiamaaGreatDoor.E
open Go Go.RowKit
variable [L : Lam]
variable {σ : AH} {R : AEnd → AH → Prop}
theorem fin_cell {φ n : Nat} {zs cs : List AV} (hφ : σ φ = none) (hz : zs.length = n) (hc : cs.length = n) (h1 : ∀ x, x ∈ cs → x.one = true) (h : R (.ret (.agg cs)) σ) :
  sto n (.ptr φ 0 0 0) (.agg cs) (σ.set φ ⟨0, n, [zs]⟩) fun σ => og (lodA n (.ptr φ 0 0 0) σ) fun r => aret r σ R := by
 refine sto_own (es := [zs]) (cs := cs) (AH.set_same ..) (by simp) (by simpa using hz) rfl hc h1 ?_
 simp only [List.set_cons_zero, AH.set_set]
 have e := lodA_at (σ := σ.set φ ⟨0, n, [cs]⟩) (φ := φ) (st := 0) (i := 0) (n := n) (cs := cs) (AH.set_same ..) rfl rfl hc
 simp only [e, RR]
 exact aret_sub (sub_set (.refl _) hφ) h
theorem one2 {a b : AV} (ha : a.one = true) (hb : b.one = true) : ∀ x, x ∈ [a, b] → x.one = true := by
 intro x hx
 simp only [List.mem_cons, List.not_mem_nil, or_false] at hx
 rcases hx with rfl | rfl <;> assumption
abbrev roN (xs : List Int) : AV := .ro (xs.map fun x => [iv x])
theorem slc_roN {xs : List Int} {k : Nat} (hk : k ≤ xs.length) : slc 1 (roN xs) (some (iv (k : Nat))) none none σ = some (roN (xs.drop k)) := by
 obtain ⟨b, h1, h2⟩ := Cs.slc (Cs.ro iv σ xs) (lo := some (iv (k : Nat))) (hi := none) (l := k) (k := xs.length) (abd_nat _ _) rfl hk (Nat.le_refl _)
 have e : abd (some (iv (k : Nat))) 0 = some k := abd_nat _ _
 have e2 : abd none ((xs.map fun x => [iv x]).length) = some (xs.map fun x => [iv x]).length := rfl
 simp only [slc, e, e2]
 rw [if_pos ⟨by simpa using hk, Nat.le_refl _, Nat.le_refl _, by simp, by rw [List.all_eq_true]; intro c hc; obtain ⟨x, _, rfl⟩ := List.mem_map.1 hc; rfl⟩]
 rw [List.take_length, ← List.map_drop]
theorem c_slices_IndexFunc {f : AV} {xs : List Int} {p : Int → Bool} (hl : xs.length ≤ 1099511627776) (hf : ∀ (x : Int) (R : AEnd → AH → Prop), R (.ret (bv (p x))) σ → acallv TP f [iv x] σ R)
  (h : ∀ v : Int, decide (0 ≤ v) = xs.any p → R (.ret (iv v)) σ) : acall TP fn_slices_IndexFunc [roN xs, f] σ R := by
 refine s_slices_IndexFunc_ok ?_
 unfold s_slices_IndexFunc
 have hS := Cs.ro iv σ xs
 simp only [hS.len, RR]
 refine lp_same xs.length (fun i => (roN xs, f, iv (xs.length : Int), iv (i : Int), ())) (fun i => ∀ j (hj : j < xs.length), j < i → p xs[j] = false) rfl (fun j _ hj => by omega) ?_
 intro i hi hj R' hR'
 by_cases hlt : i < xs.length
 ·have g : (i : Int) < (xs.length : Int) := by omega
  obtain ⟨q, q1, q2, _⟩ := hS.at hlt
  simp only [g, q1, q2, RR]
  refine hf _ _ ?_
  simp only [RR]
  cases c : p xs[i]
  ·simp only [ibin_up hlt (by omega), RR]
   refine hR' hlt (fun j hj' hlt' => ?_) σ (.refl _)
   rcases Nat.lt_or_ge j i with h1 | h1
   ·exact hj j hj' h1
   ·obtain rfl : j = i := by omega
    exact c
  ·simp only [RR]
   refine ret_here (h _ ?_)
   rw [decide_eq_true (by omega), Eq.comm, List.any_eq_true]
   exact ⟨_, List.getElem_mem hlt, c⟩
 ·have g : ¬ (i : Int) < (xs.length : Int) := by omega
  simp only [g, RR]
  refine ret_here (h _ ?_)
  rw [decide_eq_false (by omega), Eq.comm, List.any_eq_false]
  intro x hx
  obtain ⟨j, hj1, rfl⟩ := List.getElem_of_mem hx
  rw [hj j hj1 (by omega)]; simp
theorem c_slices_ContainsFunc {f : AV} {xs : List Int} {p : Int → Bool} (hl : xs.length ≤ 1099511627776) (hf : ∀ (x : Int) (R : AEnd → AH → Prop), R (.ret (bv (p x))) σ → acallv TP f [iv x] σ R)
  (h : R (.ret (bv (xs.any p))) σ) : acall TP fn_slices_ContainsFunc [roN xs, f] σ R := by
 refine s_slices_ContainsFunc_ok ?_
 unfold s_slices_ContainsFunc
 refine c_slices_IndexFunc hl hf fun v hv => ?_
 simp only [RR, hv]
 exact ret_here h
def numsN (k : Int) : Nat := if k = 4 ∨ k = 5 ∨ k = 6 ∨ k = 10 ∨ k = 11 then 1 else if k = 2 ∨ k = 14 then 2 else if k = 16 then 3 else if k = 15 then 4 else 0
def namedB (k : Int) : Bool := decide (k = 3) || decide (k = 8) || decide (k = 9)
def dataB (k : Int) : Bool := decide (k = 1) || decide (k = 13)
theorem numsN_le (k : Int) : numsN k ≤ 4 := by unfold numsN; repeat' split <;> try omega
theorem nums_walk {k : Int} (h : R (.ret (iv (numsN k : Nat))) σ) :
   jn (X := Tup [3, 4]) (fun x1 σ =>
     apick x1.2.1 (aret (iv 1) σ R) (jn (X := Tup [3, 10]) (fun x2 σ => apick x2.2.1 (aret (iv 2) σ R) (og (ibin .eql x2.1 (iv 16)) fun v14 => apick v14 (aret (iv 3) σ R) (og (ibin .eql x2.1 (iv 15)) fun v16 => apick v16 (aret (iv 4) σ R) (aret (iv 0) σ R)))) fun k2 =>
         og (ibin .eql x1.1 (iv 2)) fun v11 => apick v11 (k2 (x1.1, v11, ()) σ) (og (ibin .eql x1.1 (iv 14)) fun v12 => k2 (x1.1, v12, ()) σ))) fun k1 =>
   og (ibin .eql (iv k) (iv 4)) fun v5 => apick v5 (k1 (iv k, v5, ()) σ) (og (ibin .eql (iv k) (iv 5)) fun v6 => apick v6 (k1 (iv k, v6, ()) σ) (og (ibin .eql (iv k) (iv 6)) fun v7 => apick v7 (k1 (iv k, v7, ()) σ) (
         og (ibin .eql (iv k) (iv 10)) fun v8 => apick v8 (k1 (iv k, v8, ()) σ) (og (ibin .eql (iv k) (iv 11)) fun v9 => k1 (iv k, v9, ()) σ)))) := by
 unfold numsN at h
 simp only [jn, RR]
 by_cases c1 : k = 4
 · subst c1; simp only [RR]; exact ret_here h
 by_cases c2 : k = 5
 · subst c2; simp only [RR]; exact ret_here h
 by_cases c3 : k = 6
 · subst c3; simp only [RR]; exact ret_here h
 by_cases c4 : k = 10
 · subst c4; simp only [RR]; exact ret_here h
 by_cases c5 : k = 11
 · subst c5; simp only [RR]; exact ret_here h
 rw [if_neg (by omega)] at h
 simp only [c1, c2, c3, c4, c5, RR]
 by_cases c6 : k = 2
 · subst c6; simp only [RR]; exact ret_here h
 by_cases c7 : k = 14
 · subst c7; simp only [RR]; exact ret_here h
 rw [if_neg (by omega)] at h
 simp only [c6, c7, RR]
 by_cases c8 : k = 16
 · subst c8; simp only [RR]; exact ret_here h
 rw [if_neg c8] at h
 by_cases c9 : k = 15
 · subst c9; simp only [RR]; exact ret_here h
 rw [if_neg c9] at h
 simp only [c8, c9, RR]
 exact ret_here h
theorem c_impl_opNums {k : Int} (h : R (.ret (iv (numsN k : Nat))) σ) : acall TP fn_impl_opNums [iv k] σ R := s_impl_opNums_ok (nums_walk h)
theorem c_spec_l9Nums {k : Int} (h : R (.ret (iv (numsN k : Nat))) σ) : acall TP fn_spec_l9Nums [iv k] σ R := s_spec_l9Nums_ok (nums_walk h)
theorem c_impl_opNamed {k : Int} (h : R (.ret (bv (namedB k))) σ) : acall TP fn_impl_opNamed [iv k] σ R := by
 refine s_impl_opNamed_ok ?_
 unfold s_impl_opNamed
 simp only [RR, RG]; exact ret_here h
theorem c_spec_l9Named {k : Int} (h : R (.ret (bv (namedB k))) σ) : acall TP fn_spec_l9Named [iv k] σ R := by
 refine s_spec_l9Named_ok ?_
 unfold s_spec_l9Named
 simp only [RR, RG]; exact ret_here h
theorem c_impl_opData {k : Int} (h : R (.ret (bv (dataB k))) σ) : acall TP fn_impl_opData [iv k] σ R := by
 refine s_impl_opData_ok ?_
 unfold s_impl_opData
 simp only [RR, RG]; exact ret_here h
theorem c_spec_l9Const {k : Int} (h : R (.ret (bv (dataB k))) σ) : acall TP fn_spec_l9Const [iv k] σ R := by
 refine s_spec_l9Const_ok ?_
 unfold s_spec_l9Const
 simp only [RR, RG]; exact ret_here h
def opL (o : OpD) : List Int := [o.a, o.b, o.c, o.d]
def opF1 (o : OpD) : Bool := !inB 1 16 o.kind || ((opL o).drop (numsN o.kind)).any (fun n => !decide (n = 0)) || (!decide (o.name = (⟨#[]⟩ : ByteArray)) && !namedB o.kind) || (decide ((0 : Int) < (o.data.length : Int)) && !dataB o.kind)
def opF2 (o : OpD) : Bool := (opL o).any (fun n => !inB 0 999 n) || ((decide (o.kind = 10) || decide (o.kind = 11)) && decide (3 < o.a))
def opF (o : OpD) : Int := if opF1 o then 1 else if opF2 o then 3 else if namedB o.kind then (if symOk o.name then 0 else 5) else if dataB o.kind then dataF o.data else 0
theorem c_impl_OpFault_1 {n : Int} (h : R (.ret (bv (!decide (n = 0)))) σ) : acall TP fn_impl_OpFault_1 [iv n] σ R := by
 refine s_impl_OpFault_1_ok ?_
 unfold s_impl_OpFault_1
 simp only [RR]; exact ret_here h
theorem c_impl_OpFault_2 {n : Int} (h : R (.ret (bv (!inB 0 999 n))) σ) : acall TP fn_impl_OpFault_2 [iv n] σ R := by
 refine s_impl_OpFault_2_ok (c_impl_in ?_)
 simp only [RR]; exact ret_here h
theorem c_impl_OpFault {o : OpD} (h : R (.ret (iv (opF o))) σ) : acall TP fn_impl_OpFault [.agg (encOp o)] σ R := by
 refine s_impl_OpFault_ok ?_
 unfold s_impl_OpFault
 refine box_encOp ?_
 simp only [RR, RT]
 refine bsl_frz (es := (opL o).map fun x => [iv x]) rfl (by decide) rfl (fun c hc => by obtain ⟨x, _, rfl⟩ := List.mem_map.1 hc; rfl) ?_
 unfold opF at h
 refine jn_of (fun x σ' => σ' = σ ∧ x = (.rop (encOp o) 0, roN (opL o), bv (opF1 o), ())) ?_ ?_
 rotate_left
 · intro k hk
   unfold opF1 at hk
   refine c_impl_in ?_
   cases c1 : inB 1 16 o.kind
   · simp only [RR, RT]
     exact hk _ _ ⟨rfl, by rw [c1]; simp <;> rfl⟩
   rw [c1] at hk
   simp only [RR, RT, Bool.false_or] at hk ⊢
   refine c_impl_opNums ?_
   simp only [slc_roN (xs := opL o) (k := numsN o.kind) (numsN_le _), RR]
   refine c_slices_ContainsFunc (p := fun n => !decide (n = 0)) (by simp [opL]; omega) (fun x R h => acallv_clo (c_impl_OpFault_1 h)) ?_
   generalize ((opL o).drop (numsN o.kind)).any (fun n => !decide (n = 0)) = A at hk ⊢
   have fin : (∀ B : Bool, (∀ x σ', (σ' = σ ∧ x = (.rop (encOp o) 0, roN (opL o), bv (B || (decide ((0 : Int) < (o.data.length : Int)) && !dataB o.kind)), ())) → k x σ') →
      og (gval (bv B) false false (some (AV.rop (encOp o) 6))) fun v40 =>
       og (gval (bv B) false false (lod v40 σ)) fun v41 =>
       og (gval (bv B) false false (lenS v41)) fun v42 =>
       og (gval (bv B) false false (ibin .gtr v42 (iv 0))) fun v43 =>
       og (gval (bv B) false false (some v43)) fun v44 =>
       og (gval v44 true true (fldA 0 (.rop (encOp o) 0))) fun v45 =>
       og (gval v44 true true (lod v45 σ)) fun v46 =>
       gpick v44 (
         acall TP fn_impl_opData [v46] σ (onr (fun v47 σ =>
         og (aun .not v47) fun v48 =>
         og (gval (bv B) false false (some v48)) fun v49 =>
         og (pickV (bv B) (bv true) v49) fun v50 =>
         k (.rop (encOp o) 0, roN (opL o), v50, ()) σ) (fun v σ => apan v σ R))) (
         og (gval (bv B) false false (some (bv false))) fun v49 =>
         og (pickV (bv B) (bv true) v49) fun v50 =>
         k (.rop (encOp o) 0, roN (opL o), v50, ()) σ) (
         og (gval (bv B) false false (pickV (.tup []) (.tup []) (bv false))) fun v49 =>
         og (pickV (bv B) (bv true) v49) fun v50 =>
         k (.rop (encOp o) 0, roN (opL o), v50, ()) σ)) := by
     intro B hk
     cases B
     · simp only [RR, RT, Bool.false_or] at hk ⊢
       cases c : decide ((0 : Int) < (o.data.length : Int))
       · rw [c] at hk
         simp only [RR, Bool.false_and] at hk ⊢
         exact hk _ _ ⟨rfl, rfl⟩
       · rw [c] at hk
         simp only [RR, Bool.true_and] at hk ⊢
         refine c_impl_opData ?_
         simp only [RR]
         exact hk _ _ ⟨rfl, rfl⟩
     · simp only [RR, RT, Bool.true_or] at hk ⊢
       exact hk _ _ ⟨rfl, rfl⟩
   cases A
   · simp only [RR, RT, sbin_neq', Bool.false_or] at hk ⊢
     cases c2 : decide (o.name = (⟨#[]⟩ : ByteArray))
     · rw [c2] at hk
       simp only [RR, RT, Bool.true_and] at hk ⊢
       refine c_impl_opNamed ?_
       simp only [RR]
       exact fin _ hk
     · rw [c2] at hk
       simp only [RR, RT, Bool.false_and] at hk ⊢
       have := fin _ hk
       simp only [RR, RT] at this
       exact this
   · simp only [RR, RT, sbin_neq', Bool.true_or] at hk ⊢
     exact fin true fun x σ' h => hk _ _ ⟨h.1, by rw [h.2]; simp <;> rfl⟩
 rintro _ _ ⟨rfl, rfl⟩
 refine apick_cases (fun c1 => ?_) (fun c1 => ?_)
 · rw [if_pos c1] at h
   exact ret_here h
 rw [if_neg (by rw [c1]; simp)] at h
 refine c_slices_ContainsFunc (p := fun n => !inB 0 999 n) (by simp [opL]) (fun x R h => acallv_clo (c_impl_OpFault_2 h)) ?_
 simp only [RR, RT, RG]
 refine apick_cases (fun c2 => ?_) (fun c2 => ?_)
 · rw [if_pos (show opF2 o = true from c2)] at h
   exact ret_here h
 rw [if_neg (show ¬ opF2 o = true by unfold opF2; rw [c2]; simp)] at h
 refine c_impl_opNamed ?_
 cases c3 : namedB o.kind
 · rw [c3] at h
   simp only [RR]
   refine c_impl_opData ?_
   cases c4 : dataB o.kind
   · rw [c4] at h
     simp only [RR]
     exact ret_here h
   · rw [c4] at h
     simp only [RR, RT]
     refine c_impl_DataFault ?_
     simp only [RR]
     exact ret_here h
 · rw [c3] at h
   simp only [RR, RT]
   refine c_impl_SymFault ?_
   simp only [RR]
   exact ret_here h
theorem c_spec_l9All {o : OpD} (h : R (.ret (roN (opL o))) σ) : acall TP fn_spec_l9All [.rop (encOp o) 0] σ R := by
 refine s_spec_l9All_ok ?_
 unfold s_spec_l9All
 simp only [RR, RT]
 exact ret_here h
theorem len_opL (o : OpD) : (opL o).length = 4 := rfl
theorem idx_opL {o : OpD} {j : Nat} (hj : j < 4) : idx 1 (roN (opL o)) (iv (j : Int)) σ = some (.rop [iv ((opL o)[j]'hj)] 0) := idx_ro (enc := fun x => [iv x]) (es := opL o) hj fun _ => rfl
theorem c_spec_l9Op {o : OpD} (hn : o.name.size ≤ 1099511627776) (hd : sD o.data) (h : R (.ret (iv (opF o))) σ) : acall TP fn_spec_l9Op [.rop (encOp o) 0] σ R := by
 refine s_spec_l9Op_ok ?_
 unfold s_spec_l9Op
 simp only [RR, RT]
 refine c_spec_l1In ?_
 simp only [RR]
 unfold opF at h
 refine apick_cases (fun c1 => ?_) (fun c1 => ?_)
 ·rw [if_pos (by unfold opF1; rw [c1]; simp)] at h
  exact ret_here h
 refine c_spec_l9All ?_
 simp only [RR, RT]
 refine c_spec_l9Nums ?_
 simp only [RR]
 have hk4 := numsN_le o.kind
 refine lp_by (fun k x σ' => ∃ j : Nat, x = (.rop (encOp o) 0, roN (opL o), iv (j : Int), ()) ∧ σ' = σ ∧ j + k = 4 ∧ numsN o.kind ≤ j ∧ (∀ (i : Nat) (hi : i < 4), numsN o.kind ≤ i → i < j → (opL o)[i]'hi = 0)) (4 - numsN o.kind)
  ⟨numsN o.kind, rfl, rfl, by omega, Nat.le_refl _, fun i hi h1 h2 => by omega⟩ ?_
 rintro k x σ' ⟨j, rfl, rfl, hk, hj, hz⟩ R' hR'
 by_cases c2 : (j : Int) < 4
 ·have hj4 : j < 4 := by omega
  simp only [c2, idx_opL hj4, lod_one, RR]
  by_cases c3 : (opL o)[j]'hj4 = 0
  ·simp only [c3, ibin_up (n := 4) hj4 (by omega), RR]
   exact hR' _ _ (k - 1) σ' (by omega) (.refl _) ⟨j + 1, rfl, rfl, by omega, by omega, fun i hi h1 h2 => by
    rcases Nat.lt_or_ge i j with h3 | h3
    ·exact hz i hi h1 h3
    ·obtain rfl : i = j := by omega
     exact c3⟩
  ·simp only [c3, RR]
   have : opF1 o = true := by
    have : ((opL o).drop (numsN o.kind)).any (fun n => !decide (n = 0)) = true := by
     rw [List.any_eq_true]
     refine ⟨(opL o)[j]'hj4, ?_, by simpa using c3⟩
     rw [List.mem_iff_getElem]
     refine ⟨j - numsN o.kind, by simp [len_opL]; omega, ?_⟩
     rw [List.getElem_drop]
     congr 1
     omega
    unfold opF1
    rw [this]; simp
   rw [if_pos this] at h
   exact ret_here h
 ·have hA : ((opL o).drop (numsN o.kind)).any (fun n => !decide (n = 0)) = false := by
   rw [List.any_eq_false]
   intro n hn
   obtain ⟨i, hi, rfl⟩ := List.getElem_of_mem hn
   have hi2 : i < 4 - numsN o.kind := by simpa [len_opL] using hi
   have e : ((opL o).drop (numsN o.kind))[i] = 0 := by
    rw [List.getElem_drop]
    exact hz (numsN o.kind + i) (by omega) (by omega) (by omega)
   rw [e]
   simp
  simp only [c2, RR]
  refine jn_of (fun x σ'' => σ'' = σ' ∧ x = (.rop (encOp o) 0, roN (opL o), bv (opF1 o), ())) ?_ ?_
  rotate_left
  ·intro k hk
   simp only [RR, RT]
   refine c_spec_l9Named ?_
   have e1 : opF1 o = ((!decide (o.name = (⟨#[]⟩ : ByteArray)) && !namedB o.kind) || (decide ((0 : Int) < (o.data.length : Int)) && !dataB o.kind)) := by
    unfold opF1
    rw [c1, hA]; simp
   rw [e1] at hk
   cases c3 : namedB o.kind
   ·rw [c3] at hk
    simp only [RR, RT, sbin_neq', Bool.and_true] at hk ⊢
    cases c4 : decide (o.name = (⟨#[]⟩ : ByteArray))
    ·rw [c4] at hk
     simp only [RR, RT, Bool.true_or] at hk ⊢
     exact hk _ _ ⟨rfl, rfl⟩
    ·rw [c4] at hk
     simp only [RR, RT, Bool.false_or] at hk ⊢
     refine c_spec_l9Const ?_
     simp only [RR, RT, RG]
     exact hk _ _ ⟨rfl, by rw [Bool.and_comm]; rfl⟩
   ·rw [c3] at hk
    simp only [RR, RT, Bool.and_false, Bool.false_or] at hk ⊢
    refine c_spec_l9Const ?_
    simp only [RR, RT, RG]
    exact hk _ _ ⟨rfl, by rw [Bool.and_comm]; rfl⟩
  intro x s2 hx
  rw [hx.1, hx.2]
  clear hx
  refine apick_cases (fun c3 => ?_) (fun c3 => ?_)
  ·rw [if_pos c3] at h
   exact ret_here h
  rw [if_neg (by rw [c3]; simp)] at h
  refine lp_by (fun k x σ'' => ∃ j : Nat, x = (.rop (encOp o) 0, roN (opL o), iv (j : Int), ()) ∧ σ'' = σ' ∧ j + k = 4 ∧ (∀ (i : Nat) (hi : i < 4), i < j → inB 0 999 ((opL o)[i]'hi) = true)) 4
   ⟨0, rfl, rfl, by omega, fun i hi h1 => by omega⟩ ?_
  rintro k x σ' ⟨j, rfl, rfl, hk, hz⟩ R' hR'
  by_cases c2 : (j : Int) < 4
  ·have hj4 : j < 4 := by omega
   simp only [c2, idx_opL hj4, lod_one, RR]
   refine c_spec_l1In ?_
   cases c4 : inB 0 999 ((opL o)[j]'hj4)
   ·simp only [RR]
    have : opF2 o = true := by
     have : (opL o).any (fun n => !inB 0 999 n) = true := by
      rw [List.any_eq_true]
      exact ⟨(opL o)[j]'hj4, List.getElem_mem _, by rw [c4]; rfl⟩
     unfold opF2
     rw [this]; rfl
    rw [if_pos this] at h
    exact ret_here h
   ·simp only [ibin_up (n := 4) hj4 (by omega), RR]
    exact hR' _ _ (k - 1) σ' (by omega) (.refl _) ⟨j + 1, rfl, rfl, by omega, fun i hi h1 => by
     rcases Nat.lt_or_ge i j with h3 | h3
     ·exact hz i hi h3
     ·obtain rfl : i = j := by omega
      exact c4⟩
  ·have hB : (opL o).any (fun n => !inB 0 999 n) = false := by
    rw [List.any_eq_false]
    intro n hn
    obtain ⟨i, hi, rfl⟩ := List.getElem_of_mem hn
    have hi2 : i < 4 := hi
    have e : inB 0 999 ((opL o)[i]'hi) = true := hz i hi2 (by omega)
    rw [e]
    simp
   simp only [c2, RR, RT, RG]
   refine apick_cases (fun c4 => ?_) (fun c4 => ?_)
   ·rw [if_pos (show opF2 o = true by unfold opF2; rw [c4]; simp)] at h
    exact ret_here h
   rw [if_neg (show ¬ opF2 o = true by unfold opF2; rw [c4, hB]; simp)] at h
   refine jn_of (fun x σ'' => σ'' = σ' ∧ x = (.rop (encOp o) 0, bv (namedB o.kind && !symOk o.name), ())) ?_ ?_
   rotate_left
   ·intro k hk
    refine c_spec_l9Named ?_
    cases c5 : namedB o.kind
    ·rw [c5] at hk
     simp only [RR]
     exact hk _ _ ⟨rfl, rfl⟩
    ·rw [c5] at hk
     simp only [RR, RT]
     refine c_spec_l2Sym hn ?_
     simp only [RR]
     exact hk _ _ ⟨rfl, rfl⟩
   rintro _ _ ⟨rfl, rfl⟩
   cases c5 : namedB o.kind
   ·rw [c5] at h
    simp only [Bool.false_and, RR, RT]
    refine c_spec_l9Const ?_
    cases c6 : dataB o.kind
    ·rw [c6] at h
     simp only [RR]
     exact ret_here h
    ·rw [c6] at h
     simp only [RR, RT]
     refine c_spec_l3Fault hd ?_
     simp only [RR]
     exact ret_here h
   ·rw [c5] at h
    cases c6 : symOk o.name
    ·rw [c6] at h
     simp only [RR, Bool.true_and]
     exact ret_here h
    ·rw [c6] at h
     simp only [RR, RT, Bool.true_and]
     refine c_spec_l9Const ?_
     have : dataB o.kind = false := by
      unfold namedB at c5
      unfold dataB
      rw [Bool.or_eq_true, Bool.or_eq_true, decide_eq_true_iff, decide_eq_true_iff, decide_eq_true_iff] at c5
      rw [Bool.or_eq_false_iff, decide_eq_false_iff_not, decide_eq_false_iff_not]
      omega
     simp only [this, RR]
     exact ret_here h
def blkF (b : Blk) : Int := if inB 0 3 b.args = false then 3 else if 200 < b.ops.length then 2 else firstF (fun i => opF (b.ops.getD i default)) 0 b.ops.length
def opsF (bs : List Blk) : Int := if 60 < bs.length then 2 else firstF (fun i => blkF (bs.getD i default)) 0 bs.length
def sO (o : OpD) : Prop := o.name.size ≤ 1099511627776 ∧ sD o.data
def sB (b : Blk) : Prop := ∀ o, o ∈ b.ops → sO o
def sC (bs : List Blk) : Prop := ∀ b, b ∈ bs → sB b
theorem lp_first {X : Type} {st : Nat → X} {f : Nat → Int} {n : Nat} {body : (X → AH → Prop) → X → AH → Prop}
  (hb : ∀ (j : Nat) (k : X → AH → Prop), j < n → (f j = 0 → k (st (j + 1)) σ) → (f j ≠ 0 → R (.ret (iv (f j))) σ) → body k (st j) σ) (he : ∀ k : X → AH → Prop, firstF f 0 n = 0 → body k (st n) σ)
  (h : R (.ret (iv (firstF f 0 n))) σ) : lp body (st 0) σ := by
 refine lp_same n st (fun i => ∀ j, j < i → f j = 0) rfl (fun j hj => by omega) ?_
 intro i hi hj R' hR'
 rcases Nat.lt_or_ge i n with hlt | hge
 ·refine hb i R' hlt (fun h0 => hR' hlt (fun j h1 => ?_) σ (.refl _)) (fun h0 => by rw [firstF_at h0 n 0 (Nat.zero_le _) (by omega) (fun j _ h2 => hj j h2)] at h; exact h)
  rcases Nat.lt_or_ge j i with h2 | h2
  ·exact hj j h2
  ·obtain rfl : j = i := by omega
   exact h0
 ·obtain rfl : i = n := by omega
  exact he R' (firstF_all _ _ fun j _ h2 => hj j (by omega))
theorem op_at {os : List OpD} {j : Nat} (h : j < os.length) : os[j] = os.getD j default := by simp [List.getD, h]
theorem blk_at {bs : List Blk} {j : Nat} (h : j < bs.length) : bs[j] = bs.getD j default := by simp [List.getD, h]
theorem c_impl_blockFault {b : Blk} (h : R (.ret (iv (blkF b))) σ) : acall TP fn_impl_blockFault [.agg (encBlk b)] σ R := by
 refine s_impl_blockFault_ok ?_
 unfold s_impl_blockFault
 refine box_encBlk ?_
 simp only [RR, RT]
 refine c_impl_in ?_
 unfold blkF at h
 cases c1 : inB 0 3 b.args
 ·rw [c1] at h
  simp only [RR]
  exact ret_here h
 rw [if_neg (by rw [c1]; simp)] at h
 simp only [RR, RT, len_ro]
 refine apick_cases (fun c2 => ?_) (fun c2 => ?_)
 ·rw [if_pos (by have := of_decide_eq_true c2; omega)] at h
  exact ret_here h
 have c2' : b.ops.length ≤ 200 := by have := of_decide_eq_false c2; omega
 rw [if_neg (by omega)] at h
 refine lp_first (n := b.ops.length) (st := fun i => (roO b.ops, iv (b.ops.length : Int), iv (i : Int), ())) (f := fun i => opF (b.ops.getD i default)) ?_ ?_ h
 ·intro j k hj h0 h1
  have g : (j : Int) < (b.ops.length : Int) := by omega
  simp only [g, idx_ro hj len_encOp, RR, RT]
  refine new_encOp rfl ?_
  simp only [RR, RT]
  rw [op_at hj]
  refine c_impl_OpFault ?_
  simp only [RR]
  by_cases c3 : opF (b.ops.getD j default) = 0
  ·simp only [c3, ibin_up hj (by omega), RR]
   exact h0 c3
  ·simp only [c3, RR]
   exact ret_here (h1 c3)
 ·intro k h0
  have g : ¬ (b.ops.length : Int) < (b.ops.length : Int) := by omega
  simp only [g, RR]
  rw [h0] at h
  exact ret_here h
theorem c_impl_opsFault {bs : List Blk} (h : R (.ret (iv (opsF bs))) σ) : acall TP fn_impl_opsFault [roBk bs] σ R := by
 refine s_impl_opsFault_ok ?_
 unfold s_impl_opsFault
 unfold opsF at h
 simp only [RR, RT, len_ro]
 refine apick_cases (fun c2 => ?_) (fun c2 => ?_)
 ·rw [if_pos (by have := of_decide_eq_true c2; omega)] at h
  exact ret_here h
 have c2' : bs.length ≤ 60 := by have := of_decide_eq_false c2; omega
 rw [if_neg (by omega)] at h
 refine lp_first (n := bs.length) (st := fun i => (roBk bs, iv (bs.length : Int), iv (i : Int), ())) (f := fun i => blkF (bs.getD i default)) ?_ ?_ h
 ·intro j k hj h0 h1
  have g : (j : Int) < (bs.length : Int) := by omega
  simp only [g, idx_ro hj len_encBlk, RR, RT]
  refine new_encBlk rfl ?_
  simp only [RR, RT]
  rw [blk_at hj]
  refine c_impl_blockFault ?_
  simp only [RR]
  by_cases c3 : blkF (bs.getD j default) = 0
  ·simp only [c3, ibin_up hj (by omega), RR]
   exact h0 c3
  ·simp only [c3, RR]
   exact ret_here (h1 c3)
 ·intro k h0
  have g : ¬ (bs.length : Int) < (bs.length : Int) := by omega
  simp only [g, RR]
  rw [h0] at h
  exact ret_here h
theorem c_spec_l9Block {b : Blk} (hs : sB b) (h : R (.ret (iv (blkF b))) σ) : acall TP fn_spec_l9Block [.rop (encBlk b) 0] σ R := by
 refine s_spec_l9Block_ok ?_
 unfold s_spec_l9Block
 simp only [RR, RT]
 refine c_spec_l1In ?_
 unfold blkF at h
 cases c1 : inB 0 3 b.args
 ·rw [c1] at h
  simp only [RR]
  exact ret_here h
 rw [if_neg (by rw [c1]; simp)] at h
 simp only [RR, RT, len_ro]
 refine apick_cases (fun c2 => ?_) (fun c2 => ?_)
 ·rw [if_pos (by have := of_decide_eq_true c2; omega)] at h
  exact ret_here h
 have c2' : b.ops.length ≤ 200 := by have := of_decide_eq_false c2; omega
 rw [if_neg (by omega)] at h
 refine lp_first (n := b.ops.length) (st := fun i => (AV.rop (encBlk b) 0, iv (i : Int), ())) (f := fun i => opF (b.ops.getD i default)) ?_ ?_ h
 ·intro j k hj h0 h1
  have g : (j : Int) < (b.ops.length : Int) := by omega
  simp only [RR, RT, len_ro, g, idx_ro hj len_encOp]
  rw [op_at hj]
  have hm := hs (b.ops.getD j default) (by rw [← op_at hj]; exact List.getElem_mem hj)
  refine c_spec_l9Op hm.1 hm.2 ?_
  simp only [RR]
  by_cases c3 : opF (b.ops.getD j default) = 0
  ·simp only [c3, ibin_up hj (by omega), RR]
   exact h0 c3
  ·simp only [c3, RR]
   exact ret_here (h1 c3)
 ·intro k h0
  have g : ¬ (b.ops.length : Int) < (b.ops.length : Int) := by omega
  simp only [RR, RT, len_ro, g]
  rw [h0] at h
  exact ret_here h
theorem c_spec_l9Fault {bs : List Blk} (hs : sC bs) (h : R (.ret (iv (opsF bs))) σ) : acall TP fn_spec_l9Fault [roBk bs] σ R := by
 refine s_spec_l9Fault_ok ?_
 unfold s_spec_l9Fault
 unfold opsF at h
 simp only [RR, RT, len_ro]
 refine apick_cases (fun c2 => ?_) (fun c2 => ?_)
 ·rw [if_pos (by have := of_decide_eq_true c2; omega)] at h
  exact ret_here h
 have c2' : bs.length ≤ 60 := by have := of_decide_eq_false c2; omega
 rw [if_neg (by omega)] at h
 refine lp_first (n := bs.length) (st := fun i => (roBk bs, iv (i : Int), ())) (f := fun i => blkF (bs.getD i default)) ?_ ?_ h
 ·intro j k hj h0 h1
  have g : (j : Int) < (bs.length : Int) := by omega
  simp only [RR, RT, len_ro, g, idx_ro hj len_encBlk]
  rw [blk_at hj]
  refine c_spec_l9Block (hs _ (by rw [← blk_at hj]; exact List.getElem_mem hj)) ?_
  simp only [RR]
  by_cases c3 : blkF (bs.getD j default) = 0
  ·simp only [c3, ibin_up hj (by omega), RR]
   exact h0 c3
  ·simp only [c3, RR]
   exact ret_here (h1 c3)
 ·intro k h0
  have g : ¬ (bs.length : Int) < (bs.length : Int) := by omega
  simp only [RR, RT, len_ro, g]
  rw [h0] at h
  exact ret_here h
end Go.Proofs.YtbapalgndjiamaaGreatDoor.E
/- The harness of the laws whose results are numbers. -/
namespace Go.Proofs.YtbapalgndjiamaaGreatDoor.E
open Go Go.RowKit
variable [L : Lam]
variable {σ : AH} {R : AEnd → AH → Prop}
theorem lodA_all {cs : List AV} {n : Nat} (h : cs.length = n) : lodA n (.rop cs 0) σ = some (.agg cs) := by
 have := (At.rop σ cs).lodA (n := n) (by omega)
 rw [this, List.take_of_length_le (by omega)]
theorem acells_one {v : AV} (h : v.one = true) : acells v = some [v] := by
 cases v <;> first | rfl | (cases h) | (rename_i u; cases u <;> first | rfl | cases h)
theorem fin_int {φ : Nat} {a b : Int} {z : List AV} (hφ : σ φ = none) (hz : z.length = 2) (h : R (.ret (.agg [iv a, iv b])) σ) :
  sto 2 (.ptr φ 0 0 0) (.agg [iv a, iv b]) (σ.set φ ⟨0, 2, [z]⟩) fun σ => og (lodA 2 (.ptr φ 0 0 0) σ) fun r => aret r σ R := fin_cell hφ hz rfl (one2 rfl rfl) h
theorem opsF_len {bs : List Blk} (h : opsF bs = 0) : bs.length ≤ 60 ∧ ∀ b, b ∈ bs → b.ops.length ≤ 200 := by
 unfold opsF at h
 split at h
 ·cases h
 refine ⟨by omega, fun b hb => ?_⟩
 obtain ⟨i, hi, rfl⟩ := List.getElem_of_mem hb
 have := firstF_zero _ _ h i (Nat.zero_le _) (by omega)
 rw [← blk_at hi] at this
 unfold blkF at this
 split at this
 ·cases this
 split at this
 ·cases this
 omega
end Go.Proofs.YtbapalgndjiamaaGreatDoor.E
/- Operations: what they take and put, where they lead; heights. -/
namespace Go.Proofs.YtbapalgndjiamaaGreatDoor.E
open Go Go.RowKit
variable [L : Lam]
variable {σ : AH} {R : AEnd → AH → Prop}
def takesN (o : OpD) : Int := if o.kind = 6 ∨ o.kind = 7 ∨ o.kind = 8 ∨ o.kind = 9 then 1 else if o.kind = 10 then o.a + 1 else 0
def putsN (o : OpD) : Int := if o.kind = 1 ∨ o.kind = 2 ∨ o.kind = 3 ∨ o.kind = 4 ∨ o.kind = 8 ∨ o.kind = 9 ∨ o.kind = 10 then 1 else if o.kind = 15 then 2 else 0
def goesB (k : Int) : Bool := !(decide (k = 5) || decide (k = 11) || inB 12 14 k)
def tgtN (o : OpD) : Int := if o.kind = 5 ∨ o.kind = 6 then o.a else if o.kind = 16 then o.c else -1
def highB (o : OpD) (h : Int) : Bool := if o.kind = 12 then decide (h = 1) else if o.kind = 11 then decide (h = o.a + 1) else if o.kind = 13 ∨ o.kind = 14 then decide (h = 0) else decide (takesN o ≤ h)
def endsB (o : OpD) (h : Int) : Bool := if o.kind = 12 then decide (h = 1) else if o.kind = 11 then decide (h = o.a + 1) else if o.kind = 13 ∨ o.kind = 14 then decide (h = 0) else true
def smO (o : OpD) : Prop := 0 ≤ o.a ∧ o.a ≤ 999 ∧ 0 ≤ o.b ∧ o.b ≤ 999 ∧ 0 ≤ o.c ∧ o.c ≤ 999 ∧ 0 ≤ o.d ∧ o.d ≤ 999
theorem opF_sm {o : OpD} (h : opF o = 0) : smO o := by
 unfold opF at h
 split at h
 ·cases h
 split at h
 ·cases h
 rename_i h2
 have h3 : opF2 o = false := by simpa using h2
 unfold opF2 at h3
 rw [Bool.or_eq_false_iff, List.any_eq_false] at h3
 have k : ∀ x, x ∈ opL o → inB 0 999 x = true := fun x hx => by simpa using h3.1 x hx
 have a1 := inB_iff.1 (k o.a (by simp [opL]))
 have a2 := inB_iff.1 (k o.b (by simp [opL]))
 have a3 := inB_iff.1 (k o.c (by simp [opL]))
 have a4 := inB_iff.1 (k o.d (by simp [opL]))
 exact ⟨a1.1, a1.2, a2.1, a2.2, a3.1, a3.2, a4.1, a4.2⟩
theorem c_impl_Op_takes {o : OpD} (hs : smO o) (h : R (.ret (iv (takesN o))) σ) : acall TP fn_impl_Op_takes [.agg (encOp o)] σ R := by
 refine s_impl_Op_takes_ok ?_
 unfold s_impl_Op_takes
 refine box_encOp ?_
 unfold takesN at h
 have e : ibin .add (iv o.a) (.val (.int .i64 1)) = some (iv (o.a + 1)) := by rw [ibin_add (by have := hs.1; omega) (by have := hs.2.1; omega)]
 simp only [RR, RT, jn]
 by_cases c1 : o.kind = 6
 ·rw [if_pos (by omega)] at h; simp only [c1, RR]; exact ret_here h
 by_cases c2 : o.kind = 7
 ·rw [if_pos (by omega)] at h; simp only [c2, RR]; exact ret_here h
 by_cases c3 : o.kind = 8
 ·rw [if_pos (by omega)] at h; simp only [c3, RR]; exact ret_here h
 by_cases c4 : o.kind = 9
 ·rw [if_pos (by omega)] at h; simp only [c4, RR]; exact ret_here h
 rw [if_neg (by omega)] at h
 by_cases c5 : o.kind = 10
 ·rw [if_pos c5] at h; simp only [c5, RR, RT, e]; exact ret_here h
 rw [if_neg c5] at h
 simp only [c1, c2, c3, c4, c5, RR]; exact ret_here h
theorem c_impl_Op_puts {o : OpD} (h : R (.ret (iv (putsN o))) σ) : acall TP fn_impl_Op_puts [.agg (encOp o)] σ R := by
 refine s_impl_Op_puts_ok ?_
 unfold s_impl_Op_puts
 refine box_encOp ?_
 unfold putsN at h
 simp only [RR, RT, jn]
 by_cases c1 : o.kind = 1
 ·rw [if_pos (by omega)] at h; simp only [c1, RR]; exact ret_here h
 by_cases c2 : o.kind = 2
 ·rw [if_pos (by omega)] at h; simp only [c2, RR]; exact ret_here h
 by_cases c3 : o.kind = 3
 ·rw [if_pos (by omega)] at h; simp only [c3, RR]; exact ret_here h
 by_cases c4 : o.kind = 4
 ·rw [if_pos (by omega)] at h; simp only [c4, RR]; exact ret_here h
 by_cases c5 : o.kind = 8
 ·rw [if_pos (by omega)] at h; simp only [c5, RR]; exact ret_here h
 by_cases c6 : o.kind = 9
 ·rw [if_pos (by omega)] at h; simp only [c6, RR]; exact ret_here h
 by_cases c7 : o.kind = 10
 ·rw [if_pos (by omega)] at h; simp only [c7, RR]; exact ret_here h
 rw [if_neg (by omega)] at h
 by_cases c8 : o.kind = 15
 ·rw [if_pos c8] at h; simp only [c8, RR]; exact ret_here h
 rw [if_neg c8] at h
 simp only [c1, c2, c3, c4, c5, c6, c7, c8, RR]; exact ret_here h
theorem c_impl_Op_goesOn {o : OpD} (h : R (.ret (bv (goesB o.kind))) σ) : acall TP fn_impl_Op_goesOn [.agg (encOp o)] σ R := by
 refine s_impl_Op_goesOn_ok ?_
 unfold s_impl_Op_goesOn
 refine box_encOp ?_
 simp only [RR, RT, jn]
 by_cases c1 : o.kind = 5
 ·rw [c1] at h; simp only [c1, RR]; exact ret_here h
 by_cases c2 : o.kind = 11
 ·rw [c2] at h; simp only [c2, RR]; exact ret_here h
 by_cases c3 : o.kind = 12
 ·rw [c3] at h; simp only [c3, RR]; exact ret_here h
 by_cases c4 : o.kind = 13
 ·rw [c4] at h; simp only [c4, RR]; exact ret_here h
 by_cases c5 : o.kind = 14
 ·rw [c5] at h; simp only [c5, RR]; exact ret_here h
 have : goesB o.kind = true := by
  unfold goesB
  rw [decide_eq_false c1, decide_eq_false c2, show inB 12 14 o.kind = false from by rw [Bool.eq_false_iff]; intro h; have := inB_iff.1 h; omega]
  rfl
 rw [this] at h
 simp only [c1, c2, c3, c4, c5, RR]; exact ret_here h
theorem c_impl_Op_ends {o : OpD} {n : Int} (hs : smO o) (h : R (.ret (bv (endsB o n))) σ) : acall TP fn_impl_Op_ends [.agg (encOp o), iv n] σ R := by
 refine s_impl_Op_ends_ok ?_
 unfold s_impl_Op_ends
 refine box_encOp ?_
 unfold endsB at h
 have e : ibin .add (iv o.a) (.val (.int .i64 1)) = some (iv (o.a + 1)) := by rw [ibin_add (by have := hs.1; omega) (by have := hs.2.1; omega)]
 simp only [RR, RT, jn]
 by_cases c1 : o.kind = 12
 ·rw [if_pos c1] at h; simp only [c1, RR]; exact ret_here h
 rw [if_neg c1] at h
 by_cases c2 : o.kind = 11
 ·rw [if_pos c2] at h; simp only [c2, RR, RT, e]; exact ret_here h
 rw [if_neg c2] at h
 by_cases c3 : o.kind = 13
 ·rw [if_pos (by omega)] at h; simp only [c3, RR]; exact ret_here h
 by_cases c4 : o.kind = 14
 ·rw [if_pos (by omega)] at h; simp only [c4, RR]; exact ret_here h
 rw [if_neg (by omega)] at h
 simp only [c1, c2, c3, c4, RR]; exact ret_here h
def tgtP (o : OpD) : AV := if o.kind = 5 ∨ o.kind = 6 then .rop (encOp o) 1 else if o.kind = 16 then .rop (encOp o) 3 else .val (.pointer none)
theorem c_impl_Op_target {o : OpD} (h : R (.ret (tgtP o)) σ) : acall TP fn_impl_Op_target [.rop (encOp o) 0] σ R := by
 refine s_impl_Op_target_ok ?_
 unfold s_impl_Op_target
 unfold tgtP at h
 simp only [RR, RT, jn]
 by_cases c1 : o.kind = 5
 ·rw [if_pos (by omega)] at h; simp only [c1, RR]; exact ret_here h
 by_cases c2 : o.kind = 6
 ·rw [if_pos (by omega)] at h; simp only [c2, RR]; exact ret_here h
 rw [if_neg (by omega)] at h
 by_cases c3 : o.kind = 16
 ·rw [if_pos c3] at h; simp only [c3, RR]; exact ret_here h
 rw [if_neg c3] at h
 simp only [c1, c2, c3, RR]; exact ret_here h
def isPt (T : Tab) (t : TypeId) : Bool := match T t with
 | some ti => match ti.under with
  | .pointer _ => true
  | _ => false
 | none => false
theorem neq_rop {T : Tab} {t : TypeId} {cs : List AV} {off : Nat} {k : AV → Prop} (hu : isPt T t = true) (h : k (bv true)) : abin T .neq t (.rop cs off) (.val (.pointer none)) k := by
 unfold isPt at hu
 split at hu
 case h_2 => cases hu
 rename_i ti ht
 split at hu
 case h_2 => cases hu
 rename_i e he
 unfold abin
 simp only
 unfold aeql
 simp only [ht, he]
 exact h
theorem neq_nul {T : Tab} {t : TypeId} {k : AV → Prop} (hu : isPt T t = true) (h : k (bv false)) : abin T .neq t (.val (.pointer none)) (.val (.pointer none)) k := by
 unfold isPt at hu
 split at hu
 case h_2 => cases hu
 rename_i ti ht
 split at hu
 case h_2 => cases hu
 rename_i e he
 unfold abin
 simp only
 unfold aeql
 simp only [ht, he]
 exact h
theorem tgt_cases {T : Tab} {t : TypeId} {o : OpD} {X Y : Prop} (hs : smO o) (hu : isPt T t = true) (h1 : 0 ≤ tgtN o → ∀ p, anil (tgtP o) = some p → (∀ τ, lod p τ = some (iv (tgtN o))) → X) (h2 : tgtN o = -1 → Y) :
  abin T .neq t (tgtP o) (.val (.pointer none)) fun v => apick v X Y := by
 unfold tgtP tgtN at *
 by_cases c1 : o.kind = 5 ∨ o.kind = 6
 ·simp only [if_pos c1] at h1 ⊢
  refine neq_rop hu ?_
  simp only [RR]
  exact h1 hs.1 _ rfl fun _ => rfl
 ·simp only [if_neg c1] at h1 h2 ⊢
  by_cases c2 : o.kind = 16
  ·simp only [if_pos c2] at h1 ⊢
   refine neq_rop hu ?_
   simp only [RR]
   exact h1 hs.2.2.2.2.1 _ rfl fun _ => rfl
  ·simp only [if_neg c2] at h2 ⊢
   refine neq_nul hu ?_
   simp only [RR]
   exact h2 trivial
theorem c_spec_l10Takes {o : OpD} (hs : smO o) (h : R (.ret (.tup [iv (takesN o), iv (putsN o)])) σ) : acall TP fn_spec_l10Takes [.rop (encOp o) 0] σ R := by
 refine s_spec_l10Takes_ok ?_
 unfold s_spec_l10Takes
 unfold takesN putsN at h
 have e : ibin .add (iv o.a) (.val (.int .i64 1)) = some (iv (o.a + 1)) := by rw [ibin_add (by have := hs.1; omega) (by have := hs.2.1; omega)]
 simp only [RR, RT, jn]
 by_cases c1 : o.kind = 1
 ·simp only [c1, RR]; simp [c1] at h; exact ret_here h
 by_cases c2 : o.kind = 2
 ·simp only [c2, RR]; simp [c2] at h; exact ret_here h
 by_cases c3 : o.kind = 3
 ·simp only [c3, RR]; simp [c3] at h; exact ret_here h
 by_cases c4 : o.kind = 4
 ·simp only [c4, RR]; simp [c4] at h; exact ret_here h
 by_cases c5 : o.kind = 6
 ·simp only [c5, RR]; simp [c5] at h; exact ret_here h
 by_cases c6 : o.kind = 7
 ·simp only [c6, RR]; simp [c6] at h; exact ret_here h
 by_cases c7 : o.kind = 8
 ·simp only [c7, RR]; simp [c7] at h; exact ret_here h
 by_cases c8 : o.kind = 9
 ·simp only [c8, RR]; simp [c8] at h; exact ret_here h
 by_cases c9 : o.kind = 10
 ·simp only [c9, RR, RT, e]; simp [c9] at h; exact ret_here h
 by_cases c10 : o.kind = 15
 ·simp only [c10, RR]; simp [c10] at h; exact ret_here h
 simp only [c1, c2, c3, c4, c5, c6, c7, c8, c9, c10, RR]; simp [c1, c2, c3, c4, c5, c6, c7, c8, c9, c10] at h; exact ret_here h
theorem c_spec_l10Ends {k : Int} (h : R (.ret (bv (!goesB k))) σ) : acall TP fn_spec_l10Ends [iv k] σ R := by
 refine s_spec_l10Ends_ok ?_
 unfold s_spec_l10Ends
 unfold goesB at h
 simp only [RR, jn, Bool.not_not] at h ⊢
 by_cases c1 : k = 5
 ·simp only [c1, RR]; subst c1; exact ret_here h
 by_cases c2 : k = 11
 ·simp only [c1, c2, RR]; subst c2; exact ret_here h
 simp only [c1, c2, RR]
 refine c_spec_l1In ?_
 simp only [RR]
 rw [decide_eq_false c1, decide_eq_false c2] at h
 exact ret_here h
theorem c_spec_l10High {o : OpD} {n : Int} (hs : smO o) (h : R (.ret (bv (highB o n))) σ) : acall TP fn_spec_l10High [.rop (encOp o) 0, iv n] σ R := by
 refine s_spec_l10High_ok ?_
 unfold s_spec_l10High
 unfold highB at h
 have e : ibin .add (iv o.a) (.val (.int .i64 1)) = some (iv (o.a + 1)) := by rw [ibin_add (by have := hs.1; omega) (by have := hs.2.1; omega)]
 simp only [RR, RT, jn]
 by_cases c1 : o.kind = 12
 ·rw [if_pos c1] at h; simp only [c1, RR]; exact ret_here h
 rw [if_neg c1] at h
 by_cases c2 : o.kind = 11
 ·rw [if_pos c2] at h; simp only [c2, RR, RT, e]; exact ret_here h
 rw [if_neg c2] at h
 by_cases c3 : o.kind = 13
 ·rw [if_pos (by omega)] at h; simp only [c3, RR]; exact ret_here h
 by_cases c4 : o.kind = 14
 ·rw [if_pos (by omega)] at h; simp only [c4, RR]; exact ret_here h
 rw [if_neg (by omega)] at h
 simp only [c1, c2, c3, c4, RR]
 refine c_spec_l10Takes hs ?_
 have e0 : aext (.tup [iv (takesN o), iv (putsN o)]) 0 = some (iv (takesN o)) := rfl
 have e1 : aext (.tup [iv (takesN o), iv (putsN o)]) 1 = some (iv (putsN o)) := rfl
 simp only [e0, e1, RR]
 exact ret_here h
theorem c_spec_l9Target {o : OpD} (h : R (.ret (iv (tgtN o))) σ) : acall TP fn_spec_l9Target [.rop (encOp o) 0] σ R := by
 refine s_spec_l9Target_ok ?_
 unfold s_spec_l9Target
 unfold tgtN at h
 simp only [RR, RT, jn]
 by_cases c1 : o.kind = 5
 ·rw [if_pos (by omega)] at h; simp only [c1, RR]; exact ret_here h
 by_cases c2 : o.kind = 6
 ·rw [if_pos (by omega)] at h; simp only [c2, RR]; exact ret_here h
 rw [if_neg (by omega)] at h
 by_cases c3 : o.kind = 16
 ·rw [if_pos c3] at h; simp only [c3, RR, RT]; exact ret_here h
 rw [if_neg c3] at h
 simp only [c1, c2, c3, RR]; exact ret_here h
end Go.Proofs.YtbapalgndjiamaaGreatDoor.E
/- Heights of a block: the plain law. -/
namespace Go.Proofs.YtbapalgndjiamaaGreatDoor.E
open Go Go.RowKit
variable [L : Lam]
def opA (os : List OpD) (i : Nat) : OpD := os.getD i default
def leads (o : OpD) (i : Nat) : List Int := (if goesB o.kind then [(i : Int) + 1] else []) ++ (if 0 ≤ tgtN o then [tgtN o] else [])
def nextH (o : OpD) (h : Int) : Int := h - takesN o + putsN o
inductive Reach (os : List OpD) : Nat → Int → Prop
 | start : Reach os 0 0
 | step {i : Nat} {h t : Int} (hr : Reach os i h) (hi : i < os.length) (hh : highB (opA os i) h = true) (ht : t ∈ leads (opA os i) i) : Reach os t.toNat (nextH (opA os i) h)
def smB (os : List OpD) : Prop := ∀ o, o ∈ os → smO o
theorem lead_high {o : OpD} {i : Nat} {t : Int} (ht : t ∈ leads o i) : goesB o.kind = true ∨ 0 ≤ tgtN o := by
 unfold leads at ht
 rw [List.mem_append] at ht
 rcases ht with h | h
 ·split at h
  ·rename_i c; exact .inl c
  ·cases h
 ·split at h
  ·rename_i c; exact .inr c
  ·cases h
theorem lead_nn {o : OpD} {i : Nat} {t : Int} (ht : t ∈ leads o i) : 0 ≤ t := by
 unfold leads at ht
 rw [List.mem_append] at ht
 rcases ht with h | h
 ·split at h
  ·rw [List.mem_singleton] at h; omega
  ·cases h
 ·split at h
  ·rw [List.mem_singleton] at h; omega
  ·cases h
theorem goesB_iff {k : Int} : goesB k = true ↔ k ≠ 5 ∧ k ≠ 11 ∧ (k < 12 ∨ 14 < k) := by
 unfold goesB
 rw [Bool.not_eq_true', Bool.or_eq_false_iff, Bool.or_eq_false_iff, decide_eq_false_iff_not, decide_eq_false_iff_not, Bool.eq_false_iff, ne_eq, inB_iff]
 omega
theorem takes_of_lead {o : OpD} {i : Nat} {t h : Int} (ht : t ∈ leads o i) (hh : highB o h = true) : takesN o ≤ h := by
 have h1 := lead_high ht
 have h2 : ¬ (o.kind = 11 ∨ o.kind = 12 ∨ o.kind = 13 ∨ o.kind = 14) := by
  rcases h1 with h1 | h1
  ·have := goesB_iff.1 h1; omega
  ·intro c
   unfold tgtN at h1
   rw [if_neg (by omega), if_neg (by omega)] at h1
   omega
 unfold highB at hh
 rw [if_neg (by omega), if_neg (by omega), if_neg (by omega)] at hh
 exact of_decide_eq_true hh
theorem puts_le (o : OpD) : 0 ≤ putsN o ∧ putsN o ≤ 2 := by unfold putsN; repeat' split <;> try omega
theorem takes_le {o : OpD} (hs : smO o) : 0 ≤ takesN o ∧ takesN o ≤ 1000 := by
 have := hs.1; have := hs.2.1
 unfold takesN; repeat' split <;> try omega
theorem Reach.nn {os : List OpD} {i : Nat} {v : Int} (h : Reach os i v) : 0 ≤ v := by
 induction h with
 | start => exact Int.le_refl 0
 | step hr hi hh ht ih =>
  rename_i j u t
  have h1 := takes_of_lead ht hh
  have h2 := puts_le (opA os j)
  unfold nextH
  omega
def atH (out : List Int) (i : Nat) : Int := out.getD i (-1)
structure HOk (os : List OpD) (out : List Int) : Prop where
 len : out.length = os.length
 pos : 0 < os.length
 tgt : ∀ o, o ∈ os → tgtN o < os.length
 sound : ∀ i v, Reach os i v → i < os.length ∧ atH out i = v ∧ highB (opA os i) v = true
 own : ∀ i, i < os.length → atH out i = -1 ∨ (0 ≤ atH out i ∧ Reach os i (atH out i))
 bnd : ∀ i, i < os.length → atH out i ≤ 1000000
def HBad (os : List OpD) : Prop := os.length = 0 ∨ (∃ o, o ∈ os ∧ (os.length : Int) ≤ tgtN o) ∨ ∃ i v, Reach os i v ∧ (os.length ≤ i ∨ highB (opA os i) v = false ∨ ∃ v', v' ≠ v ∧ Reach os i v')
theorem HOk.not_bad {os : List OpD} {out : List Int} (h : HOk os out) (k : HBad os) : False := by
 rcases k with k | ⟨o, ho, k⟩ | ⟨i, v, hr, k⟩
 ·have := h.pos; omega
 ·have := h.tgt o ho; omega
 ·obtain ⟨h1, h2, h3⟩ := h.sound i v hr
  rcases k with k | k | ⟨v', k1, k2⟩
  ·omega
  ·rw [h3] at k; cases k
  ·have := (h.sound i v' k2).2.1
   exact k1 (this.symm.trans h2)
theorem HOk.unique {os : List OpD} {a b : List Int} (h : HOk os a) (k : HOk os b) : a = b := by
 refine List.ext_getElem (h.len.trans k.len.symm) fun i h1 h2 => ?_
 have hi : i < os.length := by rw [← h.len]; exact h1
 have ea : a[i] = atH a i := by simp [atH, List.getD, h1]
 have eb : b[i] = atH b i := by simp [atH, List.getD, h2]
 rw [ea, eb]
 rcases h.own i hi with c | ⟨c1, c2⟩
 ·rcases k.own i hi with d | ⟨d1, d2⟩
  ·rw [c, d]
  ·have := (h.sound i _ d2).2.1; omega
 ·exact ((k.sound i _ c2).2.1).symm
open Classical in
noncomputable def hts (os : List OpD) : Option (List Int) := if h : ∃ out, HOk os out then some h.choose else none
theorem hts_ok {os : List OpD} {out : List Int} (h : HOk os out) : hts os = some out := by
 unfold hts
 rw [dif_pos ⟨out, h⟩]
 congr 1
 exact (Exists.choose_spec (⟨out, h⟩ : ∃ out, HOk os out)).unique h
theorem hts_bad {os : List OpD} (h : HBad os) : hts os = none := by
 unfold hts
 rw [dif_neg (fun ⟨out, k⟩ => k.not_bad h)]
def Done (os : List OpD) (out : List Int) (i : Nat) : Prop := highB (opA os i) (atH out i) = true ∧ ∀ t, t ∈ leads (opA os i) i → t < os.length ∧ atH out t.toNat = nextH (opA os i) (atH out i)
structure HInv (os : List OpD) (out : List Int) (P : Nat → Prop) (m : Int) : Prop where
 len : out.length = os.length
 pos : 0 < os.length
 own : ∀ i, i < os.length → atH out i = -1 ∨ (0 ≤ atH out i ∧ atH out i ≤ m ∧ Reach os i (atH out i))
 first : atH out 0 = 0
 done : ∀ i, i < os.length → 0 ≤ atH out i → P i ∨ Done os out i
theorem HInv.fin {os : List OpD} {out : List Int} {m : Int} (hm : m ≤ 1000000) (h : HInv os out (fun _ => False) m) (ht : ∀ o, o ∈ os → tgtN o < os.length) : HOk os out := by
 have key : ∀ i v, Reach os i v → i < os.length ∧ atH out i = v := by
  intro i v hr
  induction hr with
  | start => exact ⟨h.pos, h.first⟩
  | step hr hi hh ht ih =>
   rename_i i v t
   have hv := hr.nn
   rcases h.done i ih.1 (by rw [ih.2]; exact hv) with c | c
   ·exact c.elim
   ·obtain ⟨c1, c2⟩ := c.2 t ht
    have := lead_nn ht
    exact ⟨by omega, by rw [c2, ih.2]⟩
 refine ⟨h.len, h.pos, ht, fun i v hr => ?_, fun i hi => ?_, fun i hi => ?_⟩
 ·obtain ⟨k1, k2⟩ := key i v hr
  refine ⟨k1, k2, ?_⟩
  rcases h.done i k1 (by rw [k2]; exact hr.nn) with c | c
  ·exact c.elim
  ·rw [← k2]; exact c.1
 ·rcases h.own i hi with c | ⟨c1, c2, c3⟩
  ·exact .inl c
  ·exact .inr ⟨c1, c3⟩
 ·rcases h.own i hi with c | ⟨c1, c2, c3⟩ <;> omega
theorem atH_set {out : List Int} {i j : Nat} {v : Int} (hi : i < out.length) : atH (out.set i v) j = if i = j then v else atH out j := by
 unfold atH
 simp only [List.getD]
 rw [List.getElem?_set]
 split
 ·rename_i c; subst c; simp [hi]
 ·rfl
theorem Done.set {os : List OpD} {out : List Int} {i t : Nat} {v : Int} (h : Done os out i) (hi : 0 ≤ atH out i) (ht : atH out t < 0) (hl : t < out.length) : Done os (out.set t v) i := by
 have e : atH (out.set t v) i = atH out i := by rw [atH_set hl, if_neg (by rintro rfl; omega)]
 refine ⟨by rw [e]; exact h.1, fun s hs => ?_⟩
 obtain ⟨h1, h2⟩ := h.2 s hs
 have h3 := takes_of_lead hs h.1
 have h4 := puts_le (opA os i)
 have h5 : 0 ≤ nextH (opA os i) (atH out i) := by unfold nextH; omega
 refine ⟨h1, ?_⟩
 rw [e, atH_set hl, if_neg (by rintro rfl; omega)]
 exact h2
theorem HInv.set {os : List OpD} {out : List Int} {P P' : Nat → Prop} {m m' : Int} {t i : Nat} {s : Int} (h : HInv os out P m) (hi : i < os.length) (h0 : 0 ≤ atH out i) (hh : highB (opA os i) (atH out i) = true) (hs : s ∈ leads (opA os i) i) (hst : s.toNat = t)
  (ht : t < os.length) (hn : atH out t < 0) (hP : ∀ j, P j → P' j) (ht' : P' t) (hm : m ≤ m') (hm' : nextH (opA os i) (atH out i) ≤ m') : HInv os (out.set t (nextH (opA os i) (atH out i))) P' m' := by
 have hl : t < out.length := by rw [h.len]; exact ht
 have hr : Reach os i (atH out i) := by
  rcases h.own i hi with c | ⟨_, _, c⟩
  ·omega
  ·exact c
 have hr2 : Reach os t (nextH (opA os i) (atH out i)) := hst ▸ Reach.step hr hi hh hs
 refine ⟨by simpa using h.len, h.pos, fun j hj => ?_, ?_, fun j hj hj0 => ?_⟩
 ·rw [atH_set hl]
  split
  ·rename_i c; subst c
   exact .inr ⟨hr2.nn, hm', hr2⟩
  ·rcases h.own j hj with c | ⟨c1, c2, c3⟩
   ·exact .inl c
   ·exact .inr ⟨c1, by omega, c3⟩
 ·have h00 := h.first
  rw [atH_set hl, if_neg (by rintro rfl; omega)]
  exact h00
 ·rw [atH_set hl] at hj0
  split at hj0
  ·rename_i c; subst c; exact .inl ht'
  ·rcases h.done j hj hj0 with c | c
   ·exact .inl (hP j c)
   ·exact .inr (c.set hj0 hn hl)
theorem HInv.weak {os : List OpD} {out : List Int} {P P' : Nat → Prop} {m m' : Int} (h : HInv os out P m) (hm : m ≤ m') (hP : ∀ j, j < os.length → 0 ≤ atH out j → P j → P' j ∨ Done os out j) : HInv os out P' m' :=
 ⟨h.len, h.pos, fun i hi => by
  rcases h.own i hi with c | ⟨c1, c2, c3⟩
  ·exact .inl c
  ·exact .inr ⟨c1, by omega, c3⟩, h.first, fun i hi h0 => by
  rcases h.done i hi h0 with c | c
  ·exact hP i hi h0 c
  ·exact .inr c⟩
theorem HInv.reach {os : List OpD} {out : List Int} {P : Nat → Prop} {m : Int} (h : HInv os out P m) {i : Nat} (hi : i < os.length) (h0 : 0 ≤ atH out i) : Reach os i (atH out i) := by
 rcases h.own i hi with c | ⟨_, _, c⟩
 ·omega
 ·exact c
theorem HInv.bad_high {os : List OpD} {out : List Int} {P : Nat → Prop} {m : Int} (h : HInv os out P m) {i : Nat} (hi : i < os.length) (h0 : 0 ≤ atH out i) (hh : highB (opA os i) (atH out i) = false) : HBad os :=
 .inr (.inr ⟨i, _, h.reach hi h0, .inr (.inl hh)⟩)
theorem HInv.bad_lead {os : List OpD} {out : List Int} {P : Nat → Prop} {m : Int} (h : HInv os out P m) {i : Nat} {t : Int} (hi : i < os.length) (h0 : 0 ≤ atH out i) (hh : highB (opA os i) (atH out i) = true) (ht : t ∈ leads (opA os i) i)
  (hb : (os.length : Int) ≤ t ∨ (0 ≤ atH out t.toNat ∧ atH out t.toNat ≠ nextH (opA os i) (atH out i))) : HBad os := by
 have hr := Reach.step (h.reach hi h0) hi hh ht
 have h1 := lead_nn ht
 by_cases c : (os.length : Int) ≤ t
 ·exact .inr (.inr ⟨t.toNat, _, hr, .inl (by omega)⟩)
 ·rcases hb with hb | ⟨hb1, hb2⟩
  ·exact absurd hb c
  ·exact .inr (.inr ⟨t.toNat, _, hr, .inr (.inr ⟨_, hb2, h.reach (by omega) hb1⟩)⟩)
theorem HInv.init {os : List OpD} (hp : 0 < os.length) {P : Nat → Prop} (h0 : P 0) : HInv os (0 :: List.replicate (os.length - 1) (-1)) P 0 := by
 have e : ∀ i, i < os.length → atH (0 :: List.replicate (os.length - 1) (-1)) i = if i = 0 then 0 else -1 := by
  intro i hi
  cases i with
  | zero => rfl
  | succ i =>
   have : i < os.length - 1 := by omega
   simp [atH, List.getD, List.getElem?_replicate, this]
 refine ⟨by simp; omega, hp, fun i hi => ?_, rfl, fun i hi hi0 => ?_⟩
 ·rw [e i hi]
  split
  ·rename_i c; subst c; exact .inr ⟨by omega, by omega, .start⟩
  ·exact .inl rfl
 ·rw [e i hi] at hi0
  split at hi0
  ·rename_i c; subst c; exact .inl h0
  ·omega
theorem high_iff {o : OpD} {h : Int} (h0 : 0 ≤ h) : (decide (h < takesN o) || !endsB o h) = !highB o h := by
 unfold highB endsB
 by_cases c1 : o.kind = 12
 ·rw [if_pos c1, if_pos c1]
  have : takesN o = 0 := by unfold takesN; rw [if_neg (by omega), if_neg (by omega)]
  rw [this, decide_eq_false (by omega)]; rfl
 rw [if_neg c1, if_neg c1]
 by_cases c2 : o.kind = 11
 ·rw [if_pos c2, if_pos c2]
  have : takesN o = 0 := by unfold takesN; rw [if_neg (by omega), if_neg (by omega)]
  rw [this, decide_eq_false (by omega)]; rfl
 rw [if_neg c2, if_neg c2]
 by_cases c3 : o.kind = 13 ∨ o.kind = 14
 ·rw [if_pos c3, if_pos c3]
  have : takesN o = 0 := by unfold takesN; rw [if_neg (by omega), if_neg (by omega)]
  rw [this, decide_eq_false (by omega)]; rfl
 rw [if_neg c3, if_neg c3]
 by_cases c : h < takesN o
 ·rw [decide_eq_true c, decide_eq_false (by omega)]; rfl
 ·rw [decide_eq_false c, decide_eq_true (by omega)]; rfl
end Go.Proofs.YtbapalgndjiamaaGreatDoor.E
/- From the library's contracts on sorted slices to calls in abstract values: what a row of numbers becomes. -/
namespace Go.Proofs.YtbapalgndjiamaaGreatDoor.E
open Go Go.RowKit
variable [L : Lam]
def putL : List (List AV) → Nat → List Int → List (List AV)
 | es, _, [] => es
 | es, i, y :: ys => putL (es.set i [iv y]) (i + 1) ys
theorem Stp.ints {κ : Kap} {φ st : Nat} {r : Reg} : ∀ (ys : List Int) (i : Nat) (es : List (List AV)) (σ : AH) (w : World), Rel κ σ w → σ φ = some ⟨st, 1, es⟩ → κ.ρ φ st = some r → r.sz = 1 → r.lo ≤ i → i + ys.length ≤ es.length → (∀ c, c ∈ es → c.length = 1) →
  Stp κ σ w κ (σ.set φ ⟨st, 1, putL es i ys⟩) (w.setCells r.b (r.base + (i - r.lo)) (ys.map (Value.int .i64))) := by
 intro ys
 induction ys with
 | nil =>
  intro i es σ w hr hF _ _ _ _ _
  have : σ.set φ ⟨st, 1, putL es i []⟩ = σ := AH.set_self hF
  rw [this]
  exact .refl hr
 | cons y ys ih =>
  intro i es σ w hr hF hρ hsz hlo hl hz
  have hi : i < es.length := by simp at hl; omega
  have key := (Stp.cell (P := default) hr hF hρ hlo (j := 0) hi (by show 0 < 1; omega) (VR.val (Value.int .i64 y)) rfl).2
  have e1 : r.base + (i - r.lo) * r.sz + 0 = r.base + (i - r.lo) := by rw [hsz]; omega
  rw [e1] at key
  have e2 : Fam.cellSet ⟨st, 1, es⟩ i 0 (.val (.int .i64 y)) = ⟨st, 1, es.set i [iv y]⟩ := by
   unfold Fam.cellSet
   have h1 : (es.getD i []).length = 1 := by
    have e : es.getD i [] = es[i] := by simp [List.getD, hi]
    rw [e]; exact hz _ (List.getElem_mem hi)
   simp only
   obtain ⟨x, hx⟩ : ∃ x, es.getD i [] = [x] := List.length_eq_one_iff.1 h1
   rw [hx]; rfl
  rw [e2] at key
  have h2 := ih (i + 1) (es.set i [iv y]) _ _ key.rel (AH.set_same ..) hρ hsz (by omega) (by simp at hl ⊢; omega) (fun c hc => by
   rcases List.mem_or_eq_of_mem_set hc with h | rfl
   ·exact hz c h
   ·rfl)
  rw [AH.set_set] at h2
  have e3 : r.base + (i + 1 - r.lo) = r.base + (i - r.lo) + 1 := by omega
  rw [e3] at h2
  exact key.trans h2
theorem putL_all : ∀ (ys : List Int) (pre es : List (List AV)), ys.length ≤ es.length → putL (pre ++ es) pre.length ys = pre ++ (ys.map fun x => [iv x]) ++ es.drop ys.length := by
 intro ys
 induction ys with
 | nil => intro pre es _; simp [putL]
 | cons y ys ih =>
  intro pre es h
  cases es with
  | nil => simp at h
  | cons e es =>
   simp only [putL]
   have : (pre ++ e :: es).set pre.length [iv y] = (pre ++ [[iv y]]) ++ es := by simp
   rw [this]
   have h2 := ih (pre ++ [[iv y]]) es (by simpa using h)
   simp only [List.length_append, List.length_cons, List.length_nil, Nat.zero_add] at h2
   rw [h2]
   simp
theorem Stp.grown {κ0 κ : Kap} {σ0 σ : AH} {w0 : World} : ∀ (os : List Obj) (w : World), Stp κ0 σ0 w0 κ σ w → Stp κ0 σ0 w0 κ σ (Go.Sort.grow w os.toArray) := by
 intro os
 induction os with
 | nil => intro w h; simpa using h
 | cons o os ih =>
  intro w h
  have : Go.Sort.grow w (o :: os).toArray = Go.Sort.grow (w.alloc o) os.toArray := by
   rw [Go.Sort.alloc_eq_grow, Go.Sort.grow_grow]
   congr 1
   simp
  rw [this]
  exact ih _ (h.lay o)
theorem ints_at {κ : Kap} {σ : AH} {w : World} {φ st : Nat} {es : List (List AV)} {xs : List Int} {v : Value} (hr : Rel κ σ w) (hF : σ φ = some ⟨st, 1, es⟩) (hx : ∀ (i : Nat) (h : i < xs.length), es[i]? = some [iv xs[i]]) (hv : VR κ (.own φ st 0 xs.length) v) :
  (xs = [] ∧ ∃ a cap, v = .slice a 0 cap ∧ ∀ w', VR κ (.own φ st 0 0) (.slice a 0 cap) ∨ w' = w) ∨ ∃ r : Reg, κ.ρ φ st = some r ∧ r.lo = 0 ∧ r.sz = 1 ∧ xs.length ≤ r.cap ∧ v = .slice (some ⟨r.b, r.base, none⟩) xs.length r.cap ∧ r.b < w.heap.size ∧ Go.Sort.Holds (Value.int .i64) w r.b r.base xs.toArray := by
 generalize hn : xs.length = n at hv
 cases hv with
 | ownEnd h hoff =>
  left
  have : xs = [] := List.length_eq_zero_iff.1 hn
  exact ⟨this, _, _, rfl, fun _ => .inl (.ownEnd h hoff)⟩
 | own h hlo hle =>
  rename_i r
  right
  subst hn
  obtain ⟨r', e1, hB, H⟩ := hr.has φ _ hF
  have e1' : κ.ρ φ st = some r' := e1
  rw [h] at e1'
  obtain rfl := Option.some.inj e1'
  have hlo0 : r.lo = 0 := by omega
  have hsz : r.sz = 1 := H.sz
  refine ⟨r, h, hlo0, hsz, by omega, ?_, ?_, ?_⟩
  ·simp [hlo0]
  ·obtain ⟨c, e, fz, hh, _⟩ := H.row
   exact (Array.getElem?_eq_some_iff.1 hh).1
  ·intro j hj
   have hj' : j < xs.length := by simpa using hj
   have hjl : j < es.length := (List.getElem?_eq_some_iff.1 (hx j hj')).1
   obtain ⟨u, hc, hu⟩ := H.cell j 0 (by omega) hjl (by show 0 < 1; omega)
   have ej : (es.getD j []).getD 0 .any = iv xs[j] := by simp [List.getD, hx j hj']
   have hu' : VR κ (iv xs[j]) u := ej ▸ hu
   have e2 : r.base + (j - r.lo) * r.sz + 0 = r.base + j := by rw [hlo0, hsz]; omega
   rw [e2] at hc
   refine ⟨?_, H.free _ ?_⟩
   ·rw [hc]
    cases hu'
    simp [hj']
   ·have : r.cap * r.sz = r.cap := by rw [hsz]; omega
    omega
theorem acall_sort {P : Program} {f : FuncId} {fn : Func} (hf : P.funcs[f]? = some fn) (hb : fn.body.isNone = false) (hg : (fn.name == "runtime.NumGoroutine") = false)
  (h0 : ∀ (p : Option Addr) (cap : Nat) (w : World), Calls P f #[.slice p 0 cap] w fun e w' => e = .returned (.tuple #[]) ∧ w' = w)
  (h1 : ∀ (blk off cap : Nat) (zs : List Int) (w : World), Go.Sort.Holds (Value.int .i64) w blk off zs.toArray → blk < w.heap.size → zs.length < 4611686018427387904 →
   Calls P f #[.slice (some ⟨blk, off, none⟩) zs.length cap] w fun e w' => e = .returned (.tuple #[]) ∧ ∃ n os, w' = Go.Sort.grow (Go.Sort.putRow (Value.int .i64) (Go.Sort.ahead w n) blk off (zs.mergeSort fun x y => decide (x ≤ y)).toArray) os)
  {σ : AH} {R : AEnd → AH → Prop} {φ st : Nat} {xs : List Int} (hF : σ φ = some ⟨st, 1, xs.map fun x => [iv x]⟩) (hl : xs.length < 4611686018427387904) (h : R (.ret (.tup [])) (σ.set φ ⟨st, 1, (xs.mergeSort fun x y => decide (x ≤ y)).map fun x => [iv x]⟩)) :
  acall P f [.own φ st 0 xs.length] σ R := by
 refine ⟨fn, hf, hb, hg, fun κ w vs hr hv => ?_⟩
 obtain ⟨v, rfl⟩ : ∃ v, vs = [v] := List.length_eq_one_iff.1 hv.1.symm
 have hv0 : VR κ (.own φ st 0 xs.length) v := hv.2 0 (by simp)
 have htup : VR κ (.tup []) (.tuple #[]) := .tup (vs := []) rfl fun i hi => absurd hi (Nat.not_lt_zero i)
 rcases ints_at hr hF (fun i hi => by simp [hi]) hv0 with ⟨rfl, a, cap, rfl, _⟩ | ⟨r, hρ, hlo, hsz, hcap, rfl, hblk, hH⟩
 ·refine (h0 a cap w).mono fun e w' ⟨he, hw⟩ => ?_
  subst he; subst hw
  refine ⟨κ, _, _, h, ?_, htup⟩
  have : σ.set φ ⟨st, 1, (([] : List Int).mergeSort fun x y => decide (x ≤ y)).map fun x => [iv x]⟩ = σ := AH.set_self (by rw [hF]; simp)
  rw [this]
  exact .refl hr
 ·refine (h1 r.b r.base r.cap xs w hH hblk hl).mono fun e w' ⟨he, q, os, hw⟩ => ?_
  subst he
  rw [Lib.sorted_world _ w r.b r.base q xs.toArray _ os hH (by simp)] at hw
  subst hw
  refine ⟨κ, _, _, h, ?_, htup⟩
  have hd : Stp κ σ w κ σ (w.drewN q) := .world hr rfl rfl rfl rfl
  have hs := Stp.ints (xs.mergeSort fun x y => decide (x ≤ y)) 0 _ σ (w.drewN q) hd.rel hF hρ hsz (by omega) (by simp) (fun c hc => by obtain ⟨x, _, rfl⟩ := List.mem_map.1 hc; rfl)
  have e := putL_all (xs.mergeSort fun x y => decide (x ≤ y)) [] (xs.map fun x => [iv x]) (by simp)
  simp only [List.nil_append, List.length_nil] at e
  rw [e] at hs
  have e2 : ((xs.map fun x => [iv x]).drop (xs.mergeSort fun x y => decide (x ≤ y)).length) = ([] : List (List AV)) := List.drop_eq_nil_of_le (by simp)
  rw [e2, List.append_nil] at hs
  have e3 : r.base + (0 - r.lo) = r.base := by omega
  rw [e3] at hs
  exact Stp.grown os.toList _ (hd.trans hs)
theorem acall_sort_emp {P : Program} {f : FuncId} {fn : Func} (hf : P.funcs[f]? = some fn) (hb : fn.body.isNone = false) (hg : (fn.name == "runtime.NumGoroutine") = false)
  (h0 : ∀ (p : Option Addr) (cap : Nat) (w : World), Calls P f #[.slice p 0 cap] w fun e w' => e = .returned (.tuple #[]) ∧ w' = w)
  {σ : AH} {R : AEnd → AH → Prop} (h : R (.ret (.tup [])) σ) : acall P f [.emp] σ R := by
 refine ⟨fn, hf, hb, hg, fun κ w vs hr hv => ?_⟩
 obtain ⟨v, rfl⟩ : ∃ v, vs = [v] := List.length_eq_one_iff.1 hv.1.symm
 have hv0 : VR κ .emp v := hv.2 0 (by simp)
 cases hv0
 refine (h0 _ _ w).mono fun e w' ⟨he, hw⟩ => ?_
 subst he; subst hw
 exact ⟨κ, _, _, h, .refl hr, .tup (vs := []) rfl fun i hi => absurd hi (Nat.not_lt_zero i)⟩
theorem acall_compact_emp {P : Program} {f : FuncId} {fn : Func} (hf : P.funcs[f]? = some fn) (hb : fn.body.isNone = false) (hg : (fn.name == "runtime.NumGoroutine") = false)
  (h0 : ∀ (p : Option Addr) (cap : Nat) (w : World), Calls P f #[.slice p 0 cap] w fun e w' => e = .returned (.slice p 0 cap) ∧ w' = w)
  {σ : AH} {R : AEnd → AH → Prop} (h : R (.ret .emp) σ) : acall P f [.emp] σ R := by
 refine ⟨fn, hf, hb, hg, fun κ w vs hr hv => ?_⟩
 obtain ⟨v, rfl⟩ : ∃ v, vs = [v] := List.length_eq_one_iff.1 hv.1.symm
 have hv0 : VR κ .emp v := hv.2 0 (by simp)
 cases hv0
 refine (h0 _ _ w).mono fun e w' ⟨he, hw⟩ => ?_
 subst he; subst hw
 exact ⟨κ, _, _, h, .refl hr, VR.emp _⟩
theorem acall_compact {P : Program} {f : FuncId} {fn : Func} (hf : P.funcs[f]? = some fn) (hb : fn.body.isNone = false) (hg : (fn.name == "runtime.NumGoroutine") = false)
  (h0 : ∀ (p : Option Addr) (cap : Nat) (w : World), Calls P f #[.slice p 0 cap] w fun e w' => e = .returned (.slice p 0 cap) ∧ w' = w)
  (h1 : ∀ (blk off cap : Nat) (zs : List Int) (w : World), Go.Sort.Holds (Value.int .i64) w blk off zs.toArray → zs.length ≤ 9223372036854775807 → zs.length ≤ cap →
   Calls P f #[.slice (some ⟨blk, off, none⟩) zs.length cap] w fun e w' => e = .returned (.slice (some ⟨blk, off, none⟩) (Lib.compact zs).length cap) ∧ ∃ q, w' = Go.Sort.putRow (Value.int .i64) (Go.Sort.ahead w q) blk off (Lib.compact zs ++ List.replicate (zs.length - (Lib.compact zs).length) 0).toArray)
  (hc : ∀ zs : List Int, (Lib.compact zs).length ≤ zs.length)
  {σ : AH} {R : AEnd → AH → Prop} {φ st : Nat} {xs : List Int} (hF : σ φ = some ⟨st, 1, xs.map fun x => [iv x]⟩) (hl : xs.length < 4611686018427387904)
  (h : R (.ret (.own φ st 0 (Lib.compact xs).length)) (σ.set φ ⟨st, 1, (Lib.compact xs ++ List.replicate (xs.length - (Lib.compact xs).length) 0).map fun x => [iv x]⟩)) :
  acall P f [.own φ st 0 xs.length] σ R := by
 refine ⟨fn, hf, hb, hg, fun κ w vs hr hv => ?_⟩
 obtain ⟨v, rfl⟩ : ∃ v, vs = [v] := List.length_eq_one_iff.1 hv.1.symm
 have hv0 : VR κ (.own φ st 0 xs.length) v := hv.2 0 (by simp)
 have hcl := hc xs
 rcases ints_at hr hF (fun i hi => by simp [hi]) hv0 with ⟨rfl, a, cap, rfl, _⟩ | ⟨r, hρ, hlo, hsz, hcap, rfl, hblk, hH⟩
 ·have hz : (Lib.compact ([] : List Int)).length = 0 := by simpa using hcl
  have hz2 : Lib.compact ([] : List Int) = [] := List.length_eq_zero_iff.1 hz
  refine (h0 a cap w).mono fun e w' ⟨he, hw⟩ => ?_
  subst he; subst hw
  refine ⟨κ, _, _, h, ?_, by rw [hz]; exact hv0⟩
  have : σ.set φ ⟨st, 1, (Lib.compact ([] : List Int) ++ List.replicate (([] : List Int).length - (Lib.compact ([] : List Int)).length) 0).map fun x => [iv x]⟩ = σ := AH.set_self (by rw [hF, hz2]; simp)
  rw [this]
  exact .refl hr
 ·refine (h1 r.b r.base r.cap xs w hH (by omega) hcap).mono fun e w' ⟨he, q, hw⟩ => ?_
  subst he
  have hlen : (Lib.compact xs ++ List.replicate (xs.length - (Lib.compact xs).length) 0).length = xs.length := by simp; omega
  have hg2 := Lib.sorted_world (Value.int .i64) w r.b r.base q xs.toArray (Lib.compact xs ++ List.replicate (xs.length - (Lib.compact xs).length) 0) #[] hH (by rw [hlen]; simp)
  rw [Go.Sort.grow_empty, Go.Sort.grow_empty] at hg2
  rw [hg2] at hw
  subst hw
  refine ⟨κ, _, _, h, ?_, ?_⟩
  ·have hd : Stp κ σ w κ σ (w.drewN q) := .world hr rfl rfl rfl rfl
   have hs := Stp.ints (Lib.compact xs ++ List.replicate (xs.length - (Lib.compact xs).length) 0) 0 _ σ (w.drewN q) hd.rel hF hρ hsz (by omega) (by rw [hlen]; simp) (fun c hc => by obtain ⟨x, _, rfl⟩ := List.mem_map.1 hc; rfl)
   have e := putL_all (Lib.compact xs ++ List.replicate (xs.length - (Lib.compact xs).length) 0) [] (xs.map fun x => [iv x]) (by rw [hlen]; simp)
   simp only [List.nil_append, List.length_nil] at e
   rw [e] at hs
   have e2 : ((xs.map fun x => [iv x]).drop (Lib.compact xs ++ List.replicate (xs.length - (Lib.compact xs).length) 0).length) = ([] : List (List AV)) := List.drop_eq_nil_of_le (by rw [hlen]; simp)
   rw [e2, List.append_nil] at hs
   have e3 : r.base + (0 - r.lo) = r.base := by omega
   rw [e3] at hs
   exact hd.trans hs
  ·have := VR.own (κ := κ) (φ := φ) (st := st) (off := 0) (n := (Lib.compact xs).length) hρ (by omega) (by omega)
   show VR κ _ _
   simpa [hlo] using this
theorem compact_len (zs : List Int) : (Lib.compact zs).length ≤ zs.length := by
 unfold Lib.compact Lib.compactUpTo
 rw [List.length_map]
 have := List.length_filter_le (Lib.keeps zs.toArray) (List.range zs.length)
 rw [List.length_range] at this
 exact this
theorem mem_compact {zs : List Int} {x : Int} : x ∈ Lib.compact zs ↔ x ∈ zs := by
 unfold Lib.compact Lib.compactUpTo
 have e : ∀ j, j < zs.length → zs.toArray[j]! = zs.getD j 0 := by
  intro j hj
  simp [hj, List.getD]
 constructor
 ·intro h
  obtain ⟨j, hj, rfl⟩ := List.mem_map.1 h
  have hj1 := List.mem_range.1 (List.mem_filter.1 hj).1
  rw [e j hj1]
  simp [List.getD, hj1]
 ·intro h
  obtain ⟨k, hk, hx⟩ := List.getElem_of_mem h
  have key : ∀ n, ∀ k (hk : k < zs.length), k ≤ n → zs[k] = x → ∃ j, ∃ hj : j < zs.length, zs[j] = x ∧ Lib.keeps zs.toArray j = true := by
   intro n
   induction n with
   | zero =>
    intro k hk h0 hx
    obtain rfl : k = 0 := by omega
    exact ⟨0, hk, hx, Lib.keeps_lt_one _ 0 (by omega)⟩
   | succ n ih =>
    intro k hk hn hx
    by_cases c : Lib.keeps zs.toArray k = true
    ·exact ⟨k, hk, hx, c⟩
    ·have h0 : k ≠ 0 := by rintro rfl; exact c (Lib.keeps_lt_one _ 0 (by omega))
     have h2 : zs.toArray[k]! = zs.toArray[k - 1]! := Classical.byContradiction fun h => c (Lib.keeps_pos h)
     refine ih (k - 1) (by omega) (by omega) ?_
     rw [e k hk, e (k - 1) (by omega)] at h2
     have e1 : zs.getD k 0 = zs[k] := by simp [List.getD, hk]
     have e2 : zs.getD (k - 1) 0 = zs[k - 1] := by simp [List.getD, show k - 1 < zs.length by omega]
     rw [← e2, ← h2, e1, hx]
  obtain ⟨j, hj, h1, h2⟩ := key k k hk (Nat.le_refl _) hx
  refine List.mem_map.2 ⟨j, List.mem_filter.2 ⟨List.mem_range.2 hj, h2⟩, ?_⟩
  rw [e j hj]
  simp [List.getD, hj, h1]
end Go.Proofs.YtbapalgndjiamaaGreatDoor.E
/- The library's contracts at this program. -/
namespace Go.Proofs.YtbapalgndjiamaaGreatDoor.E
open Go Go.Proofs
open Go.Shelf
def laysSlN43_f47_ren : Go.Shelf.Ren := ⟨fun | 43 => 47 | n => n, fun | 22 => 28 | 23 => 2 | 3 => 3 | 4 => 4 | 0 => 0 | n => n, fun | n => n⟩
theorem laysSlN43_f47 : Go.Proofs.SlLaysN.n43 Tryz.prog laysSlN43_f47_ren := {
 mixed := by kernel_rfl
 f43 := ⟨Tryz.f47.name, by decide, Tryz.func47.trans (congrArg some (by kernel_rfl))⟩
 t0 := Tryz.underlying0
 a0 := Tryz.isAgg0
 z0 := Tryz.sizeOf0
 v0 := Tryz.zeroValue0
 t3 := Tryz.underlying3
 a3 := Tryz.isAgg3
 z3 := Tryz.sizeOf3
 v3 := Tryz.zeroValue3
 t4 := Tryz.underlying4
 a4 := Tryz.isAgg4
 z4 := Tryz.sizeOf4
 v4 := Tryz.zeroValue4
 t22 := Tryz.underlying28
 a22 := Tryz.isAgg28
 z22 := Tryz.sizeOf28
 v22 := Tryz.zeroValue28
 t23 := Tryz.underlying2
 a23 := Tryz.isAgg2
 z23 := Tryz.sizeOf2
 v23 := Tryz.zeroValue2
 i23 := by kernel_rfl }
open Go.RowKit Go.Lib Go.Sort in
theorem sh_slices_Compact_int (blk off cap : Nat) (zs : List Int) (w : World) (hH : Go.Sort.Holds (Value.int .i64) w blk off zs.toArray) (hsz : zs.length ≤ 9223372036854775807) (hcap : zs.length ≤ cap) :
  Calls Tryz.prog 47 #[.slice (some ⟨blk, off, none⟩) zs.length cap] w fun e w' => e = .returned (.slice (some ⟨blk, off, none⟩) (Lib.compact zs).length cap) ∧ ∃ q, w' = putRow (Value.int .i64) (Sort.ahead w q) blk off (Lib.compact zs ++ List.replicate (zs.length - (Lib.compact zs).length) 0).toArray := AnyG.slices_Compact_int laysSlN43_f47 blk off cap zs w hH hsz hcap
open Go.RowKit Go.Lib Go.Sort in
theorem sh_slices_Compact_int_empty (a : Option Addr) (cap : Nat) (w : World) :
  Calls Tryz.prog 47 #[.slice a 0 cap] w fun e w' => e = .returned (.slice a 0 cap) ∧ w' = w := AnyG.slices_Compact_int_empty laysSlN43_f47 a cap w
def laysSlM5_f46_ren : Go.Shelf.Ren := ⟨fun | 5 => 46 | 8 => 67 | 7 => 66 | 19 => 101 | 20 => 102 | 10 => 92 | 11 => 93 | 12 => 94 | 13 => 95 | 14 => 96 | 15 => 97 | 16 => 98 | 17 => 99 | 18 => 100 | 30 => 128 | 31 => 129 | 32 => 130 | 33 => 131 | 34 => 132 | 35 => 133 | 40 => 142 | n => n, fun | 23 => 28 | 25 => 2 | 3 => 3 | 32 => 102 | 22 => 28 | 0 => 0 | 44 => 142 | 46 => 144 | 4 => 4 | 36 => 134 | 35 => 133 | 41 => 139 | 5 => 5 | 9 => 9 | 53 => 175 | 57 => 179 | 63 => 195 | 64 => 196 | n => n, fun | n => n⟩
theorem laysSlM5_f46 : Go.Proofs.SlLaysM.n5 Tryz.prog laysSlM5_f46_ren := {
 mixed := by kernel_rfl
 f5 := ⟨Tryz.f46.name, by decide, Tryz.func46.trans (congrArg some (by kernel_rfl))⟩
 f7 := ⟨Tryz.f66.name, by decide, Tryz.func66.trans (congrArg some (by kernel_rfl))⟩
 f8 := Tryz.func67.trans (congrArg some (by kernel_rfl))
 f10 := ⟨Tryz.f92.name, by decide, Tryz.func92.trans (congrArg some (by kernel_rfl))⟩
 f11 := ⟨Tryz.f93.name, by decide, Tryz.func93.trans (congrArg some (by kernel_rfl))⟩
 f12 := ⟨Tryz.f94.name, by decide, Tryz.func94.trans (congrArg some (by kernel_rfl))⟩
 f13 := ⟨Tryz.f95.name, by decide, Tryz.func95.trans (congrArg some (by kernel_rfl))⟩
 f14 := ⟨Tryz.f96.name, by decide, Tryz.func96.trans (congrArg some (by kernel_rfl))⟩
 f15 := ⟨Tryz.f97.name, by decide, Tryz.func97.trans (congrArg some (by kernel_rfl))⟩
 f16 := ⟨Tryz.f98.name, by decide, Tryz.func98.trans (congrArg some (by kernel_rfl))⟩
 f17 := ⟨Tryz.f99.name, by decide, Tryz.func99.trans (congrArg some (by kernel_rfl))⟩
 f18 := ⟨Tryz.f100.name, by decide, Tryz.func100.trans (congrArg some (by kernel_rfl))⟩
 f19 := Tryz.func101.trans (congrArg some (by kernel_rfl))
 f20 := Tryz.func102.trans (congrArg some (by kernel_rfl))
 f30 := ⟨Tryz.f128.name, by decide, Tryz.func128.trans (congrArg some (by kernel_rfl))⟩
 f31 := Tryz.func129.trans (congrArg some (by kernel_rfl))
 f32 := Tryz.func130.trans (congrArg some (by kernel_rfl))
 f33 := ⟨Tryz.f131.name, by decide, Tryz.func131.trans (congrArg some (by kernel_rfl))⟩
 f34 := ⟨Tryz.f132.name, by decide, Tryz.func132.trans (congrArg some (by kernel_rfl))⟩
 f35 := ⟨Tryz.f133.name, by decide, Tryz.func133.trans (congrArg some (by kernel_rfl))⟩
 f40 := ⟨Tryz.f142.name, by decide, Tryz.func142.trans (congrArg some (by kernel_rfl))⟩
 t0 := Tryz.underlying0
 a0 := Tryz.isAgg0
 z0 := Tryz.sizeOf0
 v0 := Tryz.zeroValue0
 t3 := Tryz.underlying3
 a3 := Tryz.isAgg3
 z3 := Tryz.sizeOf3
 v3 := Tryz.zeroValue3
 t4 := Tryz.underlying4
 a4 := Tryz.isAgg4
 z4 := Tryz.sizeOf4
 v4 := Tryz.zeroValue4
 t5 := Tryz.underlying5
 a5 := Tryz.isAgg5
 z5 := Tryz.sizeOf5
 v5 := Tryz.zeroValue5
 t9 := Tryz.underlying9
 a9 := Tryz.isAgg9
 z9 := Tryz.sizeOf9
 v9 := Tryz.zeroValue9
 t22 := Tryz.underlying28
 a22 := Tryz.isAgg28
 z22 := Tryz.sizeOf28
 v22 := Tryz.zeroValue28
 t23 := Tryz.underlying28
 a23 := Tryz.isAgg28
 z23 := Tryz.sizeOf28
 v23 := Tryz.zeroValue28
 t25 := Tryz.underlying2
 a25 := Tryz.isAgg2
 z25 := Tryz.sizeOf2
 v25 := Tryz.zeroValue2
 t32 := Tryz.underlying102
 a32 := Tryz.isAgg102
 z32 := Tryz.sizeOf102
 v32 := Tryz.zeroValue102
 t35 := Tryz.underlying133
 a35 := Tryz.isAgg133
 z35 := Tryz.sizeOf133
 v35 := Tryz.zeroValue133
 t36 := Tryz.underlying134
 a36 := Tryz.isAgg134
 z36 := Tryz.sizeOf134
 v36 := Tryz.zeroValue134
 t41 := Tryz.underlying139
 a41 := Tryz.isAgg139
 z41 := Tryz.sizeOf139
 v41 := Tryz.zeroValue139
 t44 := Tryz.underlying142
 a44 := Tryz.isAgg142
 z44 := Tryz.sizeOf142
 v44 := Tryz.zeroValue142
 t46 := Tryz.underlying144
 a46 := Tryz.isAgg144
 z46 := Tryz.sizeOf144
 v46 := Tryz.zeroValue144
 t53 := Tryz.underlying175
 a53 := Tryz.isAgg175
 z53 := Tryz.sizeOf175
 v53 := Tryz.zeroValue175
 t57 := Tryz.underlying179
 a57 := Tryz.isAgg179
 z57 := Tryz.sizeOf179
 v57 := Tryz.zeroValue179
 t63 := Tryz.underlying195
 a63 := Tryz.isAgg195
 z63 := Tryz.sizeOf195
 v63 := Tryz.zeroValue195
 t64 := Tryz.underlying196
 a64 := Tryz.isAgg196
 z64 := Tryz.sizeOf196
 v64 := Tryz.zeroValue196 }
open Go.Sort Go.RowKit in
theorem sh_slices_Sort_int (blk off cap : Nat) (zs : List Int) (w : World) (hH : Go.Sort.Holds (Value.int .i64) w blk off zs.toArray) (hblk : blk < w.heap.size) (hsz : zs.length < 4611686018427387904) :
  Calls Tryz.prog 46 #[.slice (some ⟨blk, off, none⟩) zs.length cap] w fun e w' =>
   e = .returned (.tuple #[]) ∧ ∃ n os, w' = grow (putRow (Value.int .i64) (Sort.ahead w n) blk off (zs.mergeSort fun x y => decide (x ≤ y)).toArray) os := AnyM.slices_Sort_int laysSlM5_f46 blk off cap zs w hH hblk hsz
open Go.RowKit Go.Sort in
theorem sh_slices_Sort_int_none (p : Option Addr) (cap : Nat) (w : World) :
  Calls Tryz.prog 46 #[.slice p 0 cap] w fun e w' => e = .returned (.tuple #[]) ∧ w' = w := AnyM.slices_Sort_int_none laysSlM5_f46 p cap w
section
open Go.RowKit
variable [L : Lam]
variable {σ : AH} {R : AEnd → AH → Prop}
theorem c_slices_Sort {φ st : Nat} {xs : List Int} (hF : σ φ = some ⟨st, 1, xs.map fun x => [iv x]⟩) (hl : xs.length < 4611686018427387904) (h : R (.ret (.tup [])) (σ.set φ ⟨st, 1, (xs.mergeSort fun x y => decide (x ≤ y)).map fun x => [iv x]⟩)) :
  acall TP fn_slices_Sort [.own φ st 0 xs.length] σ R :=
 acall_sort Tryz.func46 rfl (by decide) (fun p cap w => sh_slices_Sort_int_none p cap w) (fun blk off cap zs w h1 h2 h3 => sh_slices_Sort_int blk off cap zs w h1 h2 h3) hF hl h
theorem c_slices_Compact {φ st : Nat} {xs : List Int} (hF : σ φ = some ⟨st, 1, xs.map fun x => [iv x]⟩) (hl : xs.length < 4611686018427387904)
  (h : R (.ret (.own φ st 0 (Lib.compact xs).length)) (σ.set φ ⟨st, 1, (Lib.compact xs ++ List.replicate (xs.length - (Lib.compact xs).length) 0).map fun x => [iv x]⟩)) : acall TP fn_slices_Compact [.own φ st 0 xs.length] σ R :=
 acall_compact Tryz.func47 rfl (by decide) (fun p cap w => sh_slices_Compact_int_empty p cap w) (fun blk off cap zs w h1 h2 h3 => sh_slices_Compact_int blk off cap zs w h1 h2 h3) compact_len hF hl h
theorem c_slices_Sort_emp (h : R (.ret (.tup [])) σ) : acall TP fn_slices_Sort [.emp] σ R :=
 acall_sort_emp Tryz.func46 rfl (by decide) (fun p cap w => sh_slices_Sort_int_none p cap w) h
theorem c_slices_Compact_emp (h : R (.ret .emp) σ) : acall TP fn_slices_Compact [.emp] σ R :=
 acall_compact_emp Tryz.func47 rfl (by decide) (fun p cap w => sh_slices_Compact_int_empty p cap w) h
end
end Go.Proofs.YtbapalgndjiamaaGreatDoor.E
