/- What functions come to. Printed by mkg.py. -/
import Derived.Test.YtinhodpfgjddmaaGreatDoorGZ0
namespace Go.Proofs.YtinhodpfgjddmaaGreatDoor.E
open Go Go.RowKit
set_option linter.unusedVariables false
set_option linter.unusedSectionVars false
variable [Lam]
/-- loop.example/g00349/spec.l10Pass -/
def s_spec_l10Pass (a0 a1 : AV) (σ : AH) (R : AEnd → AH → Prop) : Prop :=
  lp (X := Tup [0, 1, 6, 7]) (fun R1 y1 σ =>
    og (anil y1.1) fun v19 =>
    og (fldA 1 v19) fun v20 =>
    og (lod v20 σ) fun v21 =>
    og (lenS v21) fun v22 =>
    og (ibin .lss y1.2.2.2.1 v22) fun v23 =>
    apick v23 (
      jn (X := Tup [0, 1, 6, 7]) (fun x2 σ =>
          og (ibin .add x2.2.2.2.1 (.val (.int .i64 1))) fun v25 =>
          R1 (x2.1, x2.2.1, x2.2.2.1, v25, ()) σ) fun k2 =>
        og (anil y1.1) fun v27 =>
        og (fldA 1 v27) fun v28 =>
        og (lod v28 σ) fun v29 =>
        og (idx 7 v29 y1.2.2.2.1 σ) fun v31 =>
        og (idx 1 y1.2.1 y1.2.2.2.1 σ) fun v34 =>
        og (lod v34 σ) fun v35 =>
        og (ibin .lss v35 (.val (.int .i64 0))) fun v36 =>
        apick v36 (
          k2 (y1.1, y1.2.1, y1.2.2.1, y1.2.2.2.1, ()) σ) (
          og (idx 1 y1.2.1 y1.2.2.2.1 σ) fun v40 =>
          og (lod v40 σ) fun v41 =>
          acall TP fn_spec_l10High [v31, v41] σ (onr (fun v42 σ =>
          og (aun .not v42) fun v43 =>
          apick v43 (
            aret (.tup [(.val (.bool false)), (.val (.bool false))]) σ R) (
            acall TP fn_spec_l10Takes [v31] σ (onr (fun v46 σ =>
            og (aext v46 0) fun v47 =>
            og (aext v46 1) fun v48 =>
            og (idx 1 y1.2.1 y1.2.2.2.1 σ) fun v51 =>
            og (lod v51 σ) fun v52 =>
            og (ibin .sub v52 v47) fun v54 =>
            og (ibin .add v54 v48) fun v56 =>
            jn (X := Tup [0, 1, 6, 7, 8, 11]) (fun x3 σ =>
                acall TP fn_spec_l9Target [x3.2.2.2.2.1] σ (onr (fun v78 σ =>
                og (ibin .geq v78 (.val (.int .i64 0))) fun v80 =>
                apick v80 (
                  acall TP fn_spec_l10Lead [x3.2.1, v78, x3.2.2.2.2.2.1] σ (onr (fun v85 σ =>
                  og (aext v85 0) fun v86 =>
                  og (aext v85 1) fun v87 =>
                  og (aun .not v87) fun v89 =>
                  apick v89 (
                    aret (.tup [(.val (.bool false)), (.val (.bool false))]) σ R) (
                    og (gval x3.2.2.1 false false (some v86)) fun v92 =>
                    og (pickV x3.2.2.1 (.val (.bool true)) v92) fun v93 =>
                    k2 (x3.1, x3.2.1, v93, x3.2.2.2.1, ()) σ)) (fun v σ => apan v σ R))) (
                  k2 (x3.1, x3.2.1, x3.2.2.1, x3.2.2.2.1, ()) σ)) (fun v σ => apan v σ R))) fun k3 =>
              og (anil v31) fun v58 =>
              og (fldA 0 v58) fun v59 =>
              og (lod v59 σ) fun v60 =>
              acall TP fn_spec_l10Ends [v60] σ (onr (fun v61 σ =>
              og (aun .not v61) fun v62 =>
              apick v62 (
                og (ibin .add y1.2.2.2.1 (.val (.int .i64 1))) fun v66 =>
                acall TP fn_spec_l10Lead [y1.2.1, v66, v56] σ (onr (fun v68 σ =>
                og (aext v68 0) fun v69 =>
                og (aext v68 1) fun v70 =>
                og (aun .not v70) fun v72 =>
                apick v72 (
                  aret (.tup [(.val (.bool false)), (.val (.bool false))]) σ R) (
                  og (gval y1.2.2.1 false false (some v69)) fun v75 =>
                  og (pickV y1.2.2.1 (.val (.bool true)) v75) fun v76 =>
                  k3 (y1.1, y1.2.1, v76, y1.2.2.2.1, v31, v56, ()) σ)) (fun v σ => apan v σ R))) (
                k3 (y1.1, y1.2.1, y1.2.2.1, y1.2.2.2.1, v31, v56, ()) σ)) (fun v σ => apan v σ R))) (fun v σ => apan v σ R)))) (fun v σ => apan v σ R)))) (
      aret (.tup [y1.2.2.1, (.val (.bool true))]) σ R)) (a0, a1, (.val (.bool false)), (.val (.int .i64 0)), ()) σ
def x97 : Sx := .lp [0, 1, 6, 7] (.og (.anil (.var 0)) (.og (.fldA 1 (.var 0)) (.og (.lod (.var 0)) (.og (.lenS (.var 0)) (.og (.ibin .lss (.var 7) (.var 0)) (.apick (.var 0) (.jn 467 [0, 1, 6, 7] (.og (.ibin .add (.var 3) (.lit (.val (.int .i64 1)))) (.jump 0 [(.var 1), (.var 2), (.var 3), (.var 0)])) (.og (.anil (.var 5)) (.og (.fldA 1 (.var 0)) (.og (.lod (.var 0)) (.og (.idx 7 (.var 0) (.var 11)) (.og (.idx 1 (.var 10) (.var 12)) (.og (.lod (.var 0)) (.og (.ibin .lss (.var 0) (.lit (.val (.int .i64 0)))) (.apick (.var 0) (.jump 0 [(.var 12), (.var 13), (.var 14), (.var 15)]) (.og (.idx 1 (.var 13) (.var 15)) (.og (.lod (.var 0)) (.call 142 [(.var 5), (.var 0)] (.og (.aun .not (.var 0)) (.apick (.var 0) (.rets [(.lit (.val (.bool false))), (.lit (.val (.bool false)))]) (.call 65 [(.var 7)] (.og (.aext (.var 0) 0) (.og (.aext (.var 1) 1) (.og (.idx 1 (.var 20) (.var 22)) (.og (.lod (.var 0)) (.og (.ibin .sub (.var 0) (.var 3)) (.og (.ibin .add (.var 0) (.var 3)) (.jn 59711 [0, 1, 6, 7, 8, 11] (.call 90 [(.var 4)] (.og (.ibin .geq (.var 0) (.lit (.val (.int .i64 0)))) (.apick (.var 0) (.call 144 [(.var 3), (.var 1), (.var 7)] (.og (.aext (.var 0) 0) (.og (.aext (.var 1) 1) (.og (.aun .not (.var 0)) (.apick (.var 0) (.rets [(.lit (.val (.bool false))), (.lit (.val (.bool false)))]) (.gog (.var 8) false false (.ret (.var 2)) (.og (.pickV (.var 9) (.lit (.val (.bool true))) (.var 0)) (.jump 0 [(.var 8), (.var 9), (.var 0), (.var 11)])))))))) (.jump 0 [(.var 2), (.var 3), (.var 4), (.var 5)])))) (.og (.anil (.var 14)) (.og (.fldA 0 (.var 0)) (.og (.lod (.var 0)) (.call 143 [(.var 0)] (.og (.aun .not (.var 0)) (.apick (.var 0) (.og (.ibin .add (.var 31) (.lit (.val (.int .i64 1)))) (.call 144 [(.var 30), (.var 0), (.var 6)] (.og (.aext (.var 0) 0) (.og (.aext (.var 1) 1) (.og (.aun .not (.var 0)) (.apick (.var 0) (.rets [(.lit (.val (.bool false))), (.lit (.val (.bool false)))]) (.gog (.var 35) false false (.ret (.var 2)) (.og (.pickV (.var 36) (.lit (.val (.bool true))) (.var 0)) (.jump 0 [(.var 35), (.var 36), (.var 0), (.var 38), (.var 26), (.var 12)]))))))))) (.jump 0 [(.var 28), (.var 29), (.var 30), (.var 31), (.var 19), (.var 5)]))))))))))))))))))))))))))))) (.rets [(.var 7), (.lit (.val (.bool true)))]))))))) [(.var 1), (.var 0), (.lit (.val (.bool false))), (.lit (.val (.int .i64 0)))]
set_option maxRecDepth 1000000 in
theorem x97_ok : okF TT Tryz.f97 2 x97 = true := by decide +kernel
set_option maxRecDepth 1000000 in
theorem s_spec_l10Pass_ok {a0 a1 : AV} {σ : AH} {R : AEnd → AH → Prop} (h : s_spec_l10Pass a0 a1 σ R) : acall TP fn_spec_l10Pass [a0, a1] σ R :=
  acall_okF (ρ := [a1, a0]) TT_ok Tryz.func97 rfl x97 x97_ok rfl h

/-- (loop.example/g00349/impl.Op).ends -/
def s_impl_Op_ends (a0 a1 : AV) (σ : AH) (R : AEnd → AH → Prop) : Prop :=
  abox a0 σ fun v2 σ =>
  frz v2 σ fun f2 σ =>
  og (fldA 0 f2) fun v5 =>
  og (lod v5 σ) fun v6 =>
  og (ibin .eql v6 (.val (.int .i64 12))) fun v8 =>
  apick v8 (
    og (ibin .eql a1 (.val (.int .i64 1))) fun v10 =>
    aret v10 σ R) (
    og (ibin .eql v6 (.val (.int .i64 11))) fun v12 =>
    apick v12 (
      og (fldA 1 f2) fun v14 =>
      og (lod v14 σ) fun v15 =>
      og (ibin .add v15 (.val (.int .i64 1))) fun v16 =>
      og (ibin .eql a1 v16) fun v17 =>
      aret v17 σ R) (
      jn (X := Tup [1, 18]) (fun x1 σ =>
          apick x1.2.1 (
            og (ibin .eql x1.1 (.val (.int .i64 0))) fun v22 =>
            aret v22 σ R) (
            aret (.val (.bool true)) σ R)) fun k1 =>
        og (ibin .eql v6 (.val (.int .i64 13))) fun v19 =>
        apick v19 (
          k1 (a1, v19, ()) σ) (
          og (ibin .eql v6 (.val (.int .i64 14))) fun v20 =>
          k1 (a1, v20, ()) σ)))
def x98 : Sx := .box (.var 1) (.frz 2 (.var 0) (.og (.fldA 0 (.var 0)) (.og (.lod (.var 0)) (.og (.ibin .eql (.var 0) (.lit (.val (.int .i64 12)))) (.apick (.var 0) (.og (.ibin .eql (.var 5) (.lit (.val (.int .i64 1)))) (.ret (.var 0))) (.og (.ibin .eql (.var 1) (.lit (.val (.int .i64 11)))) (.apick (.var 0) (.og (.fldA 1 (.var 4)) (.og (.lod (.var 0)) (.og (.ibin .add (.var 0) (.lit (.val (.int .i64 1)))) (.og (.ibin .eql (.var 9) (.var 0)) (.ret (.var 0)))))) (.jn 863 [1, 18] (.apick (.var 1) (.og (.ibin .eql (.var 0) (.lit (.val (.int .i64 0)))) (.ret (.var 0))) (.ret (.lit (.val (.bool true))))) (.og (.ibin .eql (.var 2) (.lit (.val (.int .i64 13)))) (.apick (.var 0) (.jump 0 [(.var 7), (.var 0)]) (.og (.ibin .eql (.var 3) (.lit (.val (.int .i64 14)))) (.jump 0 [(.var 8), (.var 0)]))))))))))))
set_option maxRecDepth 1000000 in
theorem x98_ok : okF TT Tryz.f98 2 x98 = true := by decide +kernel
set_option maxRecDepth 1000000 in
theorem s_impl_Op_ends_ok {a0 a1 : AV} {σ : AH} {R : AEnd → AH → Prop} (h : s_impl_Op_ends a0 a1 σ R) : acall TP fn_impl_Op_ends [a0, a1] σ R :=
  acall_okF (ρ := [a1, a0]) TT_ok Tryz.func98 rfl x98 x98_ok rfl h

/-- (loop.example/g00349/impl.Op).goesOn -/
def s_impl_Op_goesOn (a0 : AV) (σ : AH) (R : AEnd → AH → Prop) : Prop :=
  abox a0 σ fun v1 σ =>
  frz v1 σ fun f1 σ =>
  og (fldA 0 f1) fun v3 =>
  og (lod v3 σ) fun v4 =>
  jn (X := Tup [5]) (fun x1 σ =>
      apick x1.1 (
        aret (.val (.bool false)) σ R) (
        aret (.val (.bool true)) σ R)) fun k1 =>
    og (ibin .eql v4 (.val (.int .i64 5))) fun v6 =>
    apick v6 (
      k1 (v6, ()) σ) (
      og (ibin .eql v4 (.val (.int .i64 11))) fun v7 =>
      apick v7 (
        k1 (v7, ()) σ) (
        og (ibin .eql v4 (.val (.int .i64 12))) fun v8 =>
        apick v8 (
          k1 (v8, ()) σ) (
          og (ibin .eql v4 (.val (.int .i64 13))) fun v9 =>
          apick v9 (
            k1 (v9, ()) σ) (
            og (ibin .eql v4 (.val (.int .i64 14))) fun v10 =>
            k1 (v10, ()) σ))))
def x99 : Sx := .box (.var 0) (.frz 1 (.var 0) (.og (.fldA 0 (.var 0)) (.og (.lod (.var 0)) (.jn 53 [5] (.apick (.var 0) (.ret (.lit (.val (.bool false)))) (.ret (.lit (.val (.bool true))))) (.og (.ibin .eql (.var 0) (.lit (.val (.int .i64 5)))) (.apick (.var 0) (.jump 0 [(.var 0)]) (.og (.ibin .eql (.var 1) (.lit (.val (.int .i64 11)))) (.apick (.var 0) (.jump 0 [(.var 0)]) (.og (.ibin .eql (.var 2) (.lit (.val (.int .i64 12)))) (.apick (.var 0) (.jump 0 [(.var 0)]) (.og (.ibin .eql (.var 3) (.lit (.val (.int .i64 13)))) (.apick (.var 0) (.jump 0 [(.var 0)]) (.og (.ibin .eql (.var 4) (.lit (.val (.int .i64 14)))) (.jump 0 [(.var 0)]))))))))))))))
set_option maxRecDepth 1000000 in
theorem x99_ok : okF TT Tryz.f99 1 x99 = true := by decide +kernel
set_option maxRecDepth 1000000 in
theorem s_impl_Op_goesOn_ok {a0 : AV} {σ : AH} {R : AEnd → AH → Prop} (h : s_impl_Op_goesOn a0 σ R) : acall TP fn_impl_Op_goesOn [a0] σ R :=
  acall_okF (ρ := [a0]) TT_ok Tryz.func99 rfl x99 x99_ok rfl h

/-- loop.example/g00349/spec.l9Fault -/
def s_spec_l9Fault (a0 : AV) (σ : AH) (R : AEnd → AH → Prop) : Prop :=
  og (lenS a0) fun v6 =>
  og (ibin .gtr v6 (.val (.int .i64 60))) fun v7 =>
  apick v7 (
    aret (.val (.int .i64 2)) σ R) (
    lp (X := Tup [0, 3]) (fun R1 y1 σ =>
      og (lenS y1.1) fun v10 =>
      og (ibin .lss y1.2.1 v10) fun v11 =>
      apick v11 (
        og (idx 2 y1.1 y1.2.1 σ) fun v16 =>
        acall TP fn_spec_l9Block [v16] σ (onr (fun v17 σ =>
        og (ibin .neq v17 (.val (.int .i64 0))) fun v19 =>
        apick v19 (
          aret v17 σ R) (
          og (ibin .add y1.2.1 (.val (.int .i64 1))) fun v13 =>
          R1 (y1.1, v13, ()) σ)) (fun v σ => apan v σ R))) (
        aret (.val (.int .i64 0)) σ R)) (a0, (.val (.int .i64 0)), ()) σ)
def x100 : Sx := .og (.lenS (.var 0)) (.og (.ibin .gtr (.var 0) (.lit (.val (.int .i64 60)))) (.apick (.var 0) (.ret (.lit (.val (.int .i64 2)))) (.lp [0, 3] (.og (.lenS (.var 0)) (.og (.ibin .lss (.var 2) (.var 0)) (.apick (.var 0) (.og (.idx 2 (.var 2) (.var 3)) (.call 47 [(.var 0)] (.og (.ibin .neq (.var 0) (.lit (.val (.int .i64 0)))) (.apick (.var 0) (.ret (.var 1)) (.og (.ibin .add (.var 6) (.lit (.val (.int .i64 1)))) (.jump 0 [(.var 6), (.var 0)])))))) (.ret (.lit (.val (.int .i64 0))))))) [(.var 2), (.lit (.val (.int .i64 0)))])))
set_option maxRecDepth 1000000 in
theorem x100_ok : okF TT Tryz.f100 1 x100 = true := by decide +kernel
set_option maxRecDepth 1000000 in
theorem s_spec_l9Fault_ok {a0 : AV} {σ : AH} {R : AEnd → AH → Prop} (h : s_spec_l9Fault a0 σ R) : acall TP fn_spec_l9Fault [a0] σ R :=
  acall_okF (ρ := [a0]) TT_ok Tryz.func100 rfl x100 x100_ok rfl h

/-- loop.example/g00349/spec.l10Around -/
def s_spec_l10Around (a0 : AV) (σ : AH) (R : AEnd → AH → Prop) : Prop :=
  bsl 1 [(.val (.int .i64 0))] 0 [] σ fun v12 σ =>
  lp (X := Tup [0, 4, 5]) (fun R1 y1 σ =>
    og (lenS y1.1) fun v15 =>
    og (ibin .lss y1.2.2.1 v15) fun v16 =>
    apick v16 (
      bsl 1 [(.val (.int .i64 0))] 1 [(0, (.val (.int .i64 (-1))))] σ fun v20 σ =>
      app 1 y1.2.1 v20 σ fun v21 σ =>
      og (ibin .add y1.2.2.1 (.val (.int .i64 1))) fun v18 =>
      R1 (y1.1, v21, v18, ()) σ) (
      lp (X := Tup [0, 4, 6]) (fun R2 y2 σ =>
        og (lenS y2.1) fun v24 =>
        og (ibin .lss y2.2.2.1 v24) fun v25 =>
        apick v25 (
          og (idx 2 y2.1 y2.2.2.1 σ) fun v31 =>
          acall TP fn_spec_l10Heights [v31] σ (onr (fun v32 σ =>
          og (aext v32 0) fun v33 =>
          og (aext v32 1) fun v34 =>
          og (ibin .neq v34 (.val (.int .i64 0))) fun v36 =>
          apick v36 (
            aret (.tup [(.val (.slice none 0 0)), v34]) σ R) (
            lp (X := Tup [0, 4, 6, 9]) (fun R3 y3 σ =>
              og (idx 2 y3.1 y3.2.2.1 σ) fun v41 =>
              og (fldA 1 v41) fun v42 =>
              og (lod v42 σ) fun v43 =>
              og (lenS v43) fun v44 =>
              og (ibin .lss y3.2.2.2.1 v44) fun v45 =>
              apick v45 (
                jn (X := Tup [0, 4, 6, 9]) (fun x4 σ =>
                    og (ibin .add x4.2.2.2.1 (.val (.int .i64 1))) fun v47 =>
                    R3 (x4.1, x4.2.1, x4.2.2.1, v47, ()) σ) fun k4 =>
                  og (idx 2 y3.1 y3.2.2.1 σ) fun v50 =>
                  og (fldA 1 v50) fun v51 =>
                  og (lod v51 σ) fun v52 =>
                  og (idx 7 v52 y3.2.2.2.1 σ) fun v54 =>
                  og (anil v54) fun v56 =>
                  og (fldA 0 v56) fun v57 =>
                  og (lod v57 σ) fun v58 =>
                  og (ibin .neq v58 (.val (.int .i64 4))) fun v59 =>
                  apick v59 (
                    k4 (y3.1, y3.2.1, y3.2.2.1, y3.2.2.2.1, ()) σ) (
                    og (anil v54) fun v61 =>
                    og (fldA 1 v61) fun v62 =>
                    og (lod v62 σ) fun v63 =>
                    og (ibin .leq v63 y3.2.2.1) fun v65 =>
                    og (gval v65 false false (some v54)) fun v67 =>
                    og (gval v65 false false (anil v67)) fun v68 =>
                    og (gval v65 false false (fldA 1 v68)) fun v69 =>
                    og (gval v65 false false (lod v69 σ)) fun v70 =>
                    og (gval v65 false false (some y3.1)) fun v71 =>
                    og (gval v65 false false (lenS v71)) fun v72 =>
                    og (gval v65 false false (ibin .geq v70 v72)) fun v73 =>
                    og (pickV v65 (.val (.bool true)) v73) fun v74 =>
                    og (gval v74 false false (some y3.2.1)) fun v76 =>
                    og (gval v74 false false (some v54)) fun v77 =>
                    og (gval v74 false false (anil v77)) fun v78 =>
                    og (gval v74 false false (fldA 1 v78)) fun v79 =>
                    og (gval v74 false false (lod v79 σ)) fun v80 =>
                    og (gval v74 false false (idx 1 v76 v80 σ)) fun v81 =>
                    og (gval v74 false false (lod v81 σ)) fun v82 =>
                    og (gval v74 false false (ibin .geq v82 (.val (.int .i64 0)))) fun v83 =>
                    og (pickV v74 (.val (.bool true)) v83) fun v84 =>
                    apick v84 (
                      aret (.tup [(.val (.slice none 0 0)), (.val (.int .i64 1))]) σ R) (
                      og (anil v54) fun v87 =>
                      og (fldA 1 v87) fun v88 =>
                      og (lod v88 σ) fun v89 =>
                      og (idx 1 y3.2.1 v89 σ) fun v91 =>
                      sto 1 v91 y3.2.2.1 σ fun σ =>
                      k4 (y3.1, y3.2.1, y3.2.2.1, y3.2.2.2.1, ()) σ))) (
                og (ibin .add y3.2.2.1 (.val (.int .i64 1))) fun v27 =>
                R2 (y3.1, y3.2.1, v27, ()) σ)) (y2.1, y2.2.1, y2.2.2.1, (.val (.int .i64 0)), ()) σ)) (fun v σ => apan v σ R))) (
          lp (X := Tup [0, 4, 11]) (fun R5 y5 σ =>
            og (lenS y5.1) fun v94 =>
            og (ibin .lss y5.2.2.1 v94) fun v95 =>
            apick v95 (
              og (idx 1 y5.2.1 y5.2.2.1 σ) fun v100 =>
              og (lod v100 σ) fun v101 =>
              og (ibin .lss v101 (.val (.int .i64 0))) fun v102 =>
              apick v102 (
                aret (.tup [(.val (.slice none 0 0)), (.val (.int .i64 1))]) σ R) (
                og (ibin .add y5.2.2.1 (.val (.int .i64 1))) fun v97 =>
                R5 (y5.1, y5.2.1, v97, ()) σ)) (
              aret (.tup [y5.2.1, (.val (.int .i64 0))]) σ R)) (y2.1, y2.2.1, (.val (.int .i64 1)), ()) σ)) (y1.1, y1.2.1, (.val (.int .i64 0)), ()) σ)) (a0, v12, (.val (.int .i64 0)), ()) σ
def x101 : Sx := .bsl 1 [(.val (.int .i64 0))] 0 [] (.lp [0, 4, 5] (.og (.lenS (.var 0)) (.og (.ibin .lss (.var 3) (.var 0)) (.apick (.var 0) (.bsl 1 [(.val (.int .i64 0))] 1 [(0, (.lit (.val (.int .i64 (-1)))))] (.app 1 (.var 4) (.var 0) (.og (.ibin .add (.var 6) (.lit (.val (.int .i64 1)))) (.jump 0 [(.var 5), (.var 1), (.var 0)])))) (.lp [0, 4, 6] (.og (.lenS (.var 0)) (.og (.ibin .lss (.var 3) (.var 0)) (.apick (.var 0) (.og (.idx 2 (.var 2) (.var 4)) (.call 57 [(.var 0)] (.og (.aext (.var 0) 0) (.og (.aext (.var 1) 1) (.og (.ibin .neq (.var 0) (.lit (.val (.int .i64 0)))) (.apick (.var 0) (.rets [(.lit (.val (.slice none 0 0))), (.var 1)]) (.lp [0, 4, 6, 9] (.og (.idx 2 (.var 0) (.var 2)) (.og (.fldA 1 (.var 0)) (.og (.lod (.var 0)) (.og (.lenS (.var 0)) (.og (.ibin .lss (.var 7) (.var 0)) (.apick (.var 0) (.jn 125235 [0, 4, 6, 9] (.og (.ibin .add (.var 3) (.lit (.val (.int .i64 1)))) (.jump 0 [(.var 1), (.var 2), (.var 3), (.var 0)])) (.og (.idx 2 (.var 5) (.var 7)) (.og (.fldA 1 (.var 0)) (.og (.lod (.var 0)) (.og (.idx 7 (.var 0) (.var 11)) (.og (.anil (.var 0)) (.og (.fldA 0 (.var 0)) (.og (.lod (.var 0)) (.og (.ibin .neq (.var 0) (.lit (.val (.int .i64 4)))) (.apick (.var 0) (.jump 0 [(.var 13), (.var 14), (.var 15), (.var 16)]) (.og (.anil (.var 4)) (.og (.fldA 1 (.var 0)) (.og (.lod (.var 0)) (.og (.ibin .leq (.var 0) (.var 18)) (.gog (.var 0) false false (.ret (.var 8)) (.gog (.var 1) false false (.anil (.var 0)) (.gog (.var 2) false false (.fldA 1 (.var 0)) (.gog (.var 3) false false (.lod (.var 0)) (.gog (.var 4) false false (.ret (.var 21)) (.gog (.var 5) false false (.lenS (.var 0)) (.gog (.var 6) false false (.ibin .geq (.var 2) (.var 0)) (.og (.pickV (.var 7) (.lit (.val (.bool true))) (.var 0)) (.gog (.var 0) false false (.ret (.var 26)) (.gog (.var 1) false false (.ret (.var 17)) (.gog (.var 2) false false (.anil (.var 0)) (.gog (.var 3) false false (.fldA 1 (.var 0)) (.gog (.var 4) false false (.lod (.var 0)) (.gog (.var 5) false false (.idx 1 (.var 4) (.var 0)) (.gog (.var 6) false false (.lod (.var 0)) (.gog (.var 7) false false (.ibin .geq (.var 0) (.lit (.val (.int .i64 0)))) (.og (.pickV (.var 8) (.lit (.val (.bool true))) (.var 0)) (.apick (.var 0) (.rets [(.lit (.val (.slice none 0 0))), (.lit (.val (.int .i64 1)))]) (.og (.anil (.var 25)) (.og (.fldA 1 (.var 0)) (.og (.lod (.var 0)) (.og (.idx 1 (.var 38) (.var 0)) (.sto 1 (.var 0) (.var 40) (.jump 0 [(.var 38), (.var 39), (.var 40), (.var 41)])))))))))))))))))))))))))))))))))))))) (.og (.ibin .add (.var 7) (.lit (.val (.int .i64 1)))) (.jump 1 [(.var 6), (.var 7), (.var 0)])))))))) [(.var 7), (.var 8), (.var 9), (.lit (.val (.int .i64 0)))]))))))) (.lp [0, 4, 11] (.og (.lenS (.var 0)) (.og (.ibin .lss (.var 3) (.var 0)) (.apick (.var 0) (.og (.idx 1 (.var 3) (.var 4)) (.og (.lod (.var 0)) (.og (.ibin .lss (.var 0) (.lit (.val (.int .i64 0)))) (.apick (.var 0) (.rets [(.lit (.val (.slice none 0 0))), (.lit (.val (.int .i64 1)))]) (.og (.ibin .add (.var 7) (.lit (.val (.int .i64 1)))) (.jump 0 [(.var 6), (.var 7), (.var 0)])))))) (.rets [(.var 3), (.lit (.val (.int .i64 0)))])))) [(.var 2), (.var 3), (.lit (.val (.int .i64 1)))])))) [(.var 2), (.var 3), (.lit (.val (.int .i64 0)))])))) [(.var 1), (.var 0), (.lit (.val (.int .i64 0)))])
set_option maxRecDepth 1000000 in
theorem x101_ok : okF TT Tryz.f101 1 x101 = true := by decide +kernel
set_option maxRecDepth 1000000 in
theorem s_spec_l10Around_ok {a0 : AV} {σ : AH} {R : AEnd → AH → Prop} (h : s_spec_l10Around a0 σ R) : acall TP fn_spec_l10Around [a0] σ R :=
  acall_okF (ρ := [a0]) TT_ok Tryz.func101 rfl x101 x101_ok rfl h

/-- loop.example/g00349/spec.l10Locals -/
def s_spec_l10Locals (a0 a1 a2 : AV) (σ : AH) (R : AEnd → AH → Prop) : Prop :=
  lp (X := Tup [0, 1, 2, 7]) (fun R1 y1 σ =>
    og (idx 2 y1.1 y1.2.2.1 σ) fun v13 =>
    og (fldA 1 v13) fun v14 =>
    og (lod v14 σ) fun v15 =>
    og (lenS v15) fun v16 =>
    og (ibin .lss y1.2.2.2.1 v16) fun v17 =>
    apick v17 (
      og (idx 2 y1.1 y1.2.2.1 σ) fun v22 =>
      og (fldA 1 v22) fun v23 =>
      og (lod v23 σ) fun v24 =>
      og (idx 7 v24 y1.2.2.2.1 σ) fun v26 =>
      jn (X := Tup [0, 1, 2, 7, 9]) (fun x2 σ =>
          og (aun .not x2.2.2.2.2.1) fun v80 =>
          apick v80 (
            aret (.val (.int .i64 3)) σ R) (
            og (ibin .add x2.2.2.2.1 (.val (.int .i64 1))) fun v19 =>
            R1 (x2.1, x2.2.1, x2.2.2.1, v19, ()) σ)) fun k2 =>
        og (anil v26) fun v28 =>
        og (fldA 0 v28) fun v29 =>
        og (lod v29 σ) fun v30 =>
        jn (X := Tup [0, 1, 2, 7, 8, 9, 30, 31]) (fun x3 σ =>
            apick x3.2.2.2.2.2.2.2.1 (
              og (anil x3.2.2.2.2.1) fun v39 =>
              og (fldA 1 v39) fun v40 =>
              og (lod v40 σ) fun v41 =>
              og (anil x3.2.2.2.2.1) fun v43 =>
              og (fldA 2 v43) fun v44 =>
              og (lod v44 σ) fun v45 =>
              acall TP fn_spec_l10Local [x3.1, x3.2.1, x3.2.2.1, v41, v45] σ (onr (fun v46 σ =>
              (True) ∧
              k2 (x3.1, x3.2.1, x3.2.2.1, x3.2.2.2.1, v46, ()) σ) (fun v σ => apan v σ R))) (
              og (ibin .eql x3.2.2.2.2.2.2.1 (.val (.int .i64 15))) fun v48 =>
              apick v48 (
                og (anil x3.2.2.2.2.1) fun v53 =>
                og (fldA 1 v53) fun v54 =>
                og (lod v54 σ) fun v55 =>
                og (anil x3.2.2.2.2.1) fun v57 =>
                og (fldA 2 v57) fun v58 =>
                og (lod v58 σ) fun v59 =>
                acall TP fn_spec_l10Local [x3.1, x3.2.1, x3.2.2.1, v55, v59] σ (onr (fun v60 σ =>
                (True) ∧
                og (gval v60 true false (some x3.1)) fun v62 =>
                og (gval v60 true false (some x3.2.1)) fun v63 =>
                og (gval v60 true false (some x3.2.2.1)) fun v64 =>
                og (gval v60 true false (some x3.2.2.2.2.1)) fun v65 =>
                og (gval v60 true false (anil v65)) fun v66 =>
                og (gval v60 true false (fldA 3 v66)) fun v67 =>
                og (gval v60 true false (lod v67 σ)) fun v68 =>
                og (gval v60 true false (some x3.2.2.2.2.1)) fun v69 =>
                og (gval v60 true false (anil v69)) fun v70 =>
                og (gval v60 true false (fldA 4 v70)) fun v71 =>
                og (gval v60 true false (lod v71 σ)) fun v72 =>
                gpick v60 (
                  acall TP fn_spec_l10Local [v62, v63, v64, v68, v72] σ (onr (fun v73 σ =>
                  (True) ∧
                  k2 (x3.1, x3.2.1, x3.2.2.1, x3.2.2.2.1, v73, ()) σ) (fun v σ => apan v σ R))) (
                  k2 (x3.1, x3.2.1, x3.2.2.1, x3.2.2.2.1, (.val (.bool false)), ()) σ) (False)) (fun v σ => apan v σ R))) (
                og (ibin .eql x3.2.2.2.2.2.2.1 (.val (.int .i64 9))) fun v76 =>
                apick v76 (
                  og (ibin .gtr x3.2.2.1 (.val (.int .i64 0))) fun v78 =>
                  apick v78 (
                    aret (.val (.int .i64 1)) σ R) (
                    k2 (x3.1, x3.2.1, x3.2.2.1, x3.2.2.2.1, x3.2.2.2.2.2.1, ()) σ)) (
                  k2 (x3.1, x3.2.1, x3.2.2.1, x3.2.2.2.1, x3.2.2.2.2.2.1, ()) σ)))) fun k3 =>
          og (ibin .eql v30 (.val (.int .i64 2))) fun v32 =>
          apick v32 (
            k3 (y1.1, y1.2.1, y1.2.2.1, y1.2.2.2.1, v26, (.val (.bool true)), v30, v32, ()) σ) (
            og (ibin .eql v30 (.val (.int .i64 14))) fun v33 =>
            apick v33 (
              k3 (y1.1, y1.2.1, y1.2.2.1, y1.2.2.2.1, v26, (.val (.bool true)), v30, v33, ()) σ) (
              og (ibin .eql v30 (.val (.int .i64 16))) fun v34 =>
              k3 (y1.1, y1.2.1, y1.2.2.1, y1.2.2.2.1, v26, (.val (.bool true)), v30, v34, ()) σ))) (
      aret (.val (.int .i64 0)) σ R)) (a0, a1, a2, (.val (.int .i64 0)), ()) σ
def x102 : Sx := .lp [0, 1, 2, 7] (.og (.idx 2 (.var 0) (.var 2)) (.og (.fldA 1 (.var 0)) (.og (.lod (.var 0)) (.og (.lenS (.var 0)) (.og (.ibin .lss (.var 7) (.var 0)) (.apick (.var 0) (.og (.idx 2 (.var 5) (.var 7)) (.og (.fldA 1 (.var 0)) (.og (.lod (.var 0)) (.og (.idx 7 (.var 0) (.var 11)) (.jn 3367 [0, 1, 2, 7, 9] (.og (.aun .not (.var 4)) (.apick (.var 0) (.ret (.lit (.val (.int .i64 3)))) (.og (.ibin .add (.var 4) (.lit (.val (.int .i64 1)))) (.jump 0 [(.var 2), (.var 3), (.var 4), (.var 0)])))) (.og (.anil (.var 0)) (.og (.fldA 0 (.var 0)) (.og (.lod (.var 0)) (.jn 26933 [0, 1, 2, 7, 8, 9, 30, 31] (.apick (.var 7) (.ord [0, 1, 2, 3, 4, 5, 6, 7, 8, 9, 10, 11, 12] [0, 0, 0, 0, 8, 24, 56, 0, 128, 384, 896, 2047, 4095] (.og (.anil (.var 4)) (.og (.fldA 1 (.var 0)) (.og (.lod (.var 0)) (.og (.anil (.var 7)) (.og (.fldA 2 (.var 0)) (.og (.lod (.var 0)) (.call 145 [(.var 6), (.var 7), (.var 8), (.var 3), (.var 0)] (.wat [] (.jump 0 [(.var 7), (.var 8), (.var 9), (.var 10), (.var 0)])))))))))) (.og (.ibin .eql (.var 6) (.lit (.val (.int .i64 15)))) (.apick (.var 0) (.ord [0, 1, 2, 3, 4, 5, 6, 7, 8, 9, 10, 11, 12, 13, 14, 15, 16, 17, 18, 19, 20, 21, 22, 23, 24, 25, 26] [0, 0, 0, 0, 8, 24, 56, 0, 128, 384, 896, 2047, 4095, 8191, 8191, 8191, 8191, 73727, 204799, 466943, 8191, 1056767, 3153919, 7348223, 16777215, 33554431, 67108863] (.og (.anil (.var 5)) (.og (.fldA 1 (.var 0)) (.og (.lod (.var 0)) (.og (.anil (.var 8)) (.og (.fldA 2 (.var 0)) (.og (.lod (.var 0)) (.call 145 [(.var 7), (.var 8), (.var 9), (.var 3), (.var 0)] (.wat [] (.gog (.var 0) true false (.ret (.var 8)) (.gog (.var 1) true false (.ret (.var 10)) (.gog (.var 2) true false (.ret (.var 12)) (.gog (.var 3) true false (.ret (.var 15)) (.gog (.var 4) true false (.anil (.var 0)) (.gog (.var 5) true false (.fldA 3 (.var 0)) (.gog (.var 6) true false (.lod (.var 0)) (.gog (.var 7) true false (.ret (.var 19)) (.gog (.var 8) true false (.anil (.var 0)) (.gog (.var 9) true false (.fldA 4 (.var 0)) (.gog (.var 10) true false (.lod (.var 0)) (.gpick (.var 11) (.call 145 [(.var 10), (.var 9), (.var 8), (.var 4), (.var 0)] (.wat [] (.jump 0 [(.var 20), (.var 21), (.var 22), (.var 23), (.var 0)]))) (.jump 0 [(.var 19), (.var 20), (.var 21), (.var 22), (.lit (.val (.bool false)))]) (.no)))))))))))))))))))))) (.og (.ibin .eql (.var 7) (.lit (.val (.int .i64 9)))) (.apick (.var 0) (.og (.ibin .gtr (.var 4) (.lit (.val (.int .i64 0)))) (.apick (.var 0) (.ret (.lit (.val (.int .i64 1)))) (.jump 0 [(.var 3), (.var 4), (.var 5), (.var 6), (.var 8)]))) (.jump 0 [(.var 2), (.var 3), (.var 4), (.var 5), (.var 7)])))))) (.og (.ibin .eql (.var 0) (.lit (.val (.int .i64 2)))) (.apick (.var 0) (.jump 0 [(.var 13), (.var 14), (.var 15), (.var 16), (.var 4), (.lit (.val (.bool true))), (.var 1), (.var 0)]) (.og (.ibin .eql (.var 1) (.lit (.val (.int .i64 14)))) (.apick (.var 0) (.jump 0 [(.var 14), (.var 15), (.var 16), (.var 17), (.var 5), (.lit (.val (.bool true))), (.var 2), (.var 0)]) (.og (.ibin .eql (.var 2) (.lit (.val (.int .i64 16)))) (.jump 0 [(.var 15), (.var 16), (.var 17), (.var 18), (.var 6), (.lit (.val (.bool true))), (.var 3), (.var 0)]))))))))))))))) (.ret (.lit (.val (.int .i64 0)))))))))) [(.var 2), (.var 1), (.var 0), (.lit (.val (.int .i64 0)))]
set_option maxRecDepth 1000000 in
theorem x102_ok : okF TT Tryz.f102 3 x102 = true := by decide +kernel
set_option maxRecDepth 1000000 in
theorem s_spec_l10Locals_ok {a0 a1 a2 : AV} {σ : AH} {R : AEnd → AH → Prop} (h : s_spec_l10Locals a0 a1 a2 σ R) : acall TP fn_spec_l10Locals [a0, a1, a2] σ R :=
  acall_okF (ρ := [a2, a1, a0]) TT_ok Tryz.func102 rfl x102 x102_ok rfl h

/-- loop.example/g00349/impl.opsFault -/
def s_impl_opsFault (a0 : AV) (σ : AH) (R : AEnd → AH → Prop) : Prop :=
  og (lenS a0) fun v7 =>
  og (ibin .gtr v7 (.val (.int .i64 60))) fun v8 =>
  apick v8 (
    aret (.val (.int .i64 2)) σ R) (
    og (lenS a0) fun v10 =>
    lp (X := Tup [9, 10, 11]) (fun R1 y1 σ =>
      og (ibin .lss y1.2.2.1 y1.2.1) fun v12 =>
      apick v12 (
        og (idx 2 y1.1 y1.2.2.1 σ) fun v13 =>
        og (lodA 2 v13 σ) fun v14 =>
        new [(.val (.int .i64 0)), (.val (.slice none 0 0))] σ fun v4 σ =>
        sto 2 v4 v14 σ fun σ =>
        frz v4 σ fun f4 σ =>
        og (lodA 2 f4 σ) fun v15 =>
        acall TP fn_impl_blockFault [v15] σ (onr (fun v16 σ =>
        og (ibin .neq v16 (.val (.int .i64 0))) fun v18 =>
        apick v18 (
          aret v16 σ R) (
          og (ibin .add y1.2.2.1 (.val (.int .i64 1))) fun v20 =>
          R1 (y1.1, y1.2.1, v20, ()) σ)) (fun v σ => apan v σ R))) (
        aret (.val (.int .i64 0)) σ R)) (a0, v10, (.val (.int .i64 0)), ()) σ)
def x103 : Sx := .og (.lenS (.var 0)) (.og (.ibin .gtr (.var 0) (.lit (.val (.int .i64 60)))) (.apick (.var 0) (.ret (.lit (.val (.int .i64 2)))) (.og (.lenS (.var 2)) (.lp [9, 10, 11] (.og (.ibin .lss (.var 2) (.var 1)) (.apick (.var 0) (.og (.idx 2 (.var 1) (.var 3)) (.og (.lodA 2 (.var 0)) (.new [(.val (.int .i64 0)), (.val (.slice none 0 0))] (.sto 2 (.var 0) (.var 1) (.frz 6 (.var 0) (.og (.lodA 2 (.var 0)) (.call 50 [(.var 0)] (.og (.ibin .neq (.var 0) (.lit (.val (.int .i64 0)))) (.apick (.var 0) (.ret (.var 1)) (.og (.ibin .add (.var 10) (.lit (.val (.int .i64 1)))) (.jump 0 [(.var 9), (.var 10), (.var 0)]))))))))))) (.ret (.lit (.val (.int .i64 0)))))) [(.var 3), (.var 0), (.lit (.val (.int .i64 0)))]))))
set_option maxRecDepth 1000000 in
theorem x103_ok : okF TT Tryz.f103 1 x103 = true := by decide +kernel
set_option maxRecDepth 1000000 in
theorem s_impl_opsFault_ok {a0 : AV} {σ : AH} {R : AEnd → AH → Prop} (h : s_impl_opsFault a0 σ R) : acall TP fn_impl_opsFault [a0] σ R :=
  acall_okF (ρ := [a0]) TT_ok Tryz.func103 rfl x103 x103_ok rfl h

/-- (loop.example/g00349/impl.Op).localsIn -/
def s_impl_Op_localsIn (a0 : AV) (σ : AH) (R : AEnd → AH → Prop) : Prop :=
  abox a0 σ fun v1 σ =>
  frz v1 σ fun f1 σ =>
  og (fldA 0 f1) fun v3 =>
  og (lod v3 σ) fun v4 =>
  jn (X := Tup [1, 4, 5]) (fun x1 σ =>
      apick x1.2.2.1 (
        og (fldA 1 x1.1) fun v9 =>
        og (lod v9 σ) fun v10 =>
        og (fldA 2 x1.1) fun v11 =>
        og (lod v11 σ) fun v12 =>
        og (bld [(.val (.int .i64 0)), (.val (.int .i64 0))] [(0, 1), (1, 1)] [(0, v10), (1, v12)]) fun v13 =>
        bsl 2 [(.val (.int .i64 0)), (.val (.int .i64 0))] 1 [(0, v13)] σ fun v14 σ =>
        aret v14 σ R) (
        og (ibin .eql x1.2.1 (.val (.int .i64 15))) fun v16 =>
        apick v16 (
          og (fldA 1 x1.1) fun v17 =>
          og (lod v17 σ) fun v18 =>
          og (fldA 2 x1.1) fun v19 =>
          og (lod v19 σ) fun v20 =>
          og (bld [(.val (.int .i64 0)), (.val (.int .i64 0))] [(0, 1), (1, 1)] [(0, v18), (1, v20)]) fun v21 =>
          og (fldA 3 x1.1) fun v22 =>
          og (lod v22 σ) fun v23 =>
          og (fldA 4 x1.1) fun v24 =>
          og (lod v24 σ) fun v25 =>
          og (bld [(.val (.int .i64 0)), (.val (.int .i64 0))] [(0, 1), (1, 1)] [(0, v23), (1, v25)]) fun v26 =>
          bsl 2 [(.val (.int .i64 0)), (.val (.int .i64 0))] 2 [(0, v21), (1, v26)] σ fun v27 σ =>
          aret v27 σ R) (
          aret (.val (.slice none 0 0)) σ R))) fun k1 =>
    og (ibin .eql v4 (.val (.int .i64 2))) fun v6 =>
    apick v6 (
      k1 (f1, v4, v6, ()) σ) (
      og (ibin .eql v4 (.val (.int .i64 14))) fun v7 =>
      apick v7 (
        k1 (f1, v4, v7, ()) σ) (
        og (ibin .eql v4 (.val (.int .i64 16))) fun v8 =>
        k1 (f1, v4, v8, ()) σ))
def x104 : Sx := .box (.var 0) (.frz 1 (.var 0) (.og (.fldA 0 (.var 0)) (.og (.lod (.var 0)) (.jn 53 [1, 4, 5] (.apick (.var 2) (.og (.fldA 1 (.var 0)) (.og (.lod (.var 0)) (.og (.fldA 2 (.var 2)) (.og (.lod (.var 0)) (.og (.bld [(.val (.int .i64 0)), (.val (.int .i64 0))] [(0, 1), (1, 1)] [(0, (.var 2)), (1, (.var 0))]) (.bsl 2 [(.val (.int .i64 0)), (.val (.int .i64 0))] 1 [(0, (.var 0))] (.ret (.var 0)))))))) (.og (.ibin .eql (.var 1) (.lit (.val (.int .i64 15)))) (.apick (.var 0) (.og (.fldA 1 (.var 1)) (.og (.lod (.var 0)) (.og (.fldA 2 (.var 3)) (.og (.lod (.var 0)) (.og (.bld [(.val (.int .i64 0)), (.val (.int .i64 0))] [(0, 1), (1, 1)] [(0, (.var 2)), (1, (.var 0))]) (.og (.fldA 3 (.var 6)) (.og (.lod (.var 0)) (.og (.fldA 4 (.var 8)) (.og (.lod (.var 0)) (.og (.bld [(.val (.int .i64 0)), (.val (.int .i64 0))] [(0, 1), (1, 1)] [(0, (.var 2)), (1, (.var 0))]) (.bsl 2 [(.val (.int .i64 0)), (.val (.int .i64 0))] 2 [(0, (.var 5)), (1, (.var 0))] (.ret (.var 0))))))))))))) (.ret (.lit (.val (.slice none 0 0))))))) (.og (.ibin .eql (.var 0) (.lit (.val (.int .i64 2)))) (.apick (.var 0) (.jump 0 [(.var 3), (.var 1), (.var 0)]) (.og (.ibin .eql (.var 1) (.lit (.val (.int .i64 14)))) (.apick (.var 0) (.jump 0 [(.var 4), (.var 2), (.var 0)]) (.og (.ibin .eql (.var 2) (.lit (.val (.int .i64 16)))) (.jump 0 [(.var 5), (.var 3), (.var 0)]))))))))))
set_option maxRecDepth 1000000 in
theorem x104_ok : okF TT Tryz.f104 1 x104 = true := by decide +kernel
set_option maxRecDepth 1000000 in
theorem s_impl_Op_localsIn_ok {a0 : AV} {σ : AH} {R : AEnd → AH → Prop} (h : s_impl_Op_localsIn a0 σ R) : acall TP fn_impl_Op_localsIn [a0] σ R :=
  acall_okF (ρ := [a0]) TT_ok Tryz.func104 rfl x104 x104_ok rfl h

/-- loop.example/g00349/impl.isLocal -/
def s_impl_isLocal (a0 a1 a2 a3 a4 : AV) (σ : AH) (R : AEnd → AH → Prop) : Prop :=
  lp (X := Tup [0, 1, 3, 4, 11]) (fun R1 y1 σ =>
    og (ibin .gtr y1.2.2.1 (.val (.int .i64 0))) fun v14 =>
    og (gval v14 true false (some y1.2.2.2.2.1)) fun v16 =>
    og (gval v14 true false (ibin .gtr v16 (.val (.int .i64 0)))) fun v17 =>
    og (pickV v14 v17 (.val (.bool false))) fun v18 =>
    apick v18 (
      og (idx 1 y1.2.1 y1.2.2.2.2.1 σ) fun v23 =>
      og (lod v23 σ) fun v24 =>
      og (ibin .sub y1.2.2.1 (.val (.int .i64 1))) fun v20 =>
      R1 (y1.1, y1.2.1, v20, y1.2.2.2.1, v24, ()) σ) (
      og (ibin .gtr y1.2.2.2.2.1 (.val (.int .i64 0))) fun v26 =>
      og (gval v26 true false (some y1.2.2.2.1)) fun v28 =>
      og (gval v26 true false (some y1.1)) fun v29 =>
      og (gval v26 true false (some y1.2.2.2.2.1)) fun v30 =>
      og (gval v26 true false (idx 2 v29 v30 σ)) fun v31 =>
      og (gval v26 true false (fldA 0 v31)) fun v32 =>
      og (gval v26 true false (lod v32 σ)) fun v33 =>
      og (gval v26 true false (ibin .lss v28 v33)) fun v34 =>
      og (pickV v26 v34 (.val (.bool false))) fun v35 =>
      aret v35 σ R)) (a0, a1, a3, a4, a2, ()) σ
def x105 : Sx := .lp [0, 1, 3, 4, 11] (.og (.ibin .gtr (.var 2) (.lit (.val (.int .i64 0)))) (.gog (.var 0) true false (.ret (.var 5)) (.gog (.var 1) true false (.ibin .gtr (.var 0) (.lit (.val (.int .i64 0)))) (.og (.pickV (.var 2) (.var 0) (.lit (.val (.bool false)))) (.apick (.var 0) (.og (.idx 1 (.var 5) (.var 8)) (.og (.lod (.var 0)) (.og (.ibin .sub (.var 8) (.lit (.val (.int .i64 1)))) (.jump 0 [(.var 7), (.var 8), (.var 0), (.var 10), (.var 1)])))) (.og (.ibin .gtr (.var 8) (.lit (.val (.int .i64 0)))) (.gog (.var 0) true false (.ret (.var 8)) (.gog (.var 1) true false (.ret (.var 6)) (.gog (.var 2) true false (.ret (.var 11)) (.gog (.var 3) true false (.idx 2 (.var 1) (.var 0)) (.gog (.var 4) true false (.fldA 0 (.var 0)) (.gog (.var 5) true false (.lod (.var 0)) (.gog (.var 6) true false (.ibin .lss (.var 5) (.var 0)) (.og (.pickV (.var 7) (.var 0) (.lit (.val (.bool false)))) (.ret (.var 0)))))))))))))))) [(.var 4), (.var 3), (.var 1), (.var 0), (.var 2)]
set_option maxRecDepth 1000000 in
theorem x105_ok : okF TT Tryz.f105 5 x105 = true := by decide +kernel
set_option maxRecDepth 1000000 in
theorem s_impl_isLocal_ok {a0 a1 a2 a3 a4 : AV} {σ : AH} {R : AEnd → AH → Prop} (h : s_impl_isLocal a0 a1 a2 a3 a4 σ R) : acall TP fn_impl_isLocal [a0, a1, a2, a3, a4] σ R :=
  acall_okF (ρ := [a4, a3, a2, a1, a0]) TT_ok Tryz.func105 rfl x105 x105_ok rfl h

/-- loop.example/g00349/laws.szDatumS -/
def s_laws_szDatumS (a0 a1 : AV) (σ : AH) (R : AEnd → AH → Prop) : Prop :=
  og (lenS a0) fun v8 =>
  og (ibin .sub a1 v8) fun v9 =>
  og (ibin .lss v9 (.val (.int .i64 0))) fun v11 =>
  apick v11 (
    aret (.val (.int .i64 (-1))) σ R) (
    lp (X := Tup [0, 1, 5]) (fun R1 y1 σ =>
      og (lenS y1.1) fun v14 =>
      og (ibin .lss y1.2.2.1 v14) fun v15 =>
      apick v15 (
        og (idx 4 y1.1 y1.2.2.1 σ) fun v20 =>
        og (lodA 4 v20 σ) fun v21 =>
        acall TP fn_laws_szDatum [v21, y1.2.1] σ (onr (fun v23 σ =>
        og (ibin .lss v23 (.val (.int .i64 0))) fun v25 =>
        apick v25 (
          aret (.val (.int .i64 (-1))) σ R) (
          og (ibin .add y1.2.2.1 (.val (.int .i64 1))) fun v17 =>
          R1 (y1.1, v23, v17, ()) σ)) (fun v σ => apan v σ R))) (
        aret y1.2.1 σ R)) (a0, v9, (.val (.int .i64 0)), ()) σ)
def x113 : Sx := .og (.lenS (.var 1)) (.og (.ibin .sub (.var 1) (.var 0)) (.og (.ibin .lss (.var 0) (.lit (.val (.int .i64 0)))) (.apick (.var 0) (.ret (.lit (.val (.int .i64 (-1))))) (.lp [0, 1, 5] (.og (.lenS (.var 0)) (.og (.ibin .lss (.var 3) (.var 0)) (.apick (.var 0) (.og (.idx 4 (.var 2) (.var 4)) (.og (.lodA 4 (.var 0)) (.call 149 [(.var 0), (.var 5)] (.og (.ibin .lss (.var 0) (.lit (.val (.int .i64 0)))) (.apick (.var 0) (.ret (.lit (.val (.int .i64 (-1))))) (.og (.ibin .add (.var 8) (.lit (.val (.int .i64 1)))) (.jump 0 [(.var 7), (.var 2), (.var 0)]))))))) (.ret (.var 3))))) [(.var 4), (.var 1), (.lit (.val (.int .i64 0)))]))))
set_option maxRecDepth 1000000 in
theorem x113_ok : okF TT Tryz.f113 2 x113 = true := by decide +kernel
set_option maxRecDepth 1000000 in
theorem s_laws_szDatumS_ok {a0 a1 : AV} {σ : AH} {R : AEnd → AH → Prop} (h : s_laws_szDatumS a0 a1 σ R) : acall TP fn_laws_szDatumS [a0, a1] σ R :=
  acall_okF (ρ := [a1, a0]) TT_ok Tryz.func113 rfl x113 x113_ok rfl h

/-- loop.example/g00349/laws.toDatumS -/
def s_laws_toDatumS (a0 : AV) (σ : AH) (R : AEnd → AH → Prop) : Prop :=
  og (lenS a0) fun v6 =>
  amake TT ty_LRiiisE v6 v6 σ fun v7 σ =>
  lp (X := Tup [0, 3, 4]) (fun R1 y1 σ =>
    og (lenS y1.1) fun v10 =>
    og (ibin .lss y1.2.2.1 v10) fun v11 =>
    apick v11 (
      og (idx 4 y1.1 y1.2.2.1 σ) fun v18 =>
      og (lodA 4 v18 σ) fun v19 =>
      acall TP fn_laws_toDatum [v19] σ (onr (fun v20 σ =>
      og (idx 4 y1.2.1 y1.2.2.1 σ) fun v21 =>
      sto 4 v21 v20 σ fun σ =>
      og (ibin .add y1.2.2.1 (.val (.int .i64 1))) fun v13 =>
      R1 (y1.1, y1.2.1, v13, ()) σ) (fun v σ => apan v σ R))) (
      aret y1.2.1 σ R)) (a0, v7, (.val (.int .i64 0)), ()) σ
def x118 : Sx := .og (.lenS (.var 0)) (.mks 85 (.var 0) (.var 0) (.lp [0, 3, 4] (.og (.lenS (.var 0)) (.og (.ibin .lss (.var 3) (.var 0)) (.apick (.var 0) (.og (.idx 4 (.var 2) (.var 4)) (.og (.lodA 4 (.var 0)) (.call 158 [(.var 0)] (.og (.idx 4 (.var 6) (.var 7)) (.sto 4 (.var 0) (.var 1) (.og (.ibin .add (.var 8) (.lit (.val (.int .i64 1)))) (.jump 0 [(.var 7), (.var 8), (.var 0)]))))))) (.ret (.var 3))))) [(.var 2), (.var 0), (.lit (.val (.int .i64 0)))]))
set_option maxRecDepth 1000000 in
theorem x118_ok : okF TT Tryz.f118 1 x118 = true := by decide +kernel
set_option maxRecDepth 1000000 in
theorem s_laws_toDatumS_ok {a0 : AV} {σ : AH} {R : AEnd → AH → Prop} (h : s_laws_toDatumS a0 σ R) : acall TP fn_laws_toDatumS [a0] σ R :=
  acall_okF (ρ := [a0]) TT_ok Tryz.func118 rfl x118 x118_ok rfl h

/-- loop.example/g00349/laws.eqDatumS -/
def s_laws_eqDatumS (a0 a1 : AV) (σ : AH) (R : AEnd → AH → Prop) : Prop :=
  og (lenS a0) fun v7 =>
  og (lenS a1) fun v9 =>
  og (ibin .neq v7 v9) fun v10 =>
  apick v10 (
    aret (.val (.bool false)) σ R) (
    lp (X := Tup [0, 1, 5]) (fun R1 y1 σ =>
      og (lenS y1.1) fun v13 =>
      og (ibin .lss y1.2.2.1 v13) fun v14 =>
      apick v14 (
        og (idx 4 y1.1 y1.2.2.1 σ) fun v19 =>
        og (lodA 4 v19 σ) fun v20 =>
        og (idx 4 y1.2.1 y1.2.2.1 σ) fun v23 =>
        og (lodA 4 v23 σ) fun v24 =>
        acall TP fn_laws_eqDatum [v20, v24] σ (onr (fun v25 σ =>
        (True) ∧
        og (aun .not v25) fun v26 =>
        apick v26 (
          aret (.val (.bool false)) σ R) (
          og (ibin .add y1.2.2.1 (.val (.int .i64 1))) fun v16 =>
          R1 (y1.1, y1.2.1, v16, ()) σ)) (fun v σ => apan v σ R))) (
        aret (.val (.bool true)) σ R)) (a0, a1, (.val (.int .i64 0)), ()) σ)
def x125 : Sx := .og (.lenS (.var 1)) (.og (.lenS (.var 1)) (.og (.ibin .neq (.var 1) (.var 0)) (.apick (.var 0) (.ret (.lit (.val (.bool false)))) (.lp [0, 1, 5] (.og (.lenS (.var 0)) (.og (.ibin .lss (.var 3) (.var 0)) (.apick (.var 0) (.ord [0, 1, 2, 3, 4, 5, 6, 7, 8, 9] [0, 0, 3, 7, 0, 0, 48, 112, 255, 511] (.og (.idx 4 (.var 2) (.var 4)) (.og (.lodA 4 (.var 0)) (.og (.idx 4 (.var 5) (.var 6)) (.og (.lodA 4 (.var 0)) (.call 168 [(.var 2), (.var 0)] (.wat [] (.og (.aun .not (.var 0)) (.apick (.var 0) (.ret (.lit (.val (.bool false)))) (.og (.ibin .add (.var 10) (.lit (.val (.int .i64 1)))) (.jump 0 [(.var 9), (.var 10), (.var 0)]))))))))))) (.ret (.lit (.val (.bool true))))))) [(.var 4), (.var 3), (.lit (.val (.int .i64 0)))]))))
set_option maxRecDepth 1000000 in
theorem x125_ok : okF TT Tryz.f125 2 x125 = true := by decide +kernel
set_option maxRecDepth 1000000 in
theorem s_laws_eqDatumS_ok {a0 a1 : AV} {σ : AH} {R : AEnd → AH → Prop} (h : s_laws_eqDatumS a0 a1 σ R) : acall TP fn_laws_eqDatumS [a0, a1] σ R :=
  acall_okF (ρ := [a1, a0]) TT_ok Tryz.func125 rfl x125 x125_ok rfl h

/-- loop.example/g00349/spec.l9All -/
def s_spec_l9All (a0 : AV) (σ : AH) (R : AEnd → AH → Prop) : Prop :=
  og (anil a0) fun v4 =>
  og (fldA 1 v4) fun v5 =>
  og (lod v5 σ) fun v6 =>
  og (anil a0) fun v8 =>
  og (fldA 2 v8) fun v9 =>
  og (lod v9 σ) fun v10 =>
  og (anil a0) fun v12 =>
  og (fldA 3 v12) fun v13 =>
  og (lod v13 σ) fun v14 =>
  og (anil a0) fun v16 =>
  og (fldA 4 v16) fun v17 =>
  og (lod v17 σ) fun v18 =>
  og (bslR 1 [(.val (.int .i64 0))] 4 [(0, v6), (1, v10), (2, v14), (3, v18)]) fun v19 =>
  aret v19 σ R
def x126 : Sx := .ord [0, 1, 2, 3, 4, 5, 6, 7, 8, 9, 10, 11, 12, 13, 14, 15, 16, 17] [0, 1, 3, 7, 0, 16, 48, 112, 0, 256, 768, 1792, 0, 4096, 12288, 28672, 65535, 131071] (.og (.anil (.var 0)) (.og (.fldA 1 (.var 0)) (.og (.lod (.var 0)) (.og (.anil (.var 3)) (.og (.fldA 2 (.var 0)) (.og (.lod (.var 0)) (.og (.anil (.var 6)) (.og (.fldA 3 (.var 0)) (.og (.lod (.var 0)) (.og (.anil (.var 9)) (.og (.fldA 4 (.var 0)) (.og (.lod (.var 0)) (.og (.bslR 1 [(.val (.int .i64 0))] 4 [(0, (.var 9)), (1, (.var 6)), (2, (.var 3)), (3, (.var 0))]) (.ret (.var 0)))))))))))))))
set_option maxRecDepth 1000000 in
theorem x126_ok : okF TT Tryz.f126 1 x126 = true := by decide +kernel
set_option maxRecDepth 1000000 in
theorem s_spec_l9All_ok {a0 : AV} {σ : AH} {R : AEnd → AH → Prop} (h : s_spec_l9All a0 σ R) : acall TP fn_spec_l9All [a0] σ R :=
  acall_okF (ρ := [a0]) TT_ok Tryz.func126 rfl x126 x126_ok rfl h

/-- loop.example/g00349/spec.l9Nums -/
def s_spec_l9Nums (a0 : AV) (σ : AH) (R : AEnd → AH → Prop) : Prop :=
  jn (X := Tup [3, 4]) (fun x1 σ =>
      apick x1.2.1 (
        aret (.val (.int .i64 1)) σ R) (
        jn (X := Tup [3, 10]) (fun x2 σ =>
            apick x2.2.1 (
              aret (.val (.int .i64 2)) σ R) (
              og (ibin .eql x2.1 (.val (.int .i64 16))) fun v14 =>
              apick v14 (
                aret (.val (.int .i64 3)) σ R) (
                og (ibin .eql x2.1 (.val (.int .i64 15))) fun v16 =>
                apick v16 (
                  aret (.val (.int .i64 4)) σ R) (
                  aret (.val (.int .i64 0)) σ R)))) fun k2 =>
          og (ibin .eql x1.1 (.val (.int .i64 2))) fun v11 =>
          apick v11 (
            k2 (x1.1, v11, ()) σ) (
            og (ibin .eql x1.1 (.val (.int .i64 14))) fun v12 =>
            k2 (x1.1, v12, ()) σ))) fun k1 =>
    og (ibin .eql a0 (.val (.int .i64 4))) fun v5 =>
    apick v5 (
      k1 (a0, v5, ()) σ) (
      og (ibin .eql a0 (.val (.int .i64 5))) fun v6 =>
      apick v6 (
        k1 (a0, v6, ()) σ) (
        og (ibin .eql a0 (.val (.int .i64 6))) fun v7 =>
        apick v7 (
          k1 (a0, v7, ()) σ) (
          og (ibin .eql a0 (.val (.int .i64 10))) fun v8 =>
          apick v8 (
            k1 (a0, v8, ()) σ) (
            og (ibin .eql a0 (.val (.int .i64 11))) fun v9 =>
            k1 (a0, v9, ()) σ))))
def x127 : Sx := .jn 53 [3, 4] (.apick (.var 1) (.ret (.lit (.val (.int .i64 1)))) (.jn 215 [3, 10] (.apick (.var 1) (.ret (.lit (.val (.int .i64 2)))) (.og (.ibin .eql (.var 0) (.lit (.val (.int .i64 16)))) (.apick (.var 0) (.ret (.lit (.val (.int .i64 3)))) (.og (.ibin .eql (.var 1) (.lit (.val (.int .i64 15)))) (.apick (.var 0) (.ret (.lit (.val (.int .i64 4)))) (.ret (.lit (.val (.int .i64 0))))))))) (.og (.ibin .eql (.var 0) (.lit (.val (.int .i64 2)))) (.apick (.var 0) (.jump 0 [(.var 1), (.var 0)]) (.og (.ibin .eql (.var 1) (.lit (.val (.int .i64 14)))) (.jump 0 [(.var 2), (.var 0)])))))) (.og (.ibin .eql (.var 0) (.lit (.val (.int .i64 4)))) (.apick (.var 0) (.jump 0 [(.var 1), (.var 0)]) (.og (.ibin .eql (.var 1) (.lit (.val (.int .i64 5)))) (.apick (.var 0) (.jump 0 [(.var 2), (.var 0)]) (.og (.ibin .eql (.var 2) (.lit (.val (.int .i64 6)))) (.apick (.var 0) (.jump 0 [(.var 3), (.var 0)]) (.og (.ibin .eql (.var 3) (.lit (.val (.int .i64 10)))) (.apick (.var 0) (.jump 0 [(.var 4), (.var 0)]) (.og (.ibin .eql (.var 4) (.lit (.val (.int .i64 11)))) (.jump 0 [(.var 5), (.var 0)]))))))))))
set_option maxRecDepth 1000000 in
theorem x127_ok : okF TT Tryz.f127 1 x127 = true := by decide +kernel
set_option maxRecDepth 1000000 in
theorem s_spec_l9Nums_ok {a0 : AV} {σ : AH} {R : AEnd → AH → Prop} (h : s_spec_l9Nums a0 σ R) : acall TP fn_spec_l9Nums [a0] σ R :=
  acall_okF (ρ := [a0]) TT_ok Tryz.func127 rfl x127 x127_ok rfl h

/-- loop.example/g00349/spec.l9Named -/
def s_spec_l9Named (a0 : AV) (σ : AH) (R : AEnd → AH → Prop) : Prop :=
  og (ibin .eql a0 (.val (.int .i64 3))) fun v4 =>
  og (gval v4 false false (some a0)) fun v6 =>
  og (gval v4 false false (ibin .eql v6 (.val (.int .i64 8)))) fun v7 =>
  og (pickV v4 (.val (.bool true)) v7) fun v8 =>
  og (gval v8 false false (some a0)) fun v10 =>
  og (gval v8 false false (ibin .eql v10 (.val (.int .i64 9)))) fun v11 =>
  og (pickV v8 (.val (.bool true)) v11) fun v12 =>
  aret v12 σ R
def x128 : Sx := .og (.ibin .eql (.var 0) (.lit (.val (.int .i64 3)))) (.gog (.var 0) false false (.ret (.var 1)) (.gog (.var 1) false false (.ibin .eql (.var 0) (.lit (.val (.int .i64 8)))) (.og (.pickV (.var 2) (.lit (.val (.bool true))) (.var 0)) (.gog (.var 0) false false (.ret (.var 4)) (.gog (.var 1) false false (.ibin .eql (.var 0) (.lit (.val (.int .i64 9)))) (.og (.pickV (.var 2) (.lit (.val (.bool true))) (.var 0)) (.ret (.var 0))))))))
set_option maxRecDepth 1000000 in
theorem x128_ok : okF TT Tryz.f128 1 x128 = true := by decide +kernel
set_option maxRecDepth 1000000 in
theorem s_spec_l9Named_ok {a0 : AV} {σ : AH} {R : AEnd → AH → Prop} (h : s_spec_l9Named a0 σ R) : acall TP fn_spec_l9Named [a0] σ R :=
  acall_okF (ρ := [a0]) TT_ok Tryz.func128 rfl x128 x128_ok rfl h

/-- loop.example/g00349/spec.l9Const -/
def s_spec_l9Const (a0 : AV) (σ : AH) (R : AEnd → AH → Prop) : Prop :=
  og (ibin .eql a0 (.val (.int .i64 1))) fun v4 =>
  og (gval v4 false false (some a0)) fun v6 =>
  og (gval v4 false false (ibin .eql v6 (.val (.int .i64 13)))) fun v7 =>
  og (pickV v4 (.val (.bool true)) v7) fun v8 =>
  aret v8 σ R
def x129 : Sx := .og (.ibin .eql (.var 0) (.lit (.val (.int .i64 1)))) (.gog (.var 0) false false (.ret (.var 1)) (.gog (.var 1) false false (.ibin .eql (.var 0) (.lit (.val (.int .i64 13)))) (.og (.pickV (.var 2) (.lit (.val (.bool true))) (.var 0)) (.ret (.var 0)))))
set_option maxRecDepth 1000000 in
theorem x129_ok : okF TT Tryz.f129 1 x129 = true := by decide +kernel
set_option maxRecDepth 1000000 in
theorem s_spec_l9Const_ok {a0 : AV} {σ : AH} {R : AEnd → AH → Prop} (h : s_spec_l9Const a0 σ R) : acall TP fn_spec_l9Const [a0] σ R :=
  acall_okF (ρ := [a0]) TT_ok Tryz.func129 rfl x129 x129_ok rfl h

/-- loop.example/g00349/spec.l2Sym -/
def s_spec_l2Sym (a0 : AV) (σ : AH) (R : AEnd → AH → Prop) : Prop :=
  lp (X := Tup [0, 3]) (fun R1 y1 σ =>
    og (lenStr y1.1) fun v6 =>
    og (ibin .lss y1.2.1 v6) fun v7 =>
    apick v7 (
      og (idxStr y1.1 y1.2.1) fun v12 =>
      acall TP fn_spec_l2Byte [v12] σ (onr (fun v13 σ =>
      og (aun .not v13) fun v14 =>
      apick v14 (
        aret (.val (.bool false)) σ R) (
        og (ibin .add y1.2.1 (.val (.int .i64 1))) fun v9 =>
        R1 (y1.1, v9, ()) σ)) (fun v σ => apan v σ R))) (
      og (lenStr y1.1) fun v16 =>
      acall TP fn_spec_l1In [v16, (.val (.int .i64 1)), (.val (.int .i64 12))] σ (onr (fun v17 σ =>
      aret v17 σ R) (fun v σ => apan v σ R)))) (a0, (.val (.int .i64 0)), ()) σ
def x130 : Sx := .lp [0, 3] (.og (.lenStr (.var 0)) (.og (.ibin .lss (.var 2) (.var 0)) (.apick (.var 0) (.og (.idxStr (.var 2) (.var 3)) (.call 169 [(.var 0)] (.og (.aun .not (.var 0)) (.apick (.var 0) (.ret (.lit (.val (.bool false)))) (.og (.ibin .add (.var 6) (.lit (.val (.int .i64 1)))) (.jump 0 [(.var 6), (.var 0)])))))) (.og (.lenStr (.var 2)) (.call 60 [(.var 0), (.lit (.val (.int .i64 1))), (.lit (.val (.int .i64 12)))] (.ret (.var 0))))))) [(.var 0), (.lit (.val (.int .i64 0)))]
set_option maxRecDepth 1000000 in
theorem x130_ok : okF TT Tryz.f130 1 x130 = true := by decide +kernel
set_option maxRecDepth 1000000 in
theorem s_spec_l2Sym_ok {a0 : AV} {σ : AH} {R : AEnd → AH → Prop} (h : s_spec_l2Sym a0 σ R) : acall TP fn_spec_l2Sym [a0] σ R :=
  acall_okF (ρ := [a0]) TT_ok Tryz.func130 rfl x130 x130_ok rfl h

/-- loop.example/g00349/spec.l3Fault -/
def s_spec_l3Fault (a0 : AV) (σ : AH) (R : AEnd → AH → Prop) : Prop :=
  og (lenS a0) fun v6 =>
  og (ibin .lss v6 (.val (.int .i64 1))) fun v7 =>
  og (gval v7 false false (some a0)) fun v9 =>
  og (gval v7 false false (lenS v9)) fun v10 =>
  og (gval v7 false false (ibin .gtr v10 (.val (.int .i64 80)))) fun v11 =>
  og (pickV v7 (.val (.bool true)) v11) fun v12 =>
  apick v12 (
    aret (.val (.int .i64 2)) σ R) (
    lp (X := Tup [0, 3]) (fun R1 y1 σ =>
      og (lenS y1.1) fun v15 =>
      og (ibin .lss y1.2.1 v15) fun v16 =>
      apick v16 (
        og (idx 4 y1.1 y1.2.1 σ) fun v21 =>
        acall TP fn_spec_l3Bare [v21] σ (onr (fun v23 σ =>
        og (aun .not v23) fun v24 =>
        apick v24 (
          aret (.val (.int .i64 1)) σ R) (
          jn (X := Tup [0, 3, 4, 52]) (fun x2 σ =>
              apick x2.2.2.2.1 (
                aret (.val (.int .i64 3)) σ R) (
                jn (X := Tup [0, 3, 4, 65]) (fun x3 σ =>
                    apick x3.2.2.2.1 (
                      aret (.val (.int .i64 5)) σ R) (
                      jn (X := Tup [0, 3, 88]) (fun x4 σ =>
                          apick x4.2.2.1 (
                            aret (.val (.int .i64 3)) σ R) (
                            jn (X := Tup [0, 3, 96]) (fun x5 σ =>
                                apick x5.2.2.1 (
                                  aret (.val (.int .i64 1)) σ R) (
                                  acall TP fn_spec_l3Deep [x5.1, x5.2.1] σ (onr (fun v99 σ =>
                                  og (ibin .gtr v99 (.val (.int .i64 12))) fun v100 =>
                                  apick v100 (
                                    aret (.val (.int .i64 2)) σ R) (
                                    og (ibin .add x5.2.1 (.val (.int .i64 1))) fun v18 =>
                                    R1 (x5.1, v18, ()) σ)) (fun v σ => apan v σ R)))) fun k5 =>
                              og (ibin .gtr x4.2.1 (.val (.int .i64 0))) fun v90 =>
                              og (gval v90 true false (some x4.1)) fun v92 =>
                              og (gval v90 true false (some x4.2.1)) fun v93 =>
                              gpick v90 (
                                acall TP fn_spec_l3Line [v92, v93] σ (onr (fun v94 σ =>
                                og (aun .not v94) fun v95 =>
                                k5 (x4.1, x4.2.1, v95, ()) σ) (fun v σ => apan v σ R))) (
                                k5 (x4.1, x4.2.1, (.val (.bool false)), ()) σ) (False))) fun k4 =>
                        og (ibin .eql x3.2.1 (.val (.int .i64 0))) fun v67 =>
                        og (gval v67 true false (some x3.2.2.1)) fun v69 =>
                        og (gval v67 true false (anil v69)) fun v70 =>
                        og (gval v67 true false (fldA 1 v70)) fun v71 =>
                        og (gval v67 true false (lod v71 σ)) fun v72 =>
                        og (gval v67 true false (ibin .neq v72 (.val (.int .i64 (-1))))) fun v73 =>
                        og (pickV v67 v73 (.val (.bool false))) fun v74 =>
                        og (gval v74 false false (some x3.2.1)) fun v76 =>
                        og (gval v74 false false (ibin .gtr v76 (.val (.int .i64 0)))) fun v77 =>
                        og (gval v74 false false (some v77)) fun v78 =>
                        og (gval v78 true true (some x3.2.2.1)) fun v79 =>
                        og (gval v78 true true (anil v79)) fun v80 =>
                        og (gval v78 true true (fldA 1 v80)) fun v81 =>
                        og (gval v78 true true (lod v81 σ)) fun v82 =>
                        og (gval v78 true true (some x3.2.1)) fun v83 =>
                        og (gval v78 true true (ibin .sub v83 (.val (.int .i64 1)))) fun v84 =>
                        gpick v78 (
                          acall TP fn_spec_l1In [v82, (.val (.int .i64 0)), v84] σ (onr (fun v85 σ =>
                          og (aun .not v85) fun v86 =>
                          og (gval v74 false false (some v86)) fun v87 =>
                          og (pickV v74 (.val (.bool true)) v87) fun v88 =>
                          k4 (x3.1, x3.2.1, v88, ()) σ) (fun v σ => apan v σ R))) (
                          og (gval v74 false false (some (.val (.bool false)))) fun v87 =>
                          og (pickV v74 (.val (.bool true)) v87) fun v88 =>
                          k4 (x3.1, x3.2.1, v88, ()) σ) (
                          og (gval v74 false false (pickV (.tup []) (.tup []) (.val (.bool false)))) fun v87 =>
                          og (pickV v74 (.val (.bool true)) v87) fun v88 =>
                          k4 (x3.1, x3.2.1, v88, ()) σ))) fun k3 =>
                  og (anil x2.2.2.1) fun v54 =>
                  og (fldA 0 v54) fun v55 =>
                  og (lod v55 σ) fun v56 =>
                  og (ibin .eql v56 (.val (.int .i64 3))) fun v57 =>
                  og (gval v57 true false (some x2.2.2.1)) fun v59 =>
                  og (gval v57 true false (anil v59)) fun v60 =>
                  og (gval v57 true false (fldA 3 v60)) fun v61 =>
                  og (gval v57 true false (lod v61 σ)) fun v62 =>
                  gpick v57 (
                    acall TP fn_spec_l2Sym [v62] σ (onr (fun v63 σ =>
                    og (aun .not v63) fun v64 =>
                    k3 (x2.1, x2.2.1, x2.2.2.1, v64, ()) σ) (fun v σ => apan v σ R))) (
                    k3 (x2.1, x2.2.1, x2.2.2.1, (.val (.bool false)), ()) σ) (False))) fun k2 =>
            og (anil v21) fun v26 =>
            og (fldA 0 v26) fun v27 =>
            og (lod v27 σ) fun v28 =>
            og (ibin .eql v28 (.val (.int .i64 1))) fun v29 =>
            og (gval v29 true false (some v21)) fun v31 =>
            og (gval v29 true false (anil v31)) fun v32 =>
            og (gval v29 true false (fldA 2 v32)) fun v33 =>
            og (gval v29 true false (lod v33 σ)) fun v34 =>
            gpick v29 (
              acall TP fn_spec_l1Num [v34] σ (onr (fun v35 σ =>
              og (aun .not v35) fun v36 =>
              og (gval v36 false false (some v21)) fun v39 =>
              og (gval v36 false false (anil v39)) fun v40 =>
              og (gval v36 false false (fldA 0 v40)) fun v41 =>
              og (gval v36 false false (lod v41 σ)) fun v42 =>
              og (gval v36 false false (ibin .eql v42 (.val (.int .i64 2)))) fun v43 =>
              og (gval v36 false false (some v43)) fun v44 =>
              og (gval v44 true true (some v21)) fun v45 =>
              og (gval v44 true true (anil v45)) fun v46 =>
              og (gval v44 true true (fldA 2 v46)) fun v47 =>
              og (gval v44 true true (lod v47 σ)) fun v48 =>
              gpick v44 (
                acall TP fn_spec_l1In [v48, (.val (.int .i64 0)), (.val (.int .i64 1))] σ (onr (fun v49 σ =>
                og (aun .not v49) fun v50 =>
                og (gval v36 false false (some v50)) fun v51 =>
                og (pickV v36 (.val (.bool true)) v51) fun v52 =>
                k2 (y1.1, y1.2.1, v21, v52, ()) σ) (fun v σ => apan v σ R))) (
                og (gval v36 false false (some (.val (.bool false)))) fun v51 =>
                og (pickV v36 (.val (.bool true)) v51) fun v52 =>
                k2 (y1.1, y1.2.1, v21, v52, ()) σ) (
                og (gval v36 false false (pickV (.tup []) (.tup []) (.val (.bool false)))) fun v51 =>
                og (pickV v36 (.val (.bool true)) v51) fun v52 =>
                k2 (y1.1, y1.2.1, v21, v52, ()) σ)) (fun v σ => apan v σ R))) (
              og (anil v21) fun v40 =>
              og (fldA 0 v40) fun v41 =>
              og (lod v41 σ) fun v42 =>
              og (ibin .eql v42 (.val (.int .i64 2))) fun v43 =>
              og (gval v43 true true (some v21)) fun v45 =>
              og (gval v43 true true (anil v45)) fun v46 =>
              og (gval v43 true true (fldA 2 v46)) fun v47 =>
              og (gval v43 true true (lod v47 σ)) fun v48 =>
              gpick v43 (
                acall TP fn_spec_l1In [v48, (.val (.int .i64 0)), (.val (.int .i64 1))] σ (onr (fun v49 σ =>
                og (aun .not v49) fun v50 =>
                k2 (y1.1, y1.2.1, v21, v50, ()) σ) (fun v σ => apan v σ R))) (
                k2 (y1.1, y1.2.1, v21, (.val (.bool false)), ()) σ) (
                og (pickV (.tup []) (.tup []) (.val (.bool false))) fun v51 =>
                k2 (y1.1, y1.2.1, v21, v51, ()) σ)) (False))) (fun v σ => apan v σ R))) (
        aret (.val (.int .i64 0)) σ R)) (a0, (.val (.int .i64 0)), ()) σ)
def x131 : Sx := .og (.lenS (.var 0)) (.og (.ibin .lss (.var 0) (.lit (.val (.int .i64 1)))) (.gog (.var 0) false false (.ret (.var 2)) (.gog (.var 1) false false (.lenS (.var 0)) (.gog (.var 2) false false (.ibin .gtr (.var 0) (.lit (.val (.int .i64 80)))) (.og (.pickV (.var 3) (.lit (.val (.bool true))) (.var 0)) (.apick (.var 0) (.ret (.lit (.val (.int .i64 2)))) (.lp [0, 3] (.og (.lenS (.var 0)) (.og (.ibin .lss (.var 2) (.var 0)) (.apick (.var 0) (.og (.idx 4 (.var 2) (.var 3)) (.call 170 [(.var 0)] (.og (.aun .not (.var 0)) (.apick (.var 0) (.ret (.lit (.val (.int .i64 1)))) (.jn 14925 [0, 3, 4, 52] (.apick (.var 3) (.ret (.lit (.val (.int .i64 3)))) (.jn 29853 [0, 3, 4, 65] (.apick (.var 3) (.ret (.lit (.val (.int .i64 5)))) (.jn 59709 [0, 3, 88] (.apick (.var 2) (.ret (.lit (.val (.int .i64 3)))) (.jn 119421 [0, 3, 96] (.apick (.var 2) (.ret (.lit (.val (.int .i64 1)))) (.call 173 [(.var 0), (.var 1)] (.og (.ibin .gtr (.var 0) (.lit (.val (.int .i64 12)))) (.apick (.var 0) (.ret (.lit (.val (.int .i64 2)))) (.og (.ibin .add (.var 3) (.lit (.val (.int .i64 1)))) (.jump 0 [(.var 3), (.var 0)])))))) (.og (.ibin .gtr (.var 1) (.lit (.val (.int .i64 0)))) (.gog (.var 0) true false (.ret (.var 1)) (.gog (.var 1) true false (.ret (.var 3)) (.gpick (.var 2) (.call 172 [(.var 1), (.var 0)] (.og (.aun .not (.var 0)) (.jump 0 [(.var 5), (.var 6), (.var 0)]))) (.jump 0 [(.var 3), (.var 4), (.lit (.val (.bool false)))]) (.no))))))) (.og (.ibin .eql (.var 1) (.lit (.val (.int .i64 0)))) (.gog (.var 0) true false (.ret (.var 3)) (.gog (.var 1) true false (.anil (.var 0)) (.gog (.var 2) true false (.fldA 1 (.var 0)) (.gog (.var 3) true false (.lod (.var 0)) (.gog (.var 4) true false (.ibin .neq (.var 0) (.lit (.val (.int .i64 (-1))))) (.og (.pickV (.var 5) (.var 0) (.lit (.val (.bool false)))) (.gog (.var 0) false false (.ret (.var 8)) (.gog (.var 1) false false (.ibin .gtr (.var 0) (.lit (.val (.int .i64 0)))) (.gog (.var 2) false false (.ret (.var 0)) (.gog (.var 0) true true (.ret (.var 12)) (.gog (.var 1) true true (.anil (.var 0)) (.gog (.var 2) true true (.fldA 1 (.var 0)) (.gog (.var 3) true true (.lod (.var 0)) (.gog (.var 4) true true (.ret (.var 15)) (.gog (.var 5) true true (.ibin .sub (.var 0) (.lit (.val (.int .i64 1)))) (.gpick (.var 6) (.call 60 [(.var 2), (.lit (.val (.int .i64 0))), (.var 0)] (.og (.aun .not (.var 0)) (.gog (.var 11) false false (.ret (.var 0)) (.og (.pickV (.var 12) (.lit (.val (.bool true))) (.var 0)) (.jump 0 [(.var 20), (.var 21), (.var 0)]))))) (.gog (.var 9) false false (.ret (.lit (.val (.bool false)))) (.og (.pickV (.var 10) (.lit (.val (.bool true))) (.var 0)) (.jump 0 [(.var 18), (.var 19), (.var 0)]))) (.gog (.var 9) false false (.pickV (.lit (.tup [])) (.lit (.tup [])) (.lit (.val (.bool false)))) (.og (.pickV (.var 10) (.lit (.val (.bool true))) (.var 0)) (.jump 0 [(.var 18), (.var 19), (.var 0)])))))))))))))))))))))) (.og (.anil (.var 2)) (.og (.fldA 0 (.var 0)) (.og (.lod (.var 0)) (.og (.ibin .eql (.var 0) (.lit (.val (.int .i64 3)))) (.gog (.var 0) true false (.ret (.var 6)) (.gog (.var 1) true false (.anil (.var 0)) (.gog (.var 2) true false (.fldA 3 (.var 0)) (.gog (.var 3) true false (.lod (.var 0)) (.gpick (.var 4) (.call 130 [(.var 0)] (.og (.aun .not (.var 0)) (.jump 0 [(.var 10), (.var 11), (.var 12), (.var 0)]))) (.jump 0 [(.var 8), (.var 9), (.var 10), (.lit (.val (.bool false)))]) (.no)))))))))))) (.og (.anil (.var 2)) (.og (.fldA 0 (.var 0)) (.og (.lod (.var 0)) (.og (.ibin .eql (.var 0) (.lit (.val (.int .i64 1)))) (.gog (.var 0) true false (.ret (.var 6)) (.gog (.var 1) true false (.anil (.var 0)) (.gog (.var 2) true false (.fldA 2 (.var 0)) (.gog (.var 3) true false (.lod (.var 0)) (.gpick (.var 4) (.call 171 [(.var 0)] (.og (.aun .not (.var 0)) (.gog (.var 0) false false (.ret (.var 12)) (.gog (.var 1) false false (.anil (.var 0)) (.gog (.var 2) false false (.fldA 0 (.var 0)) (.gog (.var 3) false false (.lod (.var 0)) (.gog (.var 4) false false (.ibin .eql (.var 0) (.lit (.val (.int .i64 2)))) (.gog (.var 5) false false (.ret (.var 0)) (.gog (.var 0) true true (.ret (.var 18)) (.gog (.var 1) true true (.anil (.var 0)) (.gog (.var 2) true true (.fldA 2 (.var 0)) (.gog (.var 3) true true (.lod (.var 0)) (.gpick (.var 4) (.call 60 [(.var 0), (.lit (.val (.int .i64 0))), (.lit (.val (.int .i64 1)))] (.og (.aun .not (.var 0)) (.gog (.var 12) false false (.ret (.var 0)) (.og (.pickV (.var 13) (.lit (.val (.bool true))) (.var 0)) (.jump 0 [(.var 29), (.var 30), (.var 26), (.var 0)]))))) (.gog (.var 10) false false (.ret (.lit (.val (.bool false)))) (.og (.pickV (.var 11) (.lit (.val (.bool true))) (.var 0)) (.jump 0 [(.var 27), (.var 28), (.var 24), (.var 0)]))) (.gog (.var 10) false false (.pickV (.lit (.tup [])) (.lit (.tup [])) (.lit (.val (.bool false)))) (.og (.pickV (.var 11) (.lit (.val (.bool true))) (.var 0)) (.jump 0 [(.var 27), (.var 28), (.var 24), (.var 0)])))))))))))))))) (.og (.anil (.var 10)) (.og (.fldA 0 (.var 0)) (.og (.lod (.var 0)) (.og (.ibin .eql (.var 0) (.lit (.val (.int .i64 2)))) (.gog (.var 0) true true (.ret (.var 14)) (.gog (.var 1) true true (.anil (.var 0)) (.gog (.var 2) true true (.fldA 2 (.var 0)) (.gog (.var 3) true true (.lod (.var 0)) (.gpick (.var 4) (.call 60 [(.var 0), (.lit (.val (.int .i64 0))), (.lit (.val (.int .i64 1)))] (.og (.aun .not (.var 0)) (.jump 0 [(.var 23), (.var 24), (.var 20), (.var 0)]))) (.jump 0 [(.var 21), (.var 22), (.var 18), (.lit (.val (.bool false)))]) (.og (.pickV (.lit (.tup [])) (.lit (.tup [])) (.lit (.val (.bool false)))) (.jump 0 [(.var 22), (.var 23), (.var 19), (.var 0)]))))))))))) (.no))))))))))))))) (.ret (.lit (.val (.int .i64 0))))))) [(.var 6), (.lit (.val (.int .i64 0)))])))))))
set_option maxRecDepth 1000000 in
theorem x131_ok : okF TT Tryz.f131 1 x131 = true := by decide +kernel
set_option maxRecDepth 1000000 in
theorem s_spec_l3Fault_ok {a0 : AV} {σ : AH} {R : AEnd → AH → Prop} (h : s_spec_l3Fault a0 σ R) : acall TP fn_spec_l3Fault [a0] σ R :=
  acall_okF (ρ := [a0]) TT_ok Tryz.func131 rfl x131 x131_ok rfl h

/-- loop.example/g00349/impl.OpFault$1 -/
def s_impl_OpFault_1 (a0 : AV) (σ : AH) (R : AEnd → AH → Prop) : Prop :=
  og (ibin .neq a0 (.val (.int .i64 0))) fun v4 =>
  aret v4 σ R
def x132 : Sx := .og (.ibin .neq (.var 0) (.lit (.val (.int .i64 0)))) (.ret (.var 0))
set_option maxRecDepth 1000000 in
theorem x132_ok : okF TT Tryz.f132 1 x132 = true := by decide +kernel
set_option maxRecDepth 1000000 in
theorem s_impl_OpFault_1_ok {a0 : AV} {σ : AH} {R : AEnd → AH → Prop} (h : s_impl_OpFault_1 a0 σ R) : acall TP fn_impl_OpFault_1 [a0] σ R :=
  acall_okF (ρ := [a0]) TT_ok Tryz.func132 rfl x132 x132_ok rfl h

/-- slices.ContainsFunc[[]int64,int64] -/
def s_slices_ContainsFunc (a0 a1 : AV) (σ : AH) (R : AEnd → AH → Prop) : Prop :=
  acall TP fn_slices_IndexFunc [a0, a1] σ (onr (fun v7 σ =>
  og (ibin .geq v7 (.val (.int .i64 0))) fun v8 =>
  aret v8 σ R) (fun v σ => apan v σ R))
def x133 : Sx := .call 174 [(.var 1), (.var 0)] (.og (.ibin .geq (.var 0) (.lit (.val (.int .i64 0)))) (.ret (.var 0)))
set_option maxRecDepth 1000000 in
theorem x133_ok : okF TT Tryz.f133 2 x133 = true := by decide +kernel
set_option maxRecDepth 1000000 in
theorem s_slices_ContainsFunc_ok {a0 a1 : AV} {σ : AH} {R : AEnd → AH → Prop} (h : s_slices_ContainsFunc a0 a1 σ R) : acall TP fn_slices_ContainsFunc [a0, a1] σ R :=
  acall_okF (ρ := [a1, a0]) TT_ok Tryz.func133 rfl x133 x133_ok rfl h

/-- loop.example/g00349/impl.opNums -/
def s_impl_opNums (a0 : AV) (σ : AH) (R : AEnd → AH → Prop) : Prop :=
  jn (X := Tup [3, 4]) (fun x1 σ =>
      apick x1.2.1 (
        aret (.val (.int .i64 1)) σ R) (
        jn (X := Tup [3, 10]) (fun x2 σ =>
            apick x2.2.1 (
              aret (.val (.int .i64 2)) σ R) (
              og (ibin .eql x2.1 (.val (.int .i64 16))) fun v14 =>
              apick v14 (
                aret (.val (.int .i64 3)) σ R) (
                og (ibin .eql x2.1 (.val (.int .i64 15))) fun v16 =>
                apick v16 (
                  aret (.val (.int .i64 4)) σ R) (
                  aret (.val (.int .i64 0)) σ R)))) fun k2 =>
          og (ibin .eql x1.1 (.val (.int .i64 2))) fun v11 =>
          apick v11 (
            k2 (x1.1, v11, ()) σ) (
            og (ibin .eql x1.1 (.val (.int .i64 14))) fun v12 =>
            k2 (x1.1, v12, ()) σ))) fun k1 =>
    og (ibin .eql a0 (.val (.int .i64 4))) fun v5 =>
    apick v5 (
      k1 (a0, v5, ()) σ) (
      og (ibin .eql a0 (.val (.int .i64 5))) fun v6 =>
      apick v6 (
        k1 (a0, v6, ()) σ) (
        og (ibin .eql a0 (.val (.int .i64 6))) fun v7 =>
        apick v7 (
          k1 (a0, v7, ()) σ) (
          og (ibin .eql a0 (.val (.int .i64 10))) fun v8 =>
          apick v8 (
            k1 (a0, v8, ()) σ) (
            og (ibin .eql a0 (.val (.int .i64 11))) fun v9 =>
            k1 (a0, v9, ()) σ))))
def x134 : Sx := .jn 53 [3, 4] (.apick (.var 1) (.ret (.lit (.val (.int .i64 1)))) (.jn 215 [3, 10] (.apick (.var 1) (.ret (.lit (.val (.int .i64 2)))) (.og (.ibin .eql (.var 0) (.lit (.val (.int .i64 16)))) (.apick (.var 0) (.ret (.lit (.val (.int .i64 3)))) (.og (.ibin .eql (.var 1) (.lit (.val (.int .i64 15)))) (.apick (.var 0) (.ret (.lit (.val (.int .i64 4)))) (.ret (.lit (.val (.int .i64 0))))))))) (.og (.ibin .eql (.var 0) (.lit (.val (.int .i64 2)))) (.apick (.var 0) (.jump 0 [(.var 1), (.var 0)]) (.og (.ibin .eql (.var 1) (.lit (.val (.int .i64 14)))) (.jump 0 [(.var 2), (.var 0)])))))) (.og (.ibin .eql (.var 0) (.lit (.val (.int .i64 4)))) (.apick (.var 0) (.jump 0 [(.var 1), (.var 0)]) (.og (.ibin .eql (.var 1) (.lit (.val (.int .i64 5)))) (.apick (.var 0) (.jump 0 [(.var 2), (.var 0)]) (.og (.ibin .eql (.var 2) (.lit (.val (.int .i64 6)))) (.apick (.var 0) (.jump 0 [(.var 3), (.var 0)]) (.og (.ibin .eql (.var 3) (.lit (.val (.int .i64 10)))) (.apick (.var 0) (.jump 0 [(.var 4), (.var 0)]) (.og (.ibin .eql (.var 4) (.lit (.val (.int .i64 11)))) (.jump 0 [(.var 5), (.var 0)]))))))))))
set_option maxRecDepth 1000000 in
theorem x134_ok : okF TT Tryz.f134 1 x134 = true := by decide +kernel
set_option maxRecDepth 1000000 in
theorem s_impl_opNums_ok {a0 : AV} {σ : AH} {R : AEnd → AH → Prop} (h : s_impl_opNums a0 σ R) : acall TP fn_impl_opNums [a0] σ R :=
  acall_okF (ρ := [a0]) TT_ok Tryz.func134 rfl x134 x134_ok rfl h

/-- loop.example/g00349/impl.opNamed -/
def s_impl_opNamed (a0 : AV) (σ : AH) (R : AEnd → AH → Prop) : Prop :=
  og (ibin .eql a0 (.val (.int .i64 3))) fun v4 =>
  og (gval v4 false false (some a0)) fun v6 =>
  og (gval v4 false false (ibin .eql v6 (.val (.int .i64 8)))) fun v7 =>
  og (pickV v4 (.val (.bool true)) v7) fun v8 =>
  og (gval v8 false false (some a0)) fun v10 =>
  og (gval v8 false false (ibin .eql v10 (.val (.int .i64 9)))) fun v11 =>
  og (pickV v8 (.val (.bool true)) v11) fun v12 =>
  aret v12 σ R
def x135 : Sx := .og (.ibin .eql (.var 0) (.lit (.val (.int .i64 3)))) (.gog (.var 0) false false (.ret (.var 1)) (.gog (.var 1) false false (.ibin .eql (.var 0) (.lit (.val (.int .i64 8)))) (.og (.pickV (.var 2) (.lit (.val (.bool true))) (.var 0)) (.gog (.var 0) false false (.ret (.var 4)) (.gog (.var 1) false false (.ibin .eql (.var 0) (.lit (.val (.int .i64 9)))) (.og (.pickV (.var 2) (.lit (.val (.bool true))) (.var 0)) (.ret (.var 0))))))))
set_option maxRecDepth 1000000 in
theorem x135_ok : okF TT Tryz.f135 1 x135 = true := by decide +kernel
set_option maxRecDepth 1000000 in
theorem s_impl_opNamed_ok {a0 : AV} {σ : AH} {R : AEnd → AH → Prop} (h : s_impl_opNamed a0 σ R) : acall TP fn_impl_opNamed [a0] σ R :=
  acall_okF (ρ := [a0]) TT_ok Tryz.func135 rfl x135 x135_ok rfl h

/-- loop.example/g00349/impl.opData -/
def s_impl_opData (a0 : AV) (σ : AH) (R : AEnd → AH → Prop) : Prop :=
  og (ibin .eql a0 (.val (.int .i64 1))) fun v4 =>
  og (gval v4 false false (some a0)) fun v6 =>
  og (gval v4 false false (ibin .eql v6 (.val (.int .i64 13)))) fun v7 =>
  og (pickV v4 (.val (.bool true)) v7) fun v8 =>
  aret v8 σ R
def x136 : Sx := .og (.ibin .eql (.var 0) (.lit (.val (.int .i64 1)))) (.gog (.var 0) false false (.ret (.var 1)) (.gog (.var 1) false false (.ibin .eql (.var 0) (.lit (.val (.int .i64 13)))) (.og (.pickV (.var 2) (.lit (.val (.bool true))) (.var 0)) (.ret (.var 0)))))
set_option maxRecDepth 1000000 in
theorem x136_ok : okF TT Tryz.f136 1 x136 = true := by decide +kernel
set_option maxRecDepth 1000000 in
theorem s_impl_opData_ok {a0 : AV} {σ : AH} {R : AEnd → AH → Prop} (h : s_impl_opData a0 σ R) : acall TP fn_impl_opData [a0] σ R :=
  acall_okF (ρ := [a0]) TT_ok Tryz.func136 rfl x136 x136_ok rfl h

/-- loop.example/g00349/impl.OpFault$2 -/
def s_impl_OpFault_2 (a0 : AV) (σ : AH) (R : AEnd → AH → Prop) : Prop :=
  acall TP fn_impl_in [a0, (.val (.int .i64 0)), (.val (.int .i64 999))] σ (onr (fun v4 σ =>
  og (aun .not v4) fun v5 =>
  aret v5 σ R) (fun v σ => apan v σ R))
def x137 : Sx := .call 62 [(.var 0), (.lit (.val (.int .i64 0))), (.lit (.val (.int .i64 999)))] (.og (.aun .not (.var 0)) (.ret (.var 0)))
set_option maxRecDepth 1000000 in
theorem x137_ok : okF TT Tryz.f137 1 x137 = true := by decide +kernel
set_option maxRecDepth 1000000 in
theorem s_impl_OpFault_2_ok {a0 : AV} {σ : AH} {R : AEnd → AH → Prop} (h : s_impl_OpFault_2 a0 σ R) : acall TP fn_impl_OpFault_2 [a0] σ R :=
  acall_okF (ρ := [a0]) TT_ok Tryz.func137 rfl x137 x137_ok rfl h

/-- loop.example/g00349/impl.SymFault -/
def s_impl_SymFault (a0 : AV) (σ : AH) (R : AEnd → AH → Prop) : Prop :=
  jn (X := Tup [11]) (fun x1 σ =>
      apick x1.1 (
        aret (.val (.int .i64 5)) σ R) (
        aret (.val (.int .i64 0)) σ R)) fun k1 =>
    og (lenStr a0) fun v4 =>
    acall TP fn_impl_in [v4, (.val (.int .i64 1)), (.val (.int .i64 12))] σ (onr (fun v5 σ =>
    og (aun .not v5) fun v6 =>
    og (gval v6 false false (some a0)) fun v8 =>
    gpick v6 (
      k1 ((.val (.bool true)), ()) σ) (
      acall TP fn_strings_Trim [v8, (.val (.string ⟨#[97, 98, 99, 100, 101, 102, 103, 104, 105, 106, 107, 108, 109, 110, 111, 112, 113, 114, 115, 116, 117, 118, 119, 120, 121, 122, 43, 45, 42, 47, 60, 61, 63, 33]⟩))] σ (onr (fun v9 σ =>
      og (sbin .neq v9 (.val (.string ⟨#[]⟩))) fun v10 =>
      k1 (v10, ()) σ) (fun v σ => apan v σ R))) (False)) (fun v σ => apan v σ R))
def x138 : Sx := .jn 13 [11] (.apick (.var 0) (.ret (.lit (.val (.int .i64 5)))) (.ret (.lit (.val (.int .i64 0))))) (.og (.lenStr (.var 0)) (.call 62 [(.var 0), (.lit (.val (.int .i64 1))), (.lit (.val (.int .i64 12)))] (.og (.aun .not (.var 0)) (.gog (.var 0) false false (.ret (.var 3)) (.gpick (.var 1) (.jump 0 [(.lit (.val (.bool true)))]) (.call 175 [(.var 0), (.lit (.val (.string ⟨#[97, 98, 99, 100, 101, 102, 103, 104, 105, 106, 107, 108, 109, 110, 111, 112, 113, 114, 115, 116, 117, 118, 119, 120, 121, 122, 43, 45, 42, 47, 60, 61, 63, 33]⟩)))] (.og (.sbin .neq (.var 0) (.lit (.val (.string ⟨#[]⟩)))) (.jump 0 [(.var 0)]))) (.no))))))
set_option maxRecDepth 1000000 in
theorem x138_ok : okF TT Tryz.f138 1 x138 = true := by decide +kernel
set_option maxRecDepth 1000000 in
theorem s_impl_SymFault_ok {a0 : AV} {σ : AH} {R : AEnd → AH → Prop} (h : s_impl_SymFault a0 σ R) : acall TP fn_impl_SymFault [a0] σ R :=
  acall_okF (ρ := [a0]) TT_ok Tryz.func138 rfl x138 x138_ok rfl h

/-- loop.example/g00349/impl.DataFault -/
def s_impl_DataFault (a0 : AV) (σ : AH) (R : AEnd → AH → Prop) : Prop :=
  og (lenS a0) fun v6 =>
  acall TP fn_impl_in [v6, (.val (.int .i64 1)), (.val (.int .i64 80))] σ (onr (fun v7 σ =>
  og (aun .not v7) fun v8 =>
  apick v8 (
    aret (.val (.int .i64 2)) σ R) (
    og (lenS a0) fun v10 =>
    lp (X := Tup [0, 10, 11]) (fun R1 y1 σ =>
      og (ibin .lss y1.2.2.1 y1.2.1) fun v12 =>
      apick v12 (
        acall TP fn_impl_datumFault [y1.1, y1.2.2.1] σ (onr (fun v16 σ =>
        og (ibin .neq v16 (.val (.int .i64 0))) fun v18 =>
        apick v18 (
          aret v16 σ R) (
          og (ibin .add y1.2.2.1 (.val (.int .i64 1))) fun v20 =>
          R1 (y1.1, y1.2.1, v20, ()) σ)) (fun v σ => apan v σ R))) (
        aret (.val (.int .i64 0)) σ R)) (a0, v10, (.val (.int .i64 0)), ()) σ)) (fun v σ => apan v σ R))
def x139 : Sx := .og (.lenS (.var 0)) (.call 62 [(.var 0), (.lit (.val (.int .i64 1))), (.lit (.val (.int .i64 80)))] (.og (.aun .not (.var 0)) (.apick (.var 0) (.ret (.lit (.val (.int .i64 2)))) (.og (.lenS (.var 3)) (.lp [0, 10, 11] (.og (.ibin .lss (.var 2) (.var 1)) (.apick (.var 0) (.call 176 [(.var 1), (.var 3)] (.og (.ibin .neq (.var 0) (.lit (.val (.int .i64 0)))) (.apick (.var 0) (.ret (.var 1)) (.og (.ibin .add (.var 5) (.lit (.val (.int .i64 1)))) (.jump 0 [(.var 4), (.var 5), (.var 0)]))))) (.ret (.lit (.val (.int .i64 0)))))) [(.var 4), (.var 0), (.lit (.val (.int .i64 0)))])))))
set_option maxRecDepth 1000000 in
theorem x139_ok : okF TT Tryz.f139 1 x139 = true := by decide +kernel
set_option maxRecDepth 1000000 in
theorem s_impl_DataFault_ok {a0 : AV} {σ : AH} {R : AEnd → AH → Prop} (h : s_impl_DataFault a0 σ R) : acall TP fn_impl_DataFault [a0] σ R :=
  acall_okF (ρ := [a0]) TT_ok Tryz.func139 rfl x139 x139_ok rfl h

/-- loop.example/g00349/spec.l10High -/
def s_spec_l10High (a0 a1 : AV) (σ : AH) (R : AEnd → AH → Prop) : Prop :=
  og (anil a0) fun v8 =>
  og (fldA 0 v8) fun v9 =>
  og (lod v9 σ) fun v10 =>
  og (ibin .eql v10 (.val (.int .i64 12))) fun v12 =>
  apick v12 (
    og (ibin .eql a1 (.val (.int .i64 1))) fun v14 =>
    aret v14 σ R) (
    og (ibin .eql v10 (.val (.int .i64 11))) fun v16 =>
    apick v16 (
      og (anil a0) fun v19 =>
      og (fldA 1 v19) fun v20 =>
      og (lod v20 σ) fun v21 =>
      og (ibin .add v21 (.val (.int .i64 1))) fun v22 =>
      og (ibin .eql a1 v22) fun v23 =>
      aret v23 σ R) (
      jn (X := Tup [0, 1, 24]) (fun x1 σ =>
          apick x1.2.2.1 (
            og (ibin .eql x1.2.1 (.val (.int .i64 0))) fun v28 =>
            aret v28 σ R) (
            acall TP fn_spec_l10Takes [x1.1] σ (onr (fun v31 σ =>
            og (aext v31 0) fun v32 =>
            og (aext v31 1) fun v33 =>
            og (ibin .geq x1.2.1 v32) fun v36 =>
            aret v36 σ R) (fun v σ => apan v σ R)))) fun k1 =>
        og (ibin .eql v10 (.val (.int .i64 13))) fun v25 =>
        apick v25 (
          k1 (a0, a1, v25, ()) σ) (
          og (ibin .eql v10 (.val (.int .i64 14))) fun v26 =>
          k1 (a0, a1, v26, ()) σ)))
def x142 : Sx := .og (.anil (.var 1)) (.og (.fldA 0 (.var 0)) (.og (.lod (.var 0)) (.og (.ibin .eql (.var 0) (.lit (.val (.int .i64 12)))) (.apick (.var 0) (.og (.ibin .eql (.var 4) (.lit (.val (.int .i64 1)))) (.ret (.var 0))) (.og (.ibin .eql (.var 1) (.lit (.val (.int .i64 11)))) (.apick (.var 0) (.og (.anil (.var 6)) (.og (.fldA 1 (.var 0)) (.og (.lod (.var 0)) (.og (.ibin .add (.var 0) (.lit (.val (.int .i64 1)))) (.og (.ibin .eql (.var 9) (.var 0)) (.ret (.var 0))))))) (.jn 863 [0, 1, 24] (.apick (.var 2) (.og (.ibin .eql (.var 1) (.lit (.val (.int .i64 0)))) (.ret (.var 0))) (.call 65 [(.var 0)] (.og (.aext (.var 0) 0) (.og (.aext (.var 1) 1) (.og (.ibin .geq (.var 4) (.var 1)) (.ret (.var 0))))))) (.og (.ibin .eql (.var 2) (.lit (.val (.int .i64 13)))) (.apick (.var 0) (.jump 0 [(.var 7), (.var 6), (.var 0)]) (.og (.ibin .eql (.var 3) (.lit (.val (.int .i64 14)))) (.jump 0 [(.var 8), (.var 7), (.var 0)])))))))))))
set_option maxRecDepth 1000000 in
theorem x142_ok : okF TT Tryz.f142 2 x142 = true := by decide +kernel
set_option maxRecDepth 1000000 in
theorem s_spec_l10High_ok {a0 a1 : AV} {σ : AH} {R : AEnd → AH → Prop} (h : s_spec_l10High a0 a1 σ R) : acall TP fn_spec_l10High [a0, a1] σ R :=
  acall_okF (ρ := [a1, a0]) TT_ok Tryz.func142 rfl x142 x142_ok rfl h

/-- loop.example/g00349/spec.l10Ends -/
def s_spec_l10Ends (a0 : AV) (σ : AH) (R : AEnd → AH → Prop) : Prop :=
  jn (X := Tup [2]) (fun x1 σ =>
      aret x1.1 σ R) fun k1 =>
    og (ibin .eql a0 (.val (.int .i64 5))) fun v4 =>
    og (gval v4 false false (some a0)) fun v6 =>
    og (gval v4 false false (ibin .eql v6 (.val (.int .i64 11)))) fun v7 =>
    og (pickV v4 (.val (.bool true)) v7) fun v8 =>
    og (gval v8 false false (some a0)) fun v10 =>
    gpick v8 (
      k1 ((.val (.bool true)), ()) σ) (
      acall TP fn_spec_l1In [v10, (.val (.int .i64 12)), (.val (.int .i64 14))] σ (onr (fun v11 σ =>
      k1 (v11, ()) σ) (fun v σ => apan v σ R))) (False)
def x143 : Sx := .jn 7 [2] (.ret (.var 0)) (.og (.ibin .eql (.var 0) (.lit (.val (.int .i64 5)))) (.gog (.var 0) false false (.ret (.var 1)) (.gog (.var 1) false false (.ibin .eql (.var 0) (.lit (.val (.int .i64 11)))) (.og (.pickV (.var 2) (.lit (.val (.bool true))) (.var 0)) (.gog (.var 0) false false (.ret (.var 4)) (.gpick (.var 1) (.jump 0 [(.lit (.val (.bool true)))]) (.call 60 [(.var 0), (.lit (.val (.int .i64 12))), (.lit (.val (.int .i64 14)))] (.jump 0 [(.var 0)])) (.no)))))))
set_option maxRecDepth 1000000 in
theorem x143_ok : okF TT Tryz.f143 1 x143 = true := by decide +kernel
set_option maxRecDepth 1000000 in
theorem s_spec_l10Ends_ok {a0 : AV} {σ : AH} {R : AEnd → AH → Prop} (h : s_spec_l10Ends a0 σ R) : acall TP fn_spec_l10Ends [a0] σ R :=
  acall_okF (ρ := [a0]) TT_ok Tryz.func143 rfl x143 x143_ok rfl h

/-- loop.example/g00349/spec.l10Lead -/
def s_spec_l10Lead (a0 a1 a2 : AV) (σ : AH) (R : AEnd → AH → Prop) : Prop :=
  og (lenS a0) fun v10 =>
  og (ibin .sub v10 (.val (.int .i64 1))) fun v11 =>
  acall TP fn_spec_l1In [a1, (.val (.int .i64 0)), v11] σ (onr (fun v12 σ =>
  og (aun .not v12) fun v13 =>
  apick v13 (
    aret (.tup [(.val (.bool false)), (.val (.bool false))]) σ R) (
    og (idx 1 a0 a1 σ) fun v16 =>
    og (lod v16 σ) fun v17 =>
    og (ibin .lss v17 (.val (.int .i64 0))) fun v18 =>
    apick v18 (
      og (idx 1 a0 a1 σ) fun v22 =>
      sto 1 v22 a2 σ fun σ =>
      aret (.tup [(.val (.bool true)), (.val (.bool true))]) σ R) (
      og (idx 1 a0 a1 σ) fun v25 =>
      og (lod v25 σ) fun v26 =>
      og (ibin .eql v26 a2) fun v28 =>
      aret (.tup [(.val (.bool false)), v28]) σ R))) (fun v σ => apan v σ R))
def x144 : Sx := .og (.lenS (.var 2)) (.og (.ibin .sub (.var 0) (.lit (.val (.int .i64 1)))) (.call 60 [(.var 3), (.lit (.val (.int .i64 0))), (.var 0)] (.og (.aun .not (.var 0)) (.apick (.var 0) (.rets [(.lit (.val (.bool false))), (.lit (.val (.bool false)))]) (.og (.idx 1 (.var 6) (.var 5)) (.og (.lod (.var 0)) (.og (.ibin .lss (.var 0) (.lit (.val (.int .i64 0)))) (.apick (.var 0) (.og (.idx 1 (.var 9) (.var 8)) (.sto 1 (.var 0) (.var 8) (.rets [(.lit (.val (.bool true))), (.lit (.val (.bool true)))]))) (.ord [0, 1, 2, 3, 4, 5, 6, 7] [0, 0, 3, 7, 0, 31, 0, 127] (.og (.idx 1 (.var 9) (.var 8)) (.og (.lod (.var 0)) (.og (.ibin .eql (.var 0) (.var 9)) (.rets [(.lit (.val (.bool false))), (.var 0)])))))))))))))
set_option maxRecDepth 1000000 in
theorem x144_ok : okF TT Tryz.f144 3 x144 = true := by decide +kernel
set_option maxRecDepth 1000000 in
theorem s_spec_l10Lead_ok {a0 a1 a2 : AV} {σ : AH} {R : AEnd → AH → Prop} (h : s_spec_l10Lead a0 a1 a2 σ R) : acall TP fn_spec_l10Lead [a0, a1, a2] σ R :=
  acall_okF (ρ := [a2, a1, a0]) TT_ok Tryz.func144 rfl x144 x144_ok rfl h

/-- loop.example/g00349/spec.l10Local -/
def s_spec_l10Local (a0 a1 a2 a3 a4 : AV) (σ : AH) (R : AEnd → AH → Prop) : Prop :=
  lp (X := Tup [0, 1, 2, 3, 4]) (fun R1 y1 σ =>
    og (ibin .gtr y1.2.2.2.1 (.val (.int .i64 0))) fun v12 =>
    og (gval v12 true false (some y1.2.2.1)) fun v14 =>
    og (gval v12 true false (ibin .gtr v14 (.val (.int .i64 0)))) fun v15 =>
    og (pickV v12 v15 (.val (.bool false))) fun v16 =>
    apick v16 (
      og (idx 1 y1.2.1 y1.2.2.1 σ) fun v21 =>
      og (lod v21 σ) fun v22 =>
      og (ibin .sub y1.2.2.2.1 (.val (.int .i64 1))) fun v18 =>
      R1 (y1.1, y1.2.1, v22, v18, y1.2.2.2.2.1, ()) σ) (
      og (ibin .gtr y1.2.2.1 (.val (.int .i64 0))) fun v24 =>
      og (gval v24 true false (some y1.2.2.2.2.1)) fun v26 =>
      og (gval v24 true false (some y1.1)) fun v27 =>
      og (gval v24 true false (some y1.2.2.1)) fun v28 =>
      og (gval v24 true false (idx 2 v27 v28 σ)) fun v29 =>
      og (gval v24 true false (fldA 0 v29)) fun v30 =>
      og (gval v24 true false (lod v30 σ)) fun v31 =>
      og (gval v24 true false (ibin .lss v26 v31)) fun v32 =>
      og (pickV v24 v32 (.val (.bool false))) fun v33 =>
      aret v33 σ R)) (a0, a1, a2, a3, a4, ()) σ
def x145 : Sx := .lp [0, 1, 2, 3, 4] (.og (.ibin .gtr (.var 3) (.lit (.val (.int .i64 0)))) (.gog (.var 0) true false (.ret (.var 3)) (.gog (.var 1) true false (.ibin .gtr (.var 0) (.lit (.val (.int .i64 0)))) (.og (.pickV (.var 2) (.var 0) (.lit (.val (.bool false)))) (.apick (.var 0) (.og (.idx 1 (.var 5) (.var 6)) (.og (.lod (.var 0)) (.og (.ibin .sub (.var 9) (.lit (.val (.int .i64 1)))) (.jump 0 [(.var 7), (.var 8), (.var 1), (.var 0), (.var 11)])))) (.og (.ibin .gtr (.var 6) (.lit (.val (.int .i64 0)))) (.gog (.var 0) true false (.ret (.var 9)) (.gog (.var 1) true false (.ret (.var 6)) (.gog (.var 2) true false (.ret (.var 9)) (.gog (.var 3) true false (.idx 2 (.var 1) (.var 0)) (.gog (.var 4) true false (.fldA 0 (.var 0)) (.gog (.var 5) true false (.lod (.var 0)) (.gog (.var 6) true false (.ibin .lss (.var 5) (.var 0)) (.og (.pickV (.var 7) (.var 0) (.lit (.val (.bool false)))) (.ret (.var 0)))))))))))))))) [(.var 4), (.var 3), (.var 2), (.var 1), (.var 0)]
set_option maxRecDepth 1000000 in
theorem x145_ok : okF TT Tryz.f145 5 x145 = true := by decide +kernel
set_option maxRecDepth 1000000 in
theorem s_spec_l10Local_ok {a0 a1 a2 a3 a4 : AV} {σ : AH} {R : AEnd → AH → Prop} (h : s_spec_l10Local a0 a1 a2 a3 a4 σ R) : acall TP fn_spec_l10Local [a0, a1, a2, a3, a4] σ R :=
  acall_okF (ρ := [a4, a3, a2, a1, a0]) TT_ok Tryz.func145 rfl x145 x145_ok rfl h

/-- loop.example/g00349/laws.szDatum -/
def s_laws_szDatum (a0 a1 : AV) (σ : AH) (R : AEnd → AH → Prop) : Prop :=
  abox a0 σ fun v2 σ =>
  frz v2 σ fun f2 σ =>
  og (fldA 3 f2) fun v6 =>
  og (lod v6 σ) fun v7 =>
  og (lenStr v7) fun v8 =>
  og (ibin .sub a1 v8) fun v9 =>
  og (ibin .lss v9 (.val (.int .i64 0))) fun v11 =>
  apick v11 (
    aret (.val (.int .i64 (-1))) σ R) (
    aret v9 σ R)
def x149 : Sx := .box (.var 1) (.frz 2 (.var 0) (.og (.fldA 3 (.var 0)) (.og (.lod (.var 0)) (.og (.lenStr (.var 0)) (.og (.ibin .sub (.var 5) (.var 0)) (.og (.ibin .lss (.var 0) (.lit (.val (.int .i64 0)))) (.apick (.var 0) (.ret (.lit (.val (.int .i64 (-1))))) (.ret (.var 1)))))))))
set_option maxRecDepth 1000000 in
theorem x149_ok : okF TT Tryz.f149 2 x149 = true := by decide +kernel
set_option maxRecDepth 1000000 in
theorem s_laws_szDatum_ok {a0 a1 : AV} {σ : AH} {R : AEnd → AH → Prop} (h : s_laws_szDatum a0 a1 σ R) : acall TP fn_laws_szDatum [a0, a1] σ R :=
  acall_okF (ρ := [a1, a0]) TT_ok Tryz.func149 rfl x149 x149_ok rfl h

/-- loop.example/g00349/laws.toDatum -/
def s_laws_toDatum (a0 : AV) (σ : AH) (R : AEnd → AH → Prop) : Prop :=
  abox a0 σ fun v1 σ =>
  new [(.val (.int .i64 0)), (.val (.int .i64 0)), (.val (.int .i64 0)), (.val (.string ⟨#[]⟩))] σ fun v2 σ =>
  frz v1 σ fun f1 σ =>
  new [(.val (.int .i64 0)), (.val (.int .i64 0)), (.val (.int .i64 0)), (.val (.string ⟨#[]⟩))] σ fun v3 σ =>
  og (fldA 0 f1) fun v4 =>
  og (lod v4 σ) fun v5 =>
  og (fldA 0 v3) fun v6 =>
  sto 1 v6 v5 σ fun σ =>
  og (fldA 1 f1) fun v7 =>
  og (lod v7 σ) fun v8 =>
  og (fldA 1 v3) fun v9 =>
  sto 1 v9 v8 σ fun σ =>
  og (fldA 2 f1) fun v10 =>
  og (lod v10 σ) fun v11 =>
  og (fldA 2 v3) fun v12 =>
  sto 1 v12 v11 σ fun σ =>
  og (fldA 3 f1) fun v13 =>
  og (lod v13 σ) fun v14 =>
  og (fldA 3 v3) fun v15 =>
  sto 1 v15 v14 σ fun σ =>
  frz v3 σ fun f3 σ =>
  og (lodA 4 f3 σ) fun v16 =>
  sto 4 v2 v16 σ fun σ =>
  og (lodA 4 v2 σ) fun r2 =>
  aret r2 σ R
def x158 : Sx := .box (.var 0) (.new [(.val (.int .i64 0)), (.val (.int .i64 0)), (.val (.int .i64 0)), (.val (.string ⟨#[]⟩))] (.frz 1 (.var 1) (.new [(.val (.int .i64 0)), (.val (.int .i64 0)), (.val (.int .i64 0)), (.val (.string ⟨#[]⟩))] (.og (.fldA 0 (.var 1)) (.og (.lod (.var 0)) (.og (.fldA 0 (.var 2)) (.sto 1 (.var 0) (.var 1) (.og (.fldA 1 (.var 4)) (.og (.lod (.var 0)) (.og (.fldA 1 (.var 5)) (.sto 1 (.var 0) (.var 1) (.og (.fldA 2 (.var 7)) (.og (.lod (.var 0)) (.og (.fldA 2 (.var 8)) (.sto 1 (.var 0) (.var 1) (.og (.fldA 3 (.var 10)) (.og (.lod (.var 0)) (.og (.fldA 3 (.var 11)) (.sto 1 (.var 0) (.var 1) (.frz 4 (.var 12) (.og (.lodA 4 (.var 0)) (.sto 4 (.var 16) (.var 0) (.og (.lodA 4 (.var 16)) (.ret (.var 0)))))))))))))))))))))))))
set_option maxRecDepth 1000000 in
theorem x158_ok : okF TT Tryz.f158 1 x158 = true := by decide +kernel
set_option maxRecDepth 1000000 in
theorem s_laws_toDatum_ok {a0 : AV} {σ : AH} {R : AEnd → AH → Prop} (h : s_laws_toDatum a0 σ R) : acall TP fn_laws_toDatum [a0] σ R :=
  acall_okF (ρ := [a0]) TT_ok Tryz.func158 rfl x158 x158_ok rfl h

/-- loop.example/g00349/impl.isUp -/
def s_impl_isUp (a0 a1 a2 : AV) (σ : AH) (R : AEnd → AH → Prop) : Prop :=
  lp (X := Tup [0, 2, 7]) (fun R1 y1 σ =>
    og (ibin .geq y1.2.2.1 (.val (.int .i64 0))) fun v10 =>
    apick v10 (
      og (ibin .eql y1.2.2.1 y1.2.1) fun v16 =>
      apick v16 (
        aret (.val (.bool true)) σ R) (
        acallv TP y1.1 [y1.2.2.1] σ (onr (fun v13 σ =>
        R1 (y1.1, y1.2.1, v13, ()) σ) (fun v σ => apan v σ R)))) (
      aret (.val (.bool false)) σ R)) (a0, a2, a1, ()) σ
def x160 : Sx := .lp [0, 2, 7] (.og (.ibin .geq (.var 2) (.lit (.val (.int .i64 0)))) (.apick (.var 0) (.og (.ibin .eql (.var 3) (.var 2)) (.apick (.var 0) (.ret (.lit (.val (.bool true)))) (.callv (.var 2) [(.var 4)] (.jump 0 [(.var 3), (.var 4), (.var 0)])))) (.ret (.lit (.val (.bool false)))))) [(.var 2), (.var 0), (.var 1)]
set_option maxRecDepth 1000000 in
theorem x160_ok : okF TT Tryz.f160 3 x160 = true := by decide +kernel
set_option maxRecDepth 1000000 in
theorem s_impl_isUp_ok {a0 a1 a2 : AV} {σ : AH} {R : AEnd → AH → Prop} (h : s_impl_isUp a0 a1 a2 σ R) : acall TP fn_impl_isUp [a0, a1, a2] σ R :=
  acall_okF (ρ := [a2, a1, a0]) TT_ok Tryz.func160 rfl x160 x160_ok rfl h

/-- loop.example/g00349/laws.eqDatum -/
def s_laws_eqDatum (a0 a1 : AV) (σ : AH) (R : AEnd → AH → Prop) : Prop :=
  abox a0 σ fun v2 σ =>
  abox a1 σ fun v3 σ =>
  frz v2 σ fun f2 σ =>
  frz v3 σ fun f3 σ =>
  og (fldA 0 f2) fun v5 =>
  og (lod v5 σ) fun v6 =>
  og (fldA 0 f3) fun v7 =>
  og (lod v7 σ) fun v8 =>
  og (ibin .neq v6 v8) fun v9 =>
  apick v9 (
    aret (.val (.bool false)) σ R) (
    og (fldA 1 f2) fun v10 =>
    og (lod v10 σ) fun v11 =>
    og (fldA 1 f3) fun v12 =>
    og (lod v12 σ) fun v13 =>
    og (ibin .neq v11 v13) fun v14 =>
    apick v14 (
      aret (.val (.bool false)) σ R) (
      og (fldA 2 f2) fun v15 =>
      og (lod v15 σ) fun v16 =>
      og (fldA 2 f3) fun v17 =>
      og (lod v17 σ) fun v18 =>
      og (ibin .neq v16 v18) fun v19 =>
      apick v19 (
        aret (.val (.bool false)) σ R) (
        og (fldA 3 f2) fun v20 =>
        og (lod v20 σ) fun v21 =>
        og (fldA 3 f3) fun v22 =>
        og (lod v22 σ) fun v23 =>
        og (sbin .neq v21 v23) fun v24 =>
        apick v24 (
          aret (.val (.bool false)) σ R) (
          aret (.val (.bool true)) σ R))))
def x168 : Sx := .box (.var 1) (.box (.var 1) (.frz 2 (.var 1) (.frz 3 (.var 1) (.og (.fldA 0 (.var 1)) (.og (.lod (.var 0)) (.og (.fldA 0 (.var 2)) (.og (.lod (.var 0)) (.og (.ibin .neq (.var 2) (.var 0)) (.apick (.var 0) (.ret (.lit (.val (.bool false)))) (.og (.fldA 1 (.var 6)) (.og (.lod (.var 0)) (.og (.fldA 1 (.var 7)) (.og (.lod (.var 0)) (.og (.ibin .neq (.var 2) (.var 0)) (.apick (.var 0) (.ret (.lit (.val (.bool false)))) (.og (.fldA 2 (.var 11)) (.og (.lod (.var 0)) (.og (.fldA 2 (.var 12)) (.og (.lod (.var 0)) (.og (.ibin .neq (.var 2) (.var 0)) (.apick (.var 0) (.ret (.lit (.val (.bool false)))) (.og (.fldA 3 (.var 16)) (.og (.lod (.var 0)) (.og (.fldA 3 (.var 17)) (.og (.lod (.var 0)) (.og (.sbin .neq (.var 2) (.var 0)) (.apick (.var 0) (.ret (.lit (.val (.bool false)))) (.ret (.lit (.val (.bool true)))))))))))))))))))))))))))))))
set_option maxRecDepth 1000000 in
theorem x168_ok : okF TT Tryz.f168 2 x168 = true := by decide +kernel
set_option maxRecDepth 1000000 in
theorem s_laws_eqDatum_ok {a0 a1 : AV} {σ : AH} {R : AEnd → AH → Prop} (h : s_laws_eqDatum a0 a1 σ R) : acall TP fn_laws_eqDatum [a0, a1] σ R :=
  acall_okF (ρ := [a1, a0]) TT_ok Tryz.func168 rfl x168 x168_ok rfl h

/-- loop.example/g00349/spec.l2Byte -/
def s_spec_l2Byte (a0 : AV) (σ : AH) (R : AEnd → AH → Prop) : Prop :=
  og (ibin .geq a0 (.val (.int .u8 97))) fun v6 =>
  og (gval v6 true false (some a0)) fun v8 =>
  og (gval v6 true false (ibin .leq v8 (.val (.int .u8 122)))) fun v9 =>
  og (pickV v6 v9 (.val (.bool false))) fun v10 =>
  apick v10 (
    aret (.val (.bool true)) σ R) (
    lp (X := Tup [0, 3, 4]) (fun R1 y1 σ =>
      og (lenStr y1.2.1) fun v13 =>
      og (ibin .lss y1.2.2.1 v13) fun v14 =>
      apick v14 (
        og (idxStr y1.2.1 y1.2.2.1) fun v19 =>
        og (ibin .eql v19 y1.1) fun v21 =>
        apick v21 (
          aret (.val (.bool true)) σ R) (
          og (ibin .add y1.2.2.1 (.val (.int .i64 1))) fun v16 =>
          R1 (y1.1, y1.2.1, v16, ()) σ)) (
        aret (.val (.bool false)) σ R)) (a0, (.val (.string ⟨#[43, 45, 42, 47, 60, 61, 63, 33]⟩)), (.val (.int .i64 0)), ()) σ)
def x169 : Sx := .og (.ibin .geq (.var 0) (.lit (.val (.int .u8 97)))) (.gog (.var 0) true false (.ret (.var 1)) (.gog (.var 1) true false (.ibin .leq (.var 0) (.lit (.val (.int .u8 122)))) (.og (.pickV (.var 2) (.var 0) (.lit (.val (.bool false)))) (.apick (.var 0) (.ret (.lit (.val (.bool true)))) (.lp [0, 3, 4] (.og (.lenStr (.var 1)) (.og (.ibin .lss (.var 3) (.var 0)) (.apick (.var 0) (.og (.idxStr (.var 3) (.var 4)) (.og (.ibin .eql (.var 0) (.var 3)) (.apick (.var 0) (.ret (.lit (.val (.bool true)))) (.og (.ibin .add (.var 6) (.lit (.val (.int .i64 1)))) (.jump 0 [(.var 5), (.var 6), (.var 0)]))))) (.ret (.lit (.val (.bool false))))))) [(.var 4), (.lit (.val (.string ⟨#[43, 45, 42, 47, 60, 61, 63, 33]⟩))), (.lit (.val (.int .i64 0)))])))))
set_option maxRecDepth 1000000 in
theorem x169_ok : okF TT Tryz.f169 1 x169 = true := by decide +kernel
set_option maxRecDepth 1000000 in
theorem s_spec_l2Byte_ok {a0 : AV} {σ : AH} {R : AEnd → AH → Prop} (h : s_spec_l2Byte a0 σ R) : acall TP fn_spec_l2Byte [a0] σ R :=
  acall_okF (ρ := [a0]) TT_ok Tryz.func169 rfl x169 x169_ok rfl h

/-- loop.example/g00349/spec.l3Bare -/
def s_spec_l3Bare (a0 : AV) (σ : AH) (R : AEnd → AH → Prop) : Prop :=
  og (anil a0) fun v5 =>
  og (fldA 0 v5) fun v6 =>
  og (lod v6 σ) fun v7 =>
  og (ibin .eql v7 (.val (.int .i64 1))) fun v8 =>
  og (gval v8 false false (some a0)) fun v10 =>
  og (gval v8 false false (anil v10)) fun v11 =>
  og (gval v8 false false (fldA 0 v11)) fun v12 =>
  og (gval v8 false false (lod v12 σ)) fun v13 =>
  og (gval v8 false false (ibin .eql v13 (.val (.int .i64 2)))) fun v14 =>
  og (pickV v8 (.val (.bool true)) v14) fun v15 =>
  og (anil a0) fun v17 =>
  og (fldA 0 v17) fun v18 =>
  og (lod v18 σ) fun v19 =>
  acall TP fn_spec_l1In [v19, (.val (.int .i64 1)), (.val (.int .i64 4))] σ (onr (fun v20 σ =>
  og (gval v20 true false (some v15)) fun v22 =>
  og (gval v20 true false (some v22)) fun v23 =>
  og (gval v23 false true (some a0)) fun v24 =>
  og (gval v23 false true (anil v24)) fun v25 =>
  og (gval v23 false true (fldA 2 v25)) fun v26 =>
  og (gval v23 false true (lod v26 σ)) fun v27 =>
  og (gval v23 false true (ibin .eql v27 (.val (.int .i64 0)))) fun v28 =>
  og (gval v20 true false (pickV v23 (.val (.bool true)) v28)) fun v29 =>
  og (pickV v20 v29 (.val (.bool false))) fun v30 =>
  og (gval v30 true false (some a0)) fun v32 =>
  og (gval v30 true false (anil v32)) fun v33 =>
  og (gval v30 true false (fldA 0 v33)) fun v34 =>
  og (gval v30 true false (lod v34 σ)) fun v35 =>
  og (gval v30 true false (ibin .eql v35 (.val (.int .i64 3)))) fun v36 =>
  og (gval v30 true false (some v36)) fun v37 =>
  og (gval v37 false true (some a0)) fun v38 =>
  og (gval v37 false true (anil v38)) fun v39 =>
  og (gval v37 false true (fldA 3 v39)) fun v40 =>
  og (gval v37 false true (lod v40 σ)) fun v41 =>
  og (gval v37 false true (sbin .eql v41 (.val (.string ⟨#[]⟩)))) fun v42 =>
  og (gval v30 true false (pickV v37 (.val (.bool true)) v42)) fun v43 =>
  og (pickV v30 v43 (.val (.bool false))) fun v44 =>
  aret v44 σ R) (fun v σ => apan v σ R))
def x170 : Sx := .og (.anil (.var 0)) (.og (.fldA 0 (.var 0)) (.og (.lod (.var 0)) (.og (.ibin .eql (.var 0) (.lit (.val (.int .i64 1)))) (.gog (.var 0) false false (.ret (.var 4)) (.gog (.var 1) false false (.anil (.var 0)) (.gog (.var 2) false false (.fldA 0 (.var 0)) (.gog (.var 3) false false (.lod (.var 0)) (.gog (.var 4) false false (.ibin .eql (.var 0) (.lit (.val (.int .i64 2)))) (.og (.pickV (.var 5) (.lit (.val (.bool true))) (.var 0)) (.og (.anil (.var 10)) (.og (.fldA 0 (.var 0)) (.og (.lod (.var 0)) (.call 60 [(.var 0), (.lit (.val (.int .i64 1))), (.lit (.val (.int .i64 4)))] (.gog (.var 0) true false (.ret (.var 4)) (.gog (.var 1) true false (.ret (.var 0)) (.gog (.var 0) false true (.ret (.var 16)) (.gog (.var 1) false true (.anil (.var 0)) (.gog (.var 2) false true (.fldA 2 (.var 0)) (.gog (.var 3) false true (.lod (.var 0)) (.gog (.var 4) false true (.ibin .eql (.var 0) (.lit (.val (.int .i64 0)))) (.gog (.var 7) true false (.pickV (.var 5) (.lit (.val (.bool true))) (.var 0)) (.og (.pickV (.var 8) (.var 0) (.lit (.val (.bool false)))) (.gog (.var 0) true false (.ret (.var 23)) (.gog (.var 1) true false (.anil (.var 0)) (.gog (.var 2) true false (.fldA 0 (.var 0)) (.gog (.var 3) true false (.lod (.var 0)) (.gog (.var 4) true false (.ibin .eql (.var 0) (.lit (.val (.int .i64 3)))) (.gog (.var 5) true false (.ret (.var 0)) (.gog (.var 0) false true (.ret (.var 29)) (.gog (.var 1) false true (.anil (.var 0)) (.gog (.var 2) false true (.fldA 3 (.var 0)) (.gog (.var 3) false true (.lod (.var 0)) (.gog (.var 4) false true (.sbin .eql (.var 0) (.lit (.val (.string ⟨#[]⟩)))) (.gog (.var 11) true false (.pickV (.var 5) (.lit (.val (.bool true))) (.var 0)) (.og (.pickV (.var 12) (.var 0) (.lit (.val (.bool false)))) (.ret (.var 0)))))))))))))))))))))))))))))))))))))
set_option maxRecDepth 1000000 in
theorem x170_ok : okF TT Tryz.f170 1 x170 = true := by decide +kernel
set_option maxRecDepth 1000000 in
theorem s_spec_l3Bare_ok {a0 : AV} {σ : AH} {R : AEnd → AH → Prop} (h : s_spec_l3Bare a0 σ R) : acall TP fn_spec_l3Bare [a0] σ R :=
  acall_okF (ρ := [a0]) TT_ok Tryz.func170 rfl x170 x170_ok rfl h

/-- loop.example/g00349/spec.l1Num -/
def s_spec_l1Num (a0 : AV) (σ : AH) (R : AEnd → AH → Prop) : Prop :=
  acall TP fn_spec_l1In [a0, (.val (.int .i64 (-1000000000))), (.val (.int .i64 1000000000))] σ (onr (fun v4 σ =>
  aret v4 σ R) (fun v σ => apan v σ R))
def x171 : Sx := .call 60 [(.var 0), (.lit (.val (.int .i64 (-1000000000)))), (.lit (.val (.int .i64 1000000000)))] (.ret (.var 0))
set_option maxRecDepth 1000000 in
theorem x171_ok : okF TT Tryz.f171 1 x171 = true := by decide +kernel
set_option maxRecDepth 1000000 in
theorem s_spec_l1Num_ok {a0 : AV} {σ : AH} {R : AEnd → AH → Prop} (h : s_spec_l1Num a0 σ R) : acall TP fn_spec_l1Num [a0] σ R :=
  acall_okF (ρ := [a0]) TT_ok Tryz.func171 rfl x171 x171_ok rfl h

/-- loop.example/g00349/spec.l3Line -/
def s_spec_l3Line (a0 a1 : AV) (σ : AH) (R : AEnd → AH → Prop) : Prop :=
  og (ibin .sub a1 (.val (.int .i64 1))) fun v7 =>
  lp (X := Tup [0, 1, 5]) (fun R1 y1 σ =>
    og (ibin .geq y1.2.2.1 (.val (.int .i64 0))) fun v9 =>
    apick v9 (
      og (idx 4 y1.1 y1.2.1 σ) fun v18 =>
      og (fldA 1 v18) fun v19 =>
      og (lod v19 σ) fun v20 =>
      og (ibin .eql y1.2.2.1 v20) fun v21 =>
      apick v21 (
        og (idx 4 y1.1 y1.2.2.1 σ) fun v24 =>
        og (fldA 0 v24) fun v25 =>
        og (lod v25 σ) fun v26 =>
        og (ibin .eql v26 (.val (.int .i64 4))) fun v27 =>
        aret v27 σ R) (
        og (idx 4 y1.1 y1.2.2.1 σ) fun v12 =>
        og (fldA 1 v12) fun v13 =>
        og (lod v13 σ) fun v14 =>
        R1 (y1.1, y1.2.1, v14, ()) σ)) (
      aret (.val (.bool false)) σ R)) (a0, a1, v7, ()) σ
def x172 : Sx := .og (.ibin .sub (.var 0) (.lit (.val (.int .i64 1)))) (.lp [0, 1, 5] (.og (.ibin .geq (.var 2) (.lit (.val (.int .i64 0)))) (.apick (.var 0) (.og (.idx 4 (.var 1) (.var 2)) (.og (.fldA 1 (.var 0)) (.og (.lod (.var 0)) (.og (.ibin .eql (.var 6) (.var 0)) (.apick (.var 0) (.og (.idx 4 (.var 5) (.var 7)) (.og (.fldA 0 (.var 0)) (.og (.lod (.var 0)) (.og (.ibin .eql (.var 0) (.lit (.val (.int .i64 4)))) (.ret (.var 0)))))) (.og (.idx 4 (.var 5) (.var 7)) (.og (.fldA 1 (.var 0)) (.og (.lod (.var 0)) (.jump 0 [(.var 8), (.var 9), (.var 0)]))))))))) (.ret (.lit (.val (.bool false)))))) [(.var 2), (.var 1), (.var 0)])
set_option maxRecDepth 1000000 in
theorem x172_ok : okF TT Tryz.f172 2 x172 = true := by decide +kernel
set_option maxRecDepth 1000000 in
theorem s_spec_l3Line_ok {a0 a1 : AV} {σ : AH} {R : AEnd → AH → Prop} (h : s_spec_l3Line a0 a1 σ R) : acall TP fn_spec_l3Line [a0, a1] σ R :=
  acall_okF (ρ := [a1, a0]) TT_ok Tryz.func172 rfl x172 x172_ok rfl h

/-- loop.example/g00349/spec.l3Deep -/
def s_spec_l3Deep (a0 a1 : AV) (σ : AH) (R : AEnd → AH → Prop) : Prop :=
  lp (X := Tup [0, 1, 5]) (fun R1 y1 σ =>
    og (ibin .geq y1.2.1 (.val (.int .i64 0))) fun v7 =>
    og (gval v7 true false (some y1.2.2.1)) fun v9 =>
    og (gval v7 true false (ibin .lss v9 (.val (.int .i64 100)))) fun v10 =>
    og (pickV v7 v10 (.val (.bool false))) fun v11 =>
    apick v11 (
      og (ibin .add y1.2.2.1 (.val (.int .i64 1))) fun v13 =>
      og (idx 4 y1.1 y1.2.1 σ) fun v16 =>
      og (fldA 1 v16) fun v17 =>
      og (lod v17 σ) fun v18 =>
      R1 (y1.1, v18, v13, ()) σ) (
      aret y1.2.2.1 σ R)) (a0, a1, (.val (.int .i64 0)), ()) σ
def x173 : Sx := .lp [0, 1, 5] (.og (.ibin .geq (.var 1) (.lit (.val (.int .i64 0)))) (.gog (.var 0) true false (.ret (.var 3)) (.gog (.var 1) true false (.ibin .lss (.var 0) (.lit (.val (.int .i64 100)))) (.og (.pickV (.var 2) (.var 0) (.lit (.val (.bool false)))) (.apick (.var 0) (.og (.ibin .add (.var 6) (.lit (.val (.int .i64 1)))) (.og (.idx 4 (.var 5) (.var 6)) (.og (.fldA 1 (.var 0)) (.og (.lod (.var 0)) (.jump 0 [(.var 8), (.var 0), (.var 3)]))))) (.ret (.var 6))))))) [(.var 1), (.var 0), (.lit (.val (.int .i64 0)))]
set_option maxRecDepth 1000000 in
theorem x173_ok : okF TT Tryz.f173 2 x173 = true := by decide +kernel
set_option maxRecDepth 1000000 in
theorem s_spec_l3Deep_ok {a0 a1 : AV} {σ : AH} {R : AEnd → AH → Prop} (h : s_spec_l3Deep a0 a1 σ R) : acall TP fn_spec_l3Deep [a0, a1] σ R :=
  acall_okF (ρ := [a1, a0]) TT_ok Tryz.func173 rfl x173 x173_ok rfl h

/-- slices.IndexFunc[[]int64,int64] -/
def s_slices_IndexFunc (a0 a1 : AV) (σ : AH) (R : AEnd → AH → Prop) : Prop :=
  og (lenS a0) fun v7 =>
  lp (X := Tup [0, 1, 7, 8]) (fun R1 y1 σ =>
    og (ibin .lss y1.2.2.2.1 y1.2.2.1) fun v9 =>
    apick v9 (
      og (idx 1 y1.1 y1.2.2.2.1 σ) fun v14 =>
      og (lod v14 σ) fun v15 =>
      acallv TP y1.2.1 [v15] σ (onr (fun v16 σ =>
      apick v16 (
        aret y1.2.2.2.1 σ R) (
        og (ibin .add y1.2.2.2.1 (.val (.int .i64 1))) fun v18 =>
        R1 (y1.1, y1.2.1, y1.2.2.1, v18, ()) σ)) (fun v σ => apan v σ R))) (
      aret (.val (.int .i64 (-1))) σ R)) (a0, a1, v7, (.val (.int .i64 0)), ()) σ
def x174 : Sx := .og (.lenS (.var 1)) (.lp [0, 1, 7, 8] (.og (.ibin .lss (.var 3) (.var 2)) (.apick (.var 0) (.og (.idx 1 (.var 1) (.var 4)) (.og (.lod (.var 0)) (.callv (.var 4) [(.var 0)] (.apick (.var 0) (.ret (.var 7)) (.og (.ibin .add (.var 7) (.lit (.val (.int .i64 1)))) (.jump 0 [(.var 5), (.var 6), (.var 7), (.var 0)])))))) (.ret (.lit (.val (.int .i64 (-1))))))) [(.var 2), (.var 1), (.var 0), (.lit (.val (.int .i64 0)))])
set_option maxRecDepth 1000000 in
theorem x174_ok : okF TT Tryz.f174 2 x174 = true := by decide +kernel
set_option maxRecDepth 1000000 in
theorem s_slices_IndexFunc_ok {a0 a1 : AV} {σ : AH} {R : AEnd → AH → Prop} (h : s_slices_IndexFunc a0 a1 σ R) : acall TP fn_slices_IndexFunc [a0, a1] σ R :=
  acall_okF (ρ := [a1, a0]) TT_ok Tryz.func174 rfl x174 x174_ok rfl h

/-- strings.Trim -/
def s_strings_Trim (a0 a1 : AV) (σ : AH) (R : AEnd → AH → Prop) : Prop :=
  og (sbin .eql a0 (.val (.string ⟨#[]⟩))) fun v8 =>
  og (gval v8 false false (some a1)) fun v10 =>
  og (gval v8 false false (sbin .eql v10 (.val (.string ⟨#[]⟩)))) fun v11 =>
  og (pickV v8 (.val (.bool true)) v11) fun v12 =>
  apick v12 (
    aret a0 σ R) (
    og (lenStr a1) fun v15 =>
    og (ibin .eql v15 (.val (.int .i64 1))) fun v16 =>
    og (gval v16 true false (some a1)) fun v18 =>
    og (gval v16 true false (idxStr v18 (.val (.int .i64 0)))) fun v19 =>
    og (gval v16 true false (ibin .lss v19 (.val (.int .u8 128)))) fun v20 =>
    og (pickV v16 v20 (.val (.bool false))) fun v21 =>
    apick v21 (
      og (idxStr a1 (.val (.int .i64 0))) fun v24 =>
      og (idxStr a1 (.val (.int .i64 0))) fun v27 =>
      acall TP fn_strings_trimRightByte [a0, v24] σ (onr (fun v25 σ =>
      (True) ∧
      acall TP fn_strings_trimLeftByte [v25, v27] σ (onr (fun v28 σ =>
      (True) ∧
      aret v28 σ R) (fun v σ => apan v σ R))) (fun v σ => apan v σ R))) (
      acall TP fn_strings_makeASCIISet [a1] σ (onr (fun v31 σ =>
      og (aext v31 0) fun v32 =>
      og (aext v31 1) fun v33 =>
      new (List.replicate 256 (.val (.bool false))) σ fun v5 σ =>
      sto 256 v5 v32 σ fun σ =>
      frz v5 σ fun f5 σ =>
      apick v33 (
        acall TP fn_strings_trimRightASCII [a0, f5] σ (onr (fun v36 σ =>
        acall TP fn_strings_trimLeftASCII [v36, f5] σ (onr (fun v37 σ =>
        aret v37 σ R) (fun v σ => apan v σ R))) (fun v σ => apan v σ R))) (
        acall TP fn_strings_trimRightUnicode [a0, a1] σ (onr (fun v40 σ =>
        acall TP fn_strings_trimLeftUnicode [v40, a1] σ (onr (fun v42 σ =>
        aret v42 σ R) (fun v σ => apan v σ R))) (fun v σ => apan v σ R)))) (fun v σ => apan v σ R))))
def x175 : Sx := .og (.sbin .eql (.var 1) (.lit (.val (.string ⟨#[]⟩)))) (.gog (.var 0) false false (.ret (.var 1)) (.gog (.var 1) false false (.sbin .eql (.var 0) (.lit (.val (.string ⟨#[]⟩)))) (.og (.pickV (.var 2) (.lit (.val (.bool true))) (.var 0)) (.apick (.var 0) (.ret (.var 5)) (.og (.lenStr (.var 4)) (.og (.ibin .eql (.var 0) (.lit (.val (.int .i64 1)))) (.gog (.var 0) true false (.ret (.var 6)) (.gog (.var 1) true false (.idxStr (.var 0) (.lit (.val (.int .i64 0)))) (.gog (.var 2) true false (.ibin .lss (.var 0) (.lit (.val (.int .u8 128)))) (.og (.pickV (.var 3) (.var 0) (.lit (.val (.bool false)))) (.apick (.var 0) (.ord [0, 1, 2, 4, 5, 3, 6, 7] [0, 0, 2, 7, 0, 16, 63, 127] (.og (.idxStr (.var 10) (.lit (.val (.int .i64 0)))) (.og (.idxStr (.var 11) (.lit (.val (.int .i64 0)))) (.call 194 [(.var 13), (.var 1)] (.wat [] (.call 193 [(.var 0), (.var 1)] (.wat [] (.ret (.var 0))))))))) (.call 195 [(.var 10)] (.og (.aext (.var 0) 0) (.og (.aext (.var 1) 1) (.new (List.replicate 256 (.val (.bool false))) (.sto 256 (.var 0) (.var 2) (.frz 15 (.var 0) (.apick (.var 2) (.call 197 [(.var 16), (.var 0)] (.call 196 [(.var 0), (.var 1)] (.ret (.var 0)))) (.call 199 [(.var 16), (.var 15)] (.call 198 [(.var 0), (.var 16)] (.ret (.var 0))))))))))))))))))))))
set_option maxRecDepth 1000000 in
theorem x175_ok : okF TT Tryz.f175 2 x175 = true := by decide +kernel
set_option maxRecDepth 1000000 in
theorem s_strings_Trim_ok {a0 a1 : AV} {σ : AH} {R : AEnd → AH → Prop} (h : s_strings_Trim a0 a1 σ R) : acall TP fn_strings_Trim [a0, a1] σ R :=
  acall_okF (ρ := [a1, a0]) TT_ok Tryz.func175 rfl x175 x175_ok rfl h

/-- loop.example/g00349/impl.datumFault -/
def s_impl_datumFault (a0 a1 : AV) (σ : AH) (R : AEnd → AH → Prop) : Prop :=
  abox a0 σ fun v2 σ =>
  frz v2 σ fun f2 σ =>
  og (lod f2 σ) fun v7 =>
  og (idx 4 v7 a1 σ) fun v9 =>
  og (lodA 4 v9 σ) fun v10 =>
  new [(.val (.int .i64 0)), (.val (.int .i64 0)), (.val (.int .i64 0)), (.val (.string ⟨#[]⟩))] σ fun v5 σ =>
  sto 4 v5 v10 σ fun σ =>
  frz v5 σ fun f5 σ =>
  og (fldA 0 f5) fun v12 =>
  og (lod v12 σ) fun v13 =>
  acall TP fn_impl_in [v13, (.val (.int .i64 1)), (.val (.int .i64 4))] σ (onr (fun v14 σ =>
  og (aun .not v14) fun v15 =>
  og (gval v15 false false (fldA 2 f5)) fun v17 =>
  og (gval v15 false false (lod v17 σ)) fun v18 =>
  og (gval v15 false false (ibin .neq v18 (.val (.int .i64 0)))) fun v19 =>
  og (gval v15 false false (some v19)) fun v20 =>
  og (gval v20 true true (fldA 0 f5)) fun v21 =>
  og (gval v20 true true (lod v21 σ)) fun v22 =>
  og (gval v20 true true (ibin .neq v22 (.val (.int .i64 1)))) fun v23 =>
  og (gval v15 false false (pickV v20 v23 (.val (.bool false)))) fun v24 =>
  og (gval v15 false false (some v24)) fun v25 =>
  og (gval v25 true true (fldA 0 f5)) fun v26 =>
  og (gval v25 true true (lod v26 σ)) fun v27 =>
  og (gval v25 true true (ibin .neq v27 (.val (.int .i64 2)))) fun v28 =>
  og (gval v15 false false (pickV v25 v28 (.val (.bool false)))) fun v29 =>
  og (pickV v15 (.val (.bool true)) v29) fun v30 =>
  og (gval v30 false false (fldA 3 f5)) fun v32 =>
  og (gval v30 false false (lod v32 σ)) fun v33 =>
  og (gval v30 false false (sbin .neq v33 (.val (.string ⟨#[]⟩)))) fun v34 =>
  og (gval v30 false false (some v34)) fun v35 =>
  og (gval v35 true true (fldA 0 f5)) fun v36 =>
  og (gval v35 true true (lod v36 σ)) fun v37 =>
  og (gval v35 true true (ibin .neq v37 (.val (.int .i64 3)))) fun v38 =>
  og (gval v30 false false (pickV v35 v38 (.val (.bool false)))) fun v39 =>
  og (pickV v30 (.val (.bool true)) v39) fun v40 =>
  apick v40 (
    aret (.val (.int .i64 1)) σ R) (
    og (fldA 0 f5) fun v41 =>
    og (lod v41 σ) fun v42 =>
    og (fldA 2 f5) fun v43 =>
    og (lod v43 σ) fun v44 =>
    og (fldA 3 f5) fun v45 =>
    og (lod v45 σ) fun v46 =>
    acall TP fn_impl_kindFault [v42, (.val (.int .i64 1)), (.val (.int .i64 3)), (.val (.int .i64 2)), v44, v46] σ (onr (fun v47 σ =>
    og (ibin .neq v47 (.val (.int .i64 0))) fun v49 =>
    apick v49 (
      aret v47 σ R) (
      og (ibin .eql a1 (.val (.int .i64 0))) fun v52 =>
      apick v52 (
        og (fldA 1 f5) fun v53 =>
        og (lod v53 σ) fun v54 =>
        og (ibin .neq v54 (.val (.int .i64 (-1)))) fun v55 =>
        apick v55 (
          aret (.val (.int .i64 3)) σ R) (
          aret (.val (.int .i64 0)) σ R)) (
        og (fldA 1 f5) fun v57 =>
        og (lod v57 σ) fun v58 =>
        og (ibin .sub a1 (.val (.int .i64 1))) fun v60 =>
        acall TP fn_impl_in [v58, (.val (.int .i64 0)), v60] σ (onr (fun v61 σ =>
        og (aun .not v61) fun v62 =>
        apick v62 (
          aret (.val (.int .i64 3)) σ R) (
          jn (X := Tup [1, 2, 63]) (fun x1 σ =>
              apick x1.2.2.1 (
                aret (.val (.int .i64 1)) σ R) (
                og (lod x1.2.1 σ) fun v81 =>
                acall TP fn_impl_deep [v81, x1.1] σ (onr (fun v83 σ =>
                og (ibin .gtr v83 (.val (.int .i64 12))) fun v84 =>
                apick v84 (
                  aret (.val (.int .i64 2)) σ R) (
                  aret (.val (.int .i64 0)) σ R)) (fun v σ => apan v σ R)))) fun k1 =>
            og (lod f2 σ) fun v64 =>
            og (fldA 1 f5) fun v65 =>
            og (lod v65 σ) fun v66 =>
            og (idx 4 v64 v66 σ) fun v67 =>
            og (fldA 0 v67) fun v68 =>
            og (lod v68 σ) fun v69 =>
            og (ibin .neq v69 (.val (.int .i64 4))) fun v70 =>
            gpick v70 (
              k1 (a1, f2, (.val (.bool true)), ()) σ) (
              og (ibin .sub a1 (.val (.int .i64 1))) fun v74 =>
              og (fldA 1 f5) fun v75 =>
              og (lod v75 σ) fun v76 =>
              acall TP fn_impl_isUp [(.clo (.func fn_impl_datumFault_1) [] [f2]), v74, v76] σ (onr (fun v77 σ =>
              og (aun .not v77) fun v78 =>
              k1 (a1, f2, v78, ()) σ) (fun v σ => apan v σ R))) (False))) (fun v σ => apan v σ R))))) (fun v σ => apan v σ R)))) (fun v σ => apan v σ R))
def x176 : Sx := .box (.var 1) (.frz 2 (.var 0) (.og (.lod (.var 0)) (.og (.idx 4 (.var 0) (.var 3)) (.og (.lodA 4 (.var 0)) (.new [(.val (.int .i64 0)), (.val (.int .i64 0)), (.val (.int .i64 0)), (.val (.string ⟨#[]⟩))] (.sto 4 (.var 0) (.var 1) (.frz 7 (.var 0) (.og (.fldA 0 (.var 0)) (.og (.lod (.var 0)) (.call 62 [(.var 0), (.lit (.val (.int .i64 1))), (.lit (.val (.int .i64 4)))] (.og (.aun .not (.var 0)) (.gog (.var 0) false false (.fldA 2 (.var 4)) (.gog (.var 1) false false (.lod (.var 0)) (.gog (.var 2) false false (.ibin .neq (.var 0) (.lit (.val (.int .i64 0)))) (.gog (.var 3) false false (.ret (.var 0)) (.gog (.var 0) true true (.fldA 0 (.var 8)) (.gog (.var 1) true true (.lod (.var 0)) (.gog (.var 2) true true (.ibin .neq (.var 0) (.lit (.val (.int .i64 1)))) (.gog (.var 7) false false (.pickV (.var 3) (.var 0) (.lit (.val (.bool false)))) (.gog (.var 8) false false (.ret (.var 0)) (.gog (.var 0) true true (.fldA 0 (.var 13)) (.gog (.var 1) true true (.lod (.var 0)) (.gog (.var 2) true true (.ibin .neq (.var 0) (.lit (.val (.int .i64 2)))) (.gog (.var 12) false false (.pickV (.var 3) (.var 0) (.lit (.val (.bool false)))) (.og (.pickV (.var 13) (.lit (.val (.bool true))) (.var 0)) (.gog (.var 0) false false (.fldA 3 (.var 18)) (.gog (.var 1) false false (.lod (.var 0)) (.gog (.var 2) false false (.sbin .neq (.var 0) (.lit (.val (.string ⟨#[]⟩)))) (.gog (.var 3) false false (.ret (.var 0)) (.gog (.var 0) true true (.fldA 0 (.var 22)) (.gog (.var 1) true true (.lod (.var 0)) (.gog (.var 2) true true (.ibin .neq (.var 0) (.lit (.val (.int .i64 3)))) (.gog (.var 7) false false (.pickV (.var 3) (.var 0) (.lit (.val (.bool false)))) (.og (.pickV (.var 8) (.lit (.val (.bool true))) (.var 0)) (.apick (.var 0) (.ret (.lit (.val (.int .i64 1)))) (.og (.fldA 0 (.var 27)) (.og (.lod (.var 0)) (.og (.fldA 2 (.var 29)) (.og (.lod (.var 0)) (.og (.fldA 3 (.var 31)) (.og (.lod (.var 0)) (.call 200 [(.var 4), (.lit (.val (.int .i64 1))), (.lit (.val (.int .i64 3))), (.lit (.val (.int .i64 2))), (.var 2), (.var 0)] (.og (.ibin .neq (.var 0) (.lit (.val (.int .i64 0)))) (.apick (.var 0) (.ret (.var 1)) (.og (.ibin .eql (.var 42) (.lit (.val (.int .i64 0)))) (.apick (.var 0) (.og (.fldA 1 (.var 36)) (.og (.lod (.var 0)) (.og (.ibin .neq (.var 0) (.lit (.val (.int .i64 (-1))))) (.apick (.var 0) (.ret (.lit (.val (.int .i64 3)))) (.ret (.lit (.val (.int .i64 0)))))))) (.og (.fldA 1 (.var 36)) (.og (.lod (.var 0)) (.og (.ibin .sub (.var 45) (.lit (.val (.int .i64 1)))) (.call 62 [(.var 1), (.lit (.val (.int .i64 0))), (.var 0)] (.og (.aun .not (.var 0)) (.apick (.var 0) (.ret (.lit (.val (.int .i64 3)))) (.jn 2023 [1, 2, 63] (.apick (.var 2) (.ret (.lit (.val (.int .i64 1)))) (.og (.lod (.var 1)) (.call 202 [(.var 0), (.var 1)] (.og (.ibin .gtr (.var 0) (.lit (.val (.int .i64 12)))) (.apick (.var 0) (.ret (.lit (.val (.int .i64 2)))) (.ret (.lit (.val (.int .i64 0))))))))) (.og (.lod (.var 46)) (.og (.fldA 1 (.var 42)) (.og (.lod (.var 0)) (.og (.idx 4 (.var 2) (.var 0)) (.og (.fldA 0 (.var 0)) (.og (.lod (.var 0)) (.og (.ibin .neq (.var 0) (.lit (.val (.int .i64 4)))) (.gpick (.var 0) (.jump 0 [(.var 55), (.var 53), (.lit (.val (.bool true)))]) (.clo (.func 201) [] [(.var 53)] (.og (.ibin .sub (.var 56) (.lit (.val (.int .i64 1)))) (.og (.fldA 1 (.var 50)) (.og (.lod (.var 0)) (.call 160 [(.var 3), (.var 2), (.var 0)] (.og (.aun .not (.var 0)) (.jump 0 [(.var 61), (.var 59), (.var 0)]))))))) (.no))))))))))))))))))))))))))))))))))))))))))))))))))))))))))))))
set_option maxRecDepth 1000000 in
theorem x176_ok : okF TT Tryz.f176 2 x176 = true := by decide +kernel
set_option maxRecDepth 1000000 in
theorem s_impl_datumFault_ok {a0 a1 : AV} {σ : AH} {R : AEnd → AH → Prop} (h : s_impl_datumFault a0 a1 σ R) : acall TP fn_impl_datumFault [a0, a1] σ R :=
  acall_okF (ρ := [a1, a0]) TT_ok Tryz.func176 rfl x176 x176_ok rfl h

/-- strings.trimLeftByte -/
def s_strings_trimLeftByte (a0 a1 : AV) (σ : AH) (R : AEnd → AH → Prop) : Prop :=
  lp (X := Tup [0, 1]) (fun R1 y1 σ =>
    og (lenStr y1.1) fun v6 =>
    og (ibin .gtr v6 (.val (.int .i64 0))) fun v7 =>
    og (gval v7 true false (some y1.1)) fun v9 =>
    og (gval v7 true false (idxStr v9 (.val (.int .i64 0)))) fun v10 =>
    og (gval v7 true false (some y1.2.1)) fun v11 =>
    og (gval v7 true false (ibin .eql v10 v11)) fun v12 =>
    og (pickV v7 v12 (.val (.bool false))) fun v13 =>
    apick v13 (
      og (slcStr y1.1 (some (.val (.int .i64 1))) none) fun v15 =>
      R1 (v15, y1.2.1, ()) σ) (
      aret y1.1 σ R)) (a0, a1, ()) σ
def x193 : Sx := .lp [0, 1] (.og (.lenStr (.var 0)) (.og (.ibin .gtr (.var 0) (.lit (.val (.int .i64 0)))) (.gog (.var 0) true false (.ret (.var 2)) (.gog (.var 1) true false (.idxStr (.var 0) (.lit (.val (.int .i64 0)))) (.gog (.var 2) true false (.ret (.var 5)) (.gog (.var 3) true false (.ibin .eql (.var 1) (.var 0)) (.og (.pickV (.var 4) (.var 0) (.lit (.val (.bool false)))) (.apick (.var 0) (.og (.slcStr (.var 7) (some (.lit (.val (.int .i64 1)))) none) (.jump 0 [(.var 0), (.var 9)])) (.ret (.var 7)))))))))) [(.var 1), (.var 0)]
set_option maxRecDepth 1000000 in
theorem x193_ok : okF TT Tryz.f193 2 x193 = true := by decide +kernel
set_option maxRecDepth 1000000 in
theorem s_strings_trimLeftByte_ok {a0 a1 : AV} {σ : AH} {R : AEnd → AH → Prop} (h : s_strings_trimLeftByte a0 a1 σ R) : acall TP fn_strings_trimLeftByte [a0, a1] σ R :=
  acall_okF (ρ := [a1, a0]) TT_ok Tryz.func193 rfl x193 x193_ok rfl h

/-- strings.trimRightByte -/
def s_strings_trimRightByte (a0 a1 : AV) (σ : AH) (R : AEnd → AH → Prop) : Prop :=
  lp (X := Tup [0, 1]) (fun R1 y1 σ =>
    og (lenStr y1.1) fun v6 =>
    og (ibin .gtr v6 (.val (.int .i64 0))) fun v7 =>
    og (gval v7 true false (some y1.1)) fun v9 =>
    og (gval v7 true false (some y1.1)) fun v10 =>
    og (gval v7 true false (lenStr v10)) fun v11 =>
    og (gval v7 true false (ibin .sub v11 (.val (.int .i64 1)))) fun v12 =>
    og (gval v7 true false (idxStr v9 v12)) fun v13 =>
    og (gval v7 true false (some y1.2.1)) fun v14 =>
    og (gval v7 true false (ibin .eql v13 v14)) fun v15 =>
    og (pickV v7 v15 (.val (.bool false))) fun v16 =>
    apick v16 (
      og (lenStr y1.1) fun v19 =>
      og (ibin .sub v19 (.val (.int .i64 1))) fun v20 =>
      og (slcStr y1.1 none (some v20)) fun v21 =>
      R1 (v21, y1.2.1, ()) σ) (
      aret y1.1 σ R)) (a0, a1, ()) σ
def x194 : Sx := .lp [0, 1] (.og (.lenStr (.var 0)) (.og (.ibin .gtr (.var 0) (.lit (.val (.int .i64 0)))) (.gog (.var 0) true false (.ret (.var 2)) (.gog (.var 1) true false (.ret (.var 3)) (.gog (.var 2) true false (.lenStr (.var 0)) (.gog (.var 3) true false (.ibin .sub (.var 0) (.lit (.val (.int .i64 1)))) (.gog (.var 4) true false (.idxStr (.var 3) (.var 0)) (.gog (.var 5) true false (.ret (.var 8)) (.gog (.var 6) true false (.ibin .eql (.var 1) (.var 0)) (.og (.pickV (.var 7) (.var 0) (.lit (.val (.bool false)))) (.apick (.var 0) (.og (.lenStr (.var 10)) (.og (.ibin .sub (.var 0) (.lit (.val (.int .i64 1)))) (.og (.slcStr (.var 12) none (some (.var 0))) (.jump 0 [(.var 0), (.var 14)])))) (.ret (.var 10))))))))))))) [(.var 1), (.var 0)]
set_option maxRecDepth 1000000 in
theorem x194_ok : okF TT Tryz.f194 2 x194 = true := by decide +kernel
set_option maxRecDepth 1000000 in
theorem s_strings_trimRightByte_ok {a0 a1 : AV} {σ : AH} {R : AEnd → AH → Prop} (h : s_strings_trimRightByte a0 a1 σ R) : acall TP fn_strings_trimRightByte [a0, a1] σ R :=
  acall_okF (ρ := [a1, a0]) TT_ok Tryz.func194 rfl x194 x194_ok rfl h

/-- strings.makeASCIISet -/
def s_strings_makeASCIISet (a0 : AV) (σ : AH) (R : AEnd → AH → Prop) : Prop :=
  new (List.replicate 256 (.val (.bool false))) σ fun v2 σ =>
  lp (X := Tup [0, 2, 4]) (fun R1 y1 σ =>
    og (lenStr y1.1) fun v8 =>
    og (ibin .lss y1.2.2.1 v8) fun v9 =>
    apick v9 (
      og (idxStr y1.1 y1.2.2.1) fun v14 =>
      og (ibin .geq v14 (.val (.int .u8 128))) fun v16 =>
      apick v16 (
        og (lodA 256 y1.2.1 σ) fun v17 =>
        sto 256 y1.2.1 v17 σ fun σ =>
        og (lodA 256 y1.2.1 σ) fun r2 =>
        aret (.tup [r2, (.val (.bool false))]) σ R) (
        og (idxArr 256 1 y1.2.1 v14) fun v19 =>
        sto 1 v19 (.val (.bool true)) σ fun σ =>
        og (ibin .add y1.2.2.1 (.val (.int .i64 1))) fun v11 =>
        R1 (y1.1, y1.2.1, v11, ()) σ)) (
      og (lodA 256 y1.2.1 σ) fun v20 =>
      sto 256 y1.2.1 v20 σ fun σ =>
      og (lodA 256 y1.2.1 σ) fun r2 =>
      aret (.tup [r2, (.val (.bool true))]) σ R)) (a0, v2, (.val (.int .i64 0)), ()) σ
def x195 : Sx := .new (List.replicate 256 (.val (.bool false))) (.lp [0, 2, 4] (.og (.lenStr (.var 0)) (.og (.ibin .lss (.var 3) (.var 0)) (.apick (.var 0) (.og (.idxStr (.var 2) (.var 4)) (.og (.ibin .geq (.var 0) (.lit (.val (.int .u8 128)))) (.apick (.var 0) (.og (.lodA 256 (.var 5)) (.sto 256 (.var 6) (.var 0) (.og (.lodA 256 (.var 6)) (.rets [(.var 0), (.lit (.val (.bool false)))])))) (.og (.idxArr 256 1 (.var 5) (.var 1)) (.sto 1 (.var 0) (.lit (.val (.bool true))) (.og (.ibin .add (.var 7) (.lit (.val (.int .i64 1)))) (.jump 0 [(.var 6), (.var 7), (.var 0)]))))))) (.og (.lodA 256 (.var 3)) (.sto 256 (.var 4) (.var 0) (.og (.lodA 256 (.var 4)) (.rets [(.var 0), (.lit (.val (.bool true)))]))))))) [(.var 1), (.var 0), (.lit (.val (.int .i64 0)))])
set_option maxRecDepth 1000000 in
theorem x195_ok : okF TT Tryz.f195 1 x195 = true := by decide +kernel
set_option maxRecDepth 1000000 in
theorem s_strings_makeASCIISet_ok {a0 : AV} {σ : AH} {R : AEnd → AH → Prop} (h : s_strings_makeASCIISet a0 σ R) : acall TP fn_strings_makeASCIISet [a0] σ R :=
  acall_okF (ρ := [a0]) TT_ok Tryz.func195 rfl x195 x195_ok rfl h

/-- strings.trimLeftASCII -/
def s_strings_trimLeftASCII (a0 a1 : AV) (σ : AH) (R : AEnd → AH → Prop) : Prop :=
  jn (X := Tup [0]) (fun x1 σ =>
      aret x1.1 σ R) fun k1 =>
    lp (X := Tup [0, 1]) (fun R2 y2 σ =>
      og (lenStr y2.1) fun v6 =>
      og (ibin .gtr v6 (.val (.int .i64 0))) fun v7 =>
      apick v7 (
        og (idxStr y2.1 (.val (.int .i64 0))) fun v10 =>
        acall TP fn_strings_asciiSet_contains [y2.2.1, v10] σ (onr (fun v11 σ =>
        og (aun .not v11) fun v12 =>
        apick v12 (
          k1 (y2.1, ()) σ) (
          og (slcStr y2.1 (some (.val (.int .i64 1))) none) fun v14 =>
          R2 (v14, y2.2.1, ()) σ)) (fun v σ => apan v σ R))) (
        k1 (y2.1, ()) σ)) (a0, a1, ()) σ
def x196 : Sx := .jn 7 [0] (.ret (.var 0)) (.lp [0, 1] (.og (.lenStr (.var 0)) (.og (.ibin .gtr (.var 0) (.lit (.val (.int .i64 0)))) (.apick (.var 0) (.og (.idxStr (.var 2) (.lit (.val (.int .i64 0)))) (.call 210 [(.var 4), (.var 0)] (.og (.aun .not (.var 0)) (.apick (.var 0) (.jump 1 [(.var 5)]) (.og (.slcStr (.var 5) (some (.lit (.val (.int .i64 1)))) none) (.jump 0 [(.var 0), (.var 7)])))))) (.jump 1 [(.var 2)])))) [(.var 1), (.var 0)])
set_option maxRecDepth 1000000 in
theorem x196_ok : okF TT Tryz.f196 2 x196 = true := by decide +kernel
set_option maxRecDepth 1000000 in
theorem s_strings_trimLeftASCII_ok {a0 a1 : AV} {σ : AH} {R : AEnd → AH → Prop} (h : s_strings_trimLeftASCII a0 a1 σ R) : acall TP fn_strings_trimLeftASCII [a0, a1] σ R :=
  acall_okF (ρ := [a1, a0]) TT_ok Tryz.func196 rfl x196 x196_ok rfl h

/-- strings.trimRightASCII -/
def s_strings_trimRightASCII (a0 a1 : AV) (σ : AH) (R : AEnd → AH → Prop) : Prop :=
  jn (X := Tup [0]) (fun x1 σ =>
      aret x1.1 σ R) fun k1 =>
    lp (X := Tup [0, 1]) (fun R2 y2 σ =>
      og (lenStr y2.1) fun v6 =>
      og (ibin .gtr v6 (.val (.int .i64 0))) fun v7 =>
      apick v7 (
        og (lenStr y2.1) fun v11 =>
        og (ibin .sub v11 (.val (.int .i64 1))) fun v12 =>
        og (idxStr y2.1 v12) fun v13 =>
        acall TP fn_strings_asciiSet_contains [y2.2.1, v13] σ (onr (fun v14 σ =>
        og (aun .not v14) fun v15 =>
        apick v15 (
          k1 (y2.1, ()) σ) (
          og (lenStr y2.1) fun v18 =>
          og (ibin .sub v18 (.val (.int .i64 1))) fun v19 =>
          og (slcStr y2.1 none (some v19)) fun v20 =>
          R2 (v20, y2.2.1, ()) σ)) (fun v σ => apan v σ R))) (
        k1 (y2.1, ()) σ)) (a0, a1, ()) σ
def x197 : Sx := .jn 7 [0] (.ret (.var 0)) (.lp [0, 1] (.og (.lenStr (.var 0)) (.og (.ibin .gtr (.var 0) (.lit (.val (.int .i64 0)))) (.apick (.var 0) (.og (.lenStr (.var 2)) (.og (.ibin .sub (.var 0) (.lit (.val (.int .i64 1)))) (.og (.idxStr (.var 4) (.var 0)) (.call 210 [(.var 6), (.var 0)] (.og (.aun .not (.var 0)) (.apick (.var 0) (.jump 1 [(.var 7)]) (.og (.lenStr (.var 7)) (.og (.ibin .sub (.var 0) (.lit (.val (.int .i64 1)))) (.og (.slcStr (.var 9) none (some (.var 0))) (.jump 0 [(.var 0), (.var 11)])))))))))) (.jump 1 [(.var 2)])))) [(.var 1), (.var 0)])
set_option maxRecDepth 1000000 in
theorem x197_ok : okF TT Tryz.f197 2 x197 = true := by decide +kernel
set_option maxRecDepth 1000000 in
theorem s_strings_trimRightASCII_ok {a0 a1 : AV} {σ : AH} {R : AEnd → AH → Prop} (h : s_strings_trimRightASCII a0 a1 σ R) : acall TP fn_strings_trimRightASCII [a0, a1] σ R :=
  acall_okF (ρ := [a1, a0]) TT_ok Tryz.func197 rfl x197 x197_ok rfl h

/-- loop.example/g00349/impl.kindFault -/
def s_impl_kindFault (a0 a1 a2 a3 a4 a5 : AV) (σ : AH) (R : AEnd → AH → Prop) : Prop :=
  jn (X := Tup []) (fun x1 σ =>
      aret (.val (.int .i64 0)) σ R) fun k1 =>
    og (ibin .eql a0 a1) fun v16 =>
    apick v16 (
      acall TP fn_impl_NumFault [a4] σ (onr (fun v18 σ =>
      aret v18 σ R) (fun v σ => apan v σ R))) (
      og (ibin .eql a0 a3) fun v21 =>
      apick v21 (
        acall TP fn_impl_in [a4, (.val (.int .i64 0)), (.val (.int .i64 1))] σ (onr (fun v23 σ =>
        og (aun .not v23) fun v24 =>
        apick v24 (
          aret (.val (.int .i64 3)) σ R) (
          k1 (()) σ)) (fun v σ => apan v σ R))) (
        og (ibin .eql a0 a2) fun v27 =>
        apick v27 (
          acall TP fn_impl_SymFault [a5] σ (onr (fun v29 σ =>
          aret v29 σ R) (fun v σ => apan v σ R))) (
          k1 (()) σ)))
def x200 : Sx := .jn 7 [] (.ret (.lit (.val (.int .i64 0)))) (.og (.ibin .eql (.var 5) (.var 4)) (.apick (.var 0) (.call 214 [(.var 2)] (.ret (.var 0))) (.og (.ibin .eql (.var 6) (.var 3)) (.apick (.var 0) (.call 62 [(.var 3), (.lit (.val (.int .i64 0))), (.lit (.val (.int .i64 1)))] (.og (.aun .not (.var 0)) (.apick (.var 0) (.ret (.lit (.val (.int .i64 3)))) (.jump 0 [])))) (.og (.ibin .eql (.var 7) (.var 5)) (.apick (.var 0) (.call 138 [(.var 3)] (.ret (.var 0))) (.jump 0 [])))))))
set_option maxRecDepth 1000000 in
theorem x200_ok : okF TT Tryz.f200 6 x200 = true := by decide +kernel
set_option maxRecDepth 1000000 in
theorem s_impl_kindFault_ok {a0 a1 a2 a3 a4 a5 : AV} {σ : AH} {R : AEnd → AH → Prop} (h : s_impl_kindFault a0 a1 a2 a3 a4 a5 σ R) : acall TP fn_impl_kindFault [a0, a1, a2, a3, a4, a5] σ R :=
  acall_okF (ρ := [a5, a4, a3, a2, a1, a0]) TT_ok Tryz.func200 rfl x200 x200_ok rfl h

/-- loop.example/g00349/impl.datumFault$1 -/
def s_impl_datumFault_1 (a0 a1 : AV) (σ : AH) (R : AEnd → AH → Prop) : Prop :=
  og (lod a1 σ) fun v4 =>
  og (idx 4 v4 a0 σ) fun v6 =>
  og (fldA 1 v6) fun v7 =>
  og (lod v7 σ) fun v8 =>
  aret v8 σ R
def x201 : Sx := .og (.lod (.var 0)) (.og (.idx 4 (.var 0) (.var 2)) (.og (.fldA 1 (.var 0)) (.og (.lod (.var 0)) (.ret (.var 0)))))
set_option maxRecDepth 1000000 in
theorem x201_ok : okF TT Tryz.f201 2 x201 = true := by decide +kernel
set_option maxRecDepth 1000000 in
theorem s_impl_datumFault_1_ok {a0 a1 : AV} {σ : AH} {R : AEnd → AH → Prop} (h : s_impl_datumFault_1 a0 a1 σ R) : acall TP fn_impl_datumFault_1 [a0, a1] σ R :=
  acall_okF (ρ := [a1, a0]) TT_ok Tryz.func201 rfl x201 x201_ok rfl h

/-- loop.example/g00349/impl.deep -/
def s_impl_deep (a0 a1 : AV) (σ : AH) (R : AEnd → AH → Prop) : Prop :=
  lp (X := Tup [0, 1, 5]) (fun R1 y1 σ =>
    og (ibin .geq y1.2.1 (.val (.int .i64 0))) fun v7 =>
    apick v7 (
      og (ibin .add y1.2.2.1 (.val (.int .i64 1))) fun v14 =>
      og (idx 4 y1.1 y1.2.1 σ) fun v10 =>
      og (fldA 1 v10) fun v11 =>
      og (lod v11 σ) fun v12 =>
      R1 (y1.1, v12, v14, ()) σ) (
      aret y1.2.2.1 σ R)) (a0, a1, (.val (.int .i64 0)), ()) σ
def x202 : Sx := .lp [0, 1, 5] (.og (.ibin .geq (.var 1) (.lit (.val (.int .i64 0)))) (.apick (.var 0) (.og (.ibin .add (.var 3) (.lit (.val (.int .i64 1)))) (.og (.idx 4 (.var 2) (.var 3)) (.og (.fldA 1 (.var 0)) (.og (.lod (.var 0)) (.jump 0 [(.var 5), (.var 0), (.var 3)]))))) (.ret (.var 3)))) [(.var 1), (.var 0), (.lit (.val (.int .i64 0)))]
set_option maxRecDepth 1000000 in
theorem x202_ok : okF TT Tryz.f202 2 x202 = true := by decide +kernel
set_option maxRecDepth 1000000 in
theorem s_impl_deep_ok {a0 a1 : AV} {σ : AH} {R : AEnd → AH → Prop} (h : s_impl_deep a0 a1 σ R) : acall TP fn_impl_deep [a0, a1] σ R :=
  acall_okF (ρ := [a1, a0]) TT_ok Tryz.func202 rfl x202 x202_ok rfl h

/-- (*strings.asciiSet).contains -/
def s_strings_asciiSet_contains (a0 a1 : AV) (σ : AH) (R : AEnd → AH → Prop) : Prop :=
  og (anil a0) fun v7 =>
  og (idxArr 256 1 v7 a1) fun v8 =>
  og (lod v8 σ) fun v9 =>
  aret v9 σ R
def x210 : Sx := .og (.anil (.var 1)) (.og (.idxArr 256 1 (.var 0) (.var 1)) (.og (.lod (.var 0)) (.ret (.var 0))))
set_option maxRecDepth 1000000 in
theorem x210_ok : okF TT Tryz.f210 2 x210 = true := by decide +kernel
set_option maxRecDepth 1000000 in
theorem s_strings_asciiSet_contains_ok {a0 a1 : AV} {σ : AH} {R : AEnd → AH → Prop} (h : s_strings_asciiSet_contains a0 a1 σ R) : acall TP fn_strings_asciiSet_contains [a0, a1] σ R :=
  acall_okF (ρ := [a1, a0]) TT_ok Tryz.func210 rfl x210 x210_ok rfl h

/-- loop.example/g00349/impl.NumFault -/
def s_impl_NumFault (a0 : AV) (σ : AH) (R : AEnd → AH → Prop) : Prop :=
  acall TP fn_impl_in [a0, (.val (.int .i64 (-1000000000))), (.val (.int .i64 1000000000))] σ (onr (fun v4 σ =>
  og (aun .not v4) fun v5 =>
  apick v5 (
    aret (.val (.int .i64 3)) σ R) (
    aret (.val (.int .i64 0)) σ R)) (fun v σ => apan v σ R))
def x214 : Sx := .call 62 [(.var 0), (.lit (.val (.int .i64 (-1000000000)))), (.lit (.val (.int .i64 1000000000)))] (.og (.aun .not (.var 0)) (.apick (.var 0) (.ret (.lit (.val (.int .i64 3)))) (.ret (.lit (.val (.int .i64 0))))))
set_option maxRecDepth 1000000 in
theorem x214_ok : okF TT Tryz.f214 1 x214 = true := by decide +kernel
set_option maxRecDepth 1000000 in
theorem s_impl_NumFault_ok {a0 : AV} {σ : AH} {R : AEnd → AH → Prop} (h : s_impl_NumFault a0 σ R) : acall TP fn_impl_NumFault [a0] σ R :=
  acall_okF (ρ := [a0]) TT_ok Tryz.func214 rfl x214 x214_ok rfl h

end Go.Proofs.YtinhodpfgjddmaaGreatDoor.E
