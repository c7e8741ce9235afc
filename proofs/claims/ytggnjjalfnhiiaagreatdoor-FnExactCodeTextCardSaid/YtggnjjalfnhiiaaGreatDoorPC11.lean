import Derived.Test.YtggnjjalfnhiiaaGreatDoorPC10
/- What functions come to. Printed by mkg.py. -/
namespace Go.Proofs.YtggnjjalfnhiiaaGreatDoor.E
open Go Go.RowKit
set_option linter.unusedVariables false
set_option linter.unusedSectionVars false
variable [Lam]
/-- loop.example/g00349/laws.szDatumS -/
def s_laws_szDatumS (a0 a1 : AV) (σ : AH) (R : AEnd → AH → Prop) : Prop :=
  og (lenS a0) fun v8 =>
  og (ibin .sub a1 v8) fun v9 =>
  og (ibin .lss v9 (.val (.int .i64 0))) fun v11 =>
  apick v11 (
    aret (.val (.int .i64 (-1))) σ R) (
    lp (X := Tup [0, 1, 5]) (fun R1 y1 σ =>
      og (lenS y1.1) fun v14 =>
      og (ibin .lss y1.2.2.1 v14) fun v15 =>
      apick v15 (
        og (idx 4 y1.1 y1.2.2.1 σ) fun v20 =>
        og (lodA 4 v20 σ) fun v21 =>
        acall TP fn_laws_szDatum [v21, y1.2.1] σ (onr (fun v23 σ =>
        og (ibin .lss v23 (.val (.int .i64 0))) fun v25 =>
        apick v25 (
          aret (.val (.int .i64 (-1))) σ R) (
          og (ibin .add y1.2.2.1 (.val (.int .i64 1))) fun v17 =>
          R1 (y1.1, v23, v17, ()) σ)) (fun v σ => apan v σ R))) (
        aret y1.2.1 σ R)) (a0, v9, (.val (.int .i64 0)), ()) σ)
def x95 : Sx := .og (.lenS (.var 1)) (.og (.ibin .sub (.var 1) (.var 0)) (.og (.ibin .lss (.var 0) (.lit (.val (.int .i64 0)))) (.apick (.var 0) (.ret (.lit (.val (.int .i64 (-1))))) (.lp [0, 1, 5] (.og (.lenS (.var 0)) (.og (.ibin .lss (.var 3) (.var 0)) (.apick (.var 0) (.og (.idx 4 (.var 2) (.var 4)) (.og (.lodA 4 (.var 0)) (.call 127 [(.var 0), (.var 5)] (.og (.ibin .lss (.var 0) (.lit (.val (.int .i64 0)))) (.apick (.var 0) (.ret (.lit (.val (.int .i64 (-1))))) (.og (.ibin .add (.var 8) (.lit (.val (.int .i64 1)))) (.jump 0 [(.var 7), (.var 2), (.var 0)]))))))) (.ret (.var 3))))) [(.var 4), (.var 1), (.lit (.val (.int .i64 0)))]))))
set_option maxRecDepth 1000000 in
theorem x95_ok : okF TT Tryz.f95 2 x95 = true := by decide +kernel
set_option maxRecDepth 1000000 in
theorem s_laws_szDatumS_ok {a0 a1 : AV} {σ : AH} {R : AEnd → AH → Prop} (h : s_laws_szDatumS a0 a1 σ R) : acall TP fn_laws_szDatumS [a0, a1] σ R :=
  acall_okF (ρ := [a1, a0]) TT_ok Tryz.func95 rfl x95 x95_ok rfl h

/-- loop.example/g00349/spec.l2Sym -/
def s_spec_l2Sym (a0 : AV) (σ : AH) (R : AEnd → AH → Prop) : Prop :=
  lp (X := Tup [0, 3]) (fun R1 y1 σ =>
    og (lenStr y1.1) fun v6 =>
    og (ibin .lss y1.2.1 v6) fun v7 =>
    apick v7 (
      og (idxStr y1.1 y1.2.1) fun v12 =>
      acall TP fn_spec_l2Byte [v12] σ (onr (fun v13 σ =>
      og (aun .not v13) fun v14 =>
      apick v14 (
        aret (.val (.bool false)) σ R) (
        og (ibin .add y1.2.1 (.val (.int .i64 1))) fun v9 =>
        R1 (y1.1, v9, ()) σ)) (fun v σ => apan v σ R))) (
      og (lenStr y1.1) fun v16 =>
      acall TP fn_spec_l1In [v16, (.val (.int .i64 1)), (.val (.int .i64 12))] σ (onr (fun v17 σ =>
      aret v17 σ R) (fun v σ => apan v σ R)))) (a0, (.val (.int .i64 0)), ()) σ
def x96 : Sx := .lp [0, 3] (.og (.lenStr (.var 0)) (.og (.ibin .lss (.var 2) (.var 0)) (.apick (.var 0) (.og (.idxStr (.var 2) (.var 3)) (.call 128 [(.var 0)] (.og (.aun .not (.var 0)) (.apick (.var 0) (.ret (.lit (.val (.bool false)))) (.og (.ibin .add (.var 6) (.lit (.val (.int .i64 1)))) (.jump 0 [(.var 6), (.var 0)])))))) (.og (.lenStr (.var 2)) (.call 68 [(.var 0), (.lit (.val (.int .i64 1))), (.lit (.val (.int .i64 12)))] (.ret (.var 0))))))) [(.var 0), (.lit (.val (.int .i64 0)))]
set_option maxRecDepth 1000000 in
theorem x96_ok : okF TT Tryz.f96 1 x96 = true := by decide +kernel
set_option maxRecDepth 1000000 in
theorem s_spec_l2Sym_ok {a0 : AV} {σ : AH} {R : AEnd → AH → Prop} (h : s_spec_l2Sym a0 σ R) : acall TP fn_spec_l2Sym [a0] σ R :=
  acall_okF (ρ := [a0]) TT_ok Tryz.func96 rfl x96 x96_ok rfl h

/-- loop.example/g00349/spec.l3Fault -/
def s_spec_l3Fault (a0 : AV) (σ : AH) (R : AEnd → AH → Prop) : Prop :=
  og (lenS a0) fun v6 =>
  og (ibin .lss v6 (.val (.int .i64 1))) fun v7 =>
  og (gval v7 false false (some a0)) fun v9 =>
  og (gval v7 false false (lenS v9)) fun v10 =>
  og (gval v7 false false (ibin .gtr v10 (.val (.int .i64 80)))) fun v11 =>
  og (pickV v7 (.val (.bool true)) v11) fun v12 =>
  apick v12 (
    aret (.val (.int .i64 2)) σ R) (
    lp (X := Tup [0, 3]) (fun R1 y1 σ =>
      og (lenS y1.1) fun v15 =>
      og (ibin .lss y1.2.1 v15) fun v16 =>
      apick v16 (
        og (idx 4 y1.1 y1.2.1 σ) fun v21 =>
        acall TP fn_spec_l3Bare [v21] σ (onr (fun v23 σ =>
        og (aun .not v23) fun v24 =>
        apick v24 (
          aret (.val (.int .i64 1)) σ R) (
          jn (X := Tup [0, 3, 4, 52]) (fun x2 σ =>
              apick x2.2.2.2.1 (
                aret (.val (.int .i64 3)) σ R) (
                jn (X := Tup [0, 3, 4, 65]) (fun x3 σ =>
                    apick x3.2.2.2.1 (
                      aret (.val (.int .i64 5)) σ R) (
                      jn (X := Tup [0, 3, 88]) (fun x4 σ =>
                          apick x4.2.2.1 (
                            aret (.val (.int .i64 3)) σ R) (
                            jn (X := Tup [0, 3, 96]) (fun x5 σ =>
                                apick x5.2.2.1 (
                                  aret (.val (.int .i64 1)) σ R) (
                                  acall TP fn_spec_l3Deep [x5.1, x5.2.1] σ (onr (fun v99 σ =>
                                  og (ibin .gtr v99 (.val (.int .i64 12))) fun v100 =>
                                  apick v100 (
                                    aret (.val (.int .i64 2)) σ R) (
                                    og (ibin .add x5.2.1 (.val (.int .i64 1))) fun v18 =>
                                    R1 (x5.1, v18, ()) σ)) (fun v σ => apan v σ R)))) fun k5 =>
                              og (ibin .gtr x4.2.1 (.val (.int .i64 0))) fun v90 =>
                              og (gval v90 true false (some x4.1)) fun v92 =>
                              og (gval v90 true false (some x4.2.1)) fun v93 =>
                              gpick v90 (
                                acall TP fn_spec_l3Line [v92, v93] σ (onr (fun v94 σ =>
                                og (aun .not v94) fun v95 =>
                                k5 (x4.1, x4.2.1, v95, ()) σ) (fun v σ => apan v σ R))) (
                                k5 (x4.1, x4.2.1, (.val (.bool false)), ()) σ) (False))) fun k4 =>
                        og (ibin .eql x3.2.1 (.val (.int .i64 0))) fun v67 =>
                        og (gval v67 true false (some x3.2.2.1)) fun v69 =>
                        og (gval v67 true false (anil v69)) fun v70 =>
                        og (gval v67 true false (fldA 1 v70)) fun v71 =>
                        og (gval v67 true false (lod v71 σ)) fun v72 =>
                        og (gval v67 true false (ibin .neq v72 (.val (.int .i64 (-1))))) fun v73 =>
                        og (pickV v67 v73 (.val (.bool false))) fun v74 =>
                        og (gval v74 false false (some x3.2.1)) fun v76 =>
                        og (gval v74 false false (ibin .gtr v76 (.val (.int .i64 0)))) fun v77 =>
                        og (gval v74 false false (some v77)) fun v78 =>
                        og (gval v78 true true (some x3.2.2.1)) fun v79 =>
                        og (gval v78 true true (anil v79)) fun v80 =>
                        og (gval v78 true true (fldA 1 v80)) fun v81 =>
                        og (gval v78 true true (lod v81 σ)) fun v82 =>
                        og (gval v78 true true (some x3.2.1)) fun v83 =>
                        og (gval v78 true true (ibin .sub v83 (.val (.int .i64 1)))) fun v84 =>
                        gpick v78 (
                          acall TP fn_spec_l1In [v82, (.val (.int .i64 0)), v84] σ (onr (fun v85 σ =>
                          og (aun .not v85) fun v86 =>
                          og (gval v74 false false (some v86)) fun v87 =>
                          og (pickV v74 (.val (.bool true)) v87) fun v88 =>
                          k4 (x3.1, x3.2.1, v88, ()) σ) (fun v σ => apan v σ R))) (
                          og (gval v74 false false (some (.val (.bool false)))) fun v87 =>
                          og (pickV v74 (.val (.bool true)) v87) fun v88 =>
                          k4 (x3.1, x3.2.1, v88, ()) σ) (
                          og (gval v74 false false (pickV (.tup []) (.tup []) (.val (.bool false)))) fun v87 =>
                          og (pickV v74 (.val (.bool true)) v87) fun v88 =>
                          k4 (x3.1, x3.2.1, v88, ()) σ))) fun k3 =>
                  og (anil x2.2.2.1) fun v54 =>
                  og (fldA 0 v54) fun v55 =>
                  og (lod v55 σ) fun v56 =>
                  og (ibin .eql v56 (.val (.int .i64 3))) fun v57 =>
                  og (gval v57 true false (some x2.2.2.1)) fun v59 =>
                  og (gval v57 true false (anil v59)) fun v60 =>
                  og (gval v57 true false (fldA 3 v60)) fun v61 =>
                  og (gval v57 true false (lod v61 σ)) fun v62 =>
                  gpick v57 (
                    acall TP fn_spec_l2Sym [v62] σ (onr (fun v63 σ =>
                    og (aun .not v63) fun v64 =>
                    k3 (x2.1, x2.2.1, x2.2.2.1, v64, ()) σ) (fun v σ => apan v σ R))) (
                    k3 (x2.1, x2.2.1, x2.2.2.1, (.val (.bool false)), ()) σ) (False))) fun k2 =>
            og (anil v21) fun v26 =>
            og (fldA 0 v26) fun v27 =>
            og (lod v27 σ) fun v28 =>
            og (ibin .eql v28 (.val (.int .i64 1))) fun v29 =>
            og (gval v29 true false (some v21)) fun v31 =>
            og (gval v29 true false (anil v31)) fun v32 =>
            og (gval v29 true false (fldA 2 v32)) fun v33 =>
            og (gval v29 true false (lod v33 σ)) fun v34 =>
            gpick v29 (
              acall TP fn_spec_l1Num [v34] σ (onr (fun v35 σ =>
              og (aun .not v35) fun v36 =>
              og (gval v36 false false (some v21)) fun v39 =>
              og (gval v36 false false (anil v39)) fun v40 =>
              og (gval v36 false false (fldA 0 v40)) fun v41 =>
              og (gval v36 false false (lod v41 σ)) fun v42 =>
              og (gval v36 false false (ibin .eql v42 (.val (.int .i64 2)))) fun v43 =>
              og (gval v36 false false (some v43)) fun v44 =>
              og (gval v44 true true (some v21)) fun v45 =>
              og (gval v44 true true (anil v45)) fun v46 =>
              og (gval v44 true true (fldA 2 v46)) fun v47 =>
              og (gval v44 true true (lod v47 σ)) fun v48 =>
              gpick v44 (
                acall TP fn_spec_l1In [v48, (.val (.int .i64 0)), (.val (.int .i64 1))] σ (onr (fun v49 σ =>
                og (aun .not v49) fun v50 =>
                og (gval v36 false false (some v50)) fun v51 =>
                og (pickV v36 (.val (.bool true)) v51) fun v52 =>
                k2 (y1.1, y1.2.1, v21, v52, ()) σ) (fun v σ => apan v σ R))) (
                og (gval v36 false false (some (.val (.bool false)))) fun v51 =>
                og (pickV v36 (.val (.bool true)) v51) fun v52 =>
                k2 (y1.1, y1.2.1, v21, v52, ()) σ) (
                og (gval v36 false false (pickV (.tup []) (.tup []) (.val (.bool false)))) fun v51 =>
                og (pickV v36 (.val (.bool true)) v51) fun v52 =>
                k2 (y1.1, y1.2.1, v21, v52, ()) σ)) (fun v σ => apan v σ R))) (
              og (anil v21) fun v40 =>
              og (fldA 0 v40) fun v41 =>
              og (lod v41 σ) fun v42 =>
              og (ibin .eql v42 (.val (.int .i64 2))) fun v43 =>
              og (gval v43 true true (some v21)) fun v45 =>
              og (gval v43 true true (anil v45)) fun v46 =>
              og (gval v43 true true (fldA 2 v46)) fun v47 =>
              og (gval v43 true true (lod v47 σ)) fun v48 =>
              gpick v43 (
                acall TP fn_spec_l1In [v48, (.val (.int .i64 0)), (.val (.int .i64 1))] σ (onr (fun v49 σ =>
                og (aun .not v49) fun v50 =>
                k2 (y1.1, y1.2.1, v21, v50, ()) σ) (fun v σ => apan v σ R))) (
                k2 (y1.1, y1.2.1, v21, (.val (.bool false)), ()) σ) (
                og (pickV (.tup []) (.tup []) (.val (.bool false))) fun v51 =>
                k2 (y1.1, y1.2.1, v21, v51, ()) σ)) (False))) (fun v σ => apan v σ R))) (
        aret (.val (.int .i64 0)) σ R)) (a0, (.val (.int .i64 0)), ()) σ)
def x97 : Sx := .og (.lenS (.var 0)) (.og (.ibin .lss (.var 0) (.lit (.val (.int .i64 1)))) (.gog (.var 0) false false (.ret (.var 2)) (.gog (.var 1) false false (.lenS (.var 0)) (.gog (.var 2) false false (.ibin .gtr (.var 0) (.lit (.val (.int .i64 80)))) (.og (.pickV (.var 3) (.lit (.val (.bool true))) (.var 0)) (.apick (.var 0) (.ret (.lit (.val (.int .i64 2)))) (.lp [0, 3] (.og (.lenS (.var 0)) (.og (.ibin .lss (.var 2) (.var 0)) (.apick (.var 0) (.og (.idx 4 (.var 2) (.var 3)) (.call 129 [(.var 0)] (.og (.aun .not (.var 0)) (.apick (.var 0) (.ret (.lit (.val (.int .i64 1)))) (.jn 14925 [0, 3, 4, 52] (.apick (.var 3) (.ret (.lit (.val (.int .i64 3)))) (.jn 29853 [0, 3, 4, 65] (.apick (.var 3) (.ret (.lit (.val (.int .i64 5)))) (.jn 59709 [0, 3, 88] (.apick (.var 2) (.ret (.lit (.val (.int .i64 3)))) (.jn 119421 [0, 3, 96] (.apick (.var 2) (.ret (.lit (.val (.int .i64 1)))) (.call 132 [(.var 0), (.var 1)] (.og (.ibin .gtr (.var 0) (.lit (.val (.int .i64 12)))) (.apick (.var 0) (.ret (.lit (.val (.int .i64 2)))) (.og (.ibin .add (.var 3) (.lit (.val (.int .i64 1)))) (.jump 0 [(.var 3), (.var 0)])))))) (.og (.ibin .gtr (.var 1) (.lit (.val (.int .i64 0)))) (.gog (.var 0) true false (.ret (.var 1)) (.gog (.var 1) true false (.ret (.var 3)) (.gpick (.var 2) (.call 131 [(.var 1), (.var 0)] (.og (.aun .not (.var 0)) (.jump 0 [(.var 5), (.var 6), (.var 0)]))) (.jump 0 [(.var 3), (.var 4), (.lit (.val (.bool false)))]) (.no))))))) (.og (.ibin .eql (.var 1) (.lit (.val (.int .i64 0)))) (.gog (.var 0) true false (.ret (.var 3)) (.gog (.var 1) true false (.anil (.var 0)) (.gog (.var 2) true false (.fldA 1 (.var 0)) (.gog (.var 3) true false (.lod (.var 0)) (.gog (.var 4) true false (.ibin .neq (.var 0) (.lit (.val (.int .i64 (-1))))) (.og (.pickV (.var 5) (.var 0) (.lit (.val (.bool false)))) (.gog (.var 0) false false (.ret (.var 8)) (.gog (.var 1) false false (.ibin .gtr (.var 0) (.lit (.val (.int .i64 0)))) (.gog (.var 2) false false (.ret (.var 0)) (.gog (.var 0) true true (.ret (.var 12)) (.gog (.var 1) true true (.anil (.var 0)) (.gog (.var 2) true true (.fldA 1 (.var 0)) (.gog (.var 3) true true (.lod (.var 0)) (.gog (.var 4) true true (.ret (.var 15)) (.gog (.var 5) true true (.ibin .sub (.var 0) (.lit (.val (.int .i64 1)))) (.gpick (.var 6) (.call 68 [(.var 2), (.lit (.val (.int .i64 0))), (.var 0)] (.og (.aun .not (.var 0)) (.gog (.var 11) false false (.ret (.var 0)) (.og (.pickV (.var 12) (.lit (.val (.bool true))) (.var 0)) (.jump 0 [(.var 20), (.var 21), (.var 0)]))))) (.gog (.var 9) false false (.ret (.lit (.val (.bool false)))) (.og (.pickV (.var 10) (.lit (.val (.bool true))) (.var 0)) (.jump 0 [(.var 18), (.var 19), (.var 0)]))) (.gog (.var 9) false false (.pickV (.lit (.tup [])) (.lit (.tup [])) (.lit (.val (.bool false)))) (.og (.pickV (.var 10) (.lit (.val (.bool true))) (.var 0)) (.jump 0 [(.var 18), (.var 19), (.var 0)])))))))))))))))))))))) (.og (.anil (.var 2)) (.og (.fldA 0 (.var 0)) (.og (.lod (.var 0)) (.og (.ibin .eql (.var 0) (.lit (.val (.int .i64 3)))) (.gog (.var 0) true false (.ret (.var 6)) (.gog (.var 1) true false (.anil (.var 0)) (.gog (.var 2) true false (.fldA 3 (.var 0)) (.gog (.var 3) true false (.lod (.var 0)) (.gpick (.var 4) (.call 96 [(.var 0)] (.og (.aun .not (.var 0)) (.jump 0 [(.var 10), (.var 11), (.var 12), (.var 0)]))) (.jump 0 [(.var 8), (.var 9), (.var 10), (.lit (.val (.bool false)))]) (.no)))))))))))) (.og (.anil (.var 2)) (.og (.fldA 0 (.var 0)) (.og (.lod (.var 0)) (.og (.ibin .eql (.var 0) (.lit (.val (.int .i64 1)))) (.gog (.var 0) true false (.ret (.var 6)) (.gog (.var 1) true false (.anil (.var 0)) (.gog (.var 2) true false (.fldA 2 (.var 0)) (.gog (.var 3) true false (.lod (.var 0)) (.gpick (.var 4) (.call 130 [(.var 0)] (.og (.aun .not (.var 0)) (.gog (.var 0) false false (.ret (.var 12)) (.gog (.var 1) false false (.anil (.var 0)) (.gog (.var 2) false false (.fldA 0 (.var 0)) (.gog (.var 3) false false (.lod (.var 0)) (.gog (.var 4) false false (.ibin .eql (.var 0) (.lit (.val (.int .i64 2)))) (.gog (.var 5) false false (.ret (.var 0)) (.gog (.var 0) true true (.ret (.var 18)) (.gog (.var 1) true true (.anil (.var 0)) (.gog (.var 2) true true (.fldA 2 (.var 0)) (.gog (.var 3) true true (.lod (.var 0)) (.gpick (.var 4) (.call 68 [(.var 0), (.lit (.val (.int .i64 0))), (.lit (.val (.int .i64 1)))] (.og (.aun .not (.var 0)) (.gog (.var 12) false false (.ret (.var 0)) (.og (.pickV (.var 13) (.lit (.val (.bool true))) (.var 0)) (.jump 0 [(.var 29), (.var 30), (.var 26), (.var 0)]))))) (.gog (.var 10) false false (.ret (.lit (.val (.bool false)))) (.og (.pickV (.var 11) (.lit (.val (.bool true))) (.var 0)) (.jump 0 [(.var 27), (.var 28), (.var 24), (.var 0)]))) (.gog (.var 10) false false (.pickV (.lit (.tup [])) (.lit (.tup [])) (.lit (.val (.bool false)))) (.og (.pickV (.var 11) (.lit (.val (.bool true))) (.var 0)) (.jump 0 [(.var 27), (.var 28), (.var 24), (.var 0)])))))))))))))))) (.og (.anil (.var 10)) (.og (.fldA 0 (.var 0)) (.og (.lod (.var 0)) (.og (.ibin .eql (.var 0) (.lit (.val (.int .i64 2)))) (.gog (.var 0) true true (.ret (.var 14)) (.gog (.var 1) true true (.anil (.var 0)) (.gog (.var 2) true true (.fldA 2 (.var 0)) (.gog (.var 3) true true (.lod (.var 0)) (.gpick (.var 4) (.call 68 [(.var 0), (.lit (.val (.int .i64 0))), (.lit (.val (.int .i64 1)))] (.og (.aun .not (.var 0)) (.jump 0 [(.var 23), (.var 24), (.var 20), (.var 0)]))) (.jump 0 [(.var 21), (.var 22), (.var 18), (.lit (.val (.bool false)))]) (.og (.pickV (.lit (.tup [])) (.lit (.tup [])) (.lit (.val (.bool false)))) (.jump 0 [(.var 22), (.var 23), (.var 19), (.var 0)]))))))))))) (.no))))))))))))))) (.ret (.lit (.val (.int .i64 0))))))) [(.var 6), (.lit (.val (.int .i64 0)))])))))))
set_option maxRecDepth 1000000 in
theorem x97_ok : okF TT Tryz.f97 1 x97 = true := by decide +kernel
set_option maxRecDepth 1000000 in
theorem s_spec_l3Fault_ok {a0 : AV} {σ : AH} {R : AEnd → AH → Prop} (h : s_spec_l3Fault a0 σ R) : acall TP fn_spec_l3Fault [a0] σ R :=
  acall_okF (ρ := [a0]) TT_ok Tryz.func97 rfl x97 x97_ok rfl h

/-- loop.example/g00349/laws.toDatumS -/
def s_laws_toDatumS (a0 : AV) (σ : AH) (R : AEnd → AH → Prop) : Prop :=
  og (lenS a0) fun v6 =>
  amake TT ty_LRiiisE v6 v6 σ fun v7 σ =>
  lp (X := Tup [0, 3, 4]) (fun R1 y1 σ =>
    og (lenS y1.1) fun v10 =>
    og (ibin .lss y1.2.2.1 v10) fun v11 =>
    apick v11 (
      og (idx 4 y1.1 y1.2.2.1 σ) fun v18 =>
      og (lodA 4 v18 σ) fun v19 =>
      acall TP fn_laws_toDatum [v19] σ (onr (fun v20 σ =>
      og (idx 4 y1.2.1 y1.2.2.1 σ) fun v21 =>
      sto 4 v21 v20 σ fun σ =>
      og (ibin .add y1.2.2.1 (.val (.int .i64 1))) fun v13 =>
      R1 (y1.1, y1.2.1, v13, ()) σ) (fun v σ => apan v σ R))) (
      aret y1.2.1 σ R)) (a0, v7, (.val (.int .i64 0)), ()) σ
def x98 : Sx := .og (.lenS (.var 0)) (.mks 54 (.var 0) (.var 0) (.lp [0, 3, 4] (.og (.lenS (.var 0)) (.og (.ibin .lss (.var 3) (.var 0)) (.apick (.var 0) (.og (.idx 4 (.var 2) (.var 4)) (.og (.lodA 4 (.var 0)) (.call 133 [(.var 0)] (.og (.idx 4 (.var 6) (.var 7)) (.sto 4 (.var 0) (.var 1) (.og (.ibin .add (.var 8) (.lit (.val (.int .i64 1)))) (.jump 0 [(.var 7), (.var 8), (.var 0)]))))))) (.ret (.var 3))))) [(.var 2), (.var 0), (.lit (.val (.int .i64 0)))]))
set_option maxRecDepth 1000000 in
theorem x98_ok : okF TT Tryz.f98 1 x98 = true := by decide +kernel
set_option maxRecDepth 1000000 in
theorem s_laws_toDatumS_ok {a0 : AV} {σ : AH} {R : AEnd → AH → Prop} (h : s_laws_toDatumS a0 σ R) : acall TP fn_laws_toDatumS [a0] σ R :=
  acall_okF (ρ := [a0]) TT_ok Tryz.func98 rfl x98 x98_ok rfl h

/-- loop.example/g00349/impl.OpFault$1 -/
def s_impl_OpFault_1 (a0 : AV) (σ : AH) (R : AEnd → AH → Prop) : Prop :=
  og (ibin .neq a0 (.val (.int .i64 0))) fun v4 =>
  aret v4 σ R
def x99 : Sx := .og (.ibin .neq (.var 0) (.lit (.val (.int .i64 0)))) (.ret (.var 0))
set_option maxRecDepth 1000000 in
theorem x99_ok : okF TT Tryz.f99 1 x99 = true := by decide +kernel
set_option maxRecDepth 1000000 in
theorem s_impl_OpFault_1_ok {a0 : AV} {σ : AH} {R : AEnd → AH → Prop} (h : s_impl_OpFault_1 a0 σ R) : acall TP fn_impl_OpFault_1 [a0] σ R :=
  acall_okF (ρ := [a0]) TT_ok Tryz.func99 rfl x99 x99_ok rfl h

/-- slices.ContainsFunc[[]int64,int64] -/
def s_slices_ContainsFunc (a0 a1 : AV) (σ : AH) (R : AEnd → AH → Prop) : Prop :=
  acall TP fn_slices_IndexFunc [a0, a1] σ (onr (fun v7 σ =>
  og (ibin .geq v7 (.val (.int .i64 0))) fun v8 =>
  aret v8 σ R) (fun v σ => apan v σ R))
def x100 : Sx := .call 134 [(.var 1), (.var 0)] (.og (.ibin .geq (.var 0) (.lit (.val (.int .i64 0)))) (.ret (.var 0)))
set_option maxRecDepth 1000000 in
theorem x100_ok : okF TT Tryz.f100 2 x100 = true := by decide +kernel
set_option maxRecDepth 1000000 in
theorem s_slices_ContainsFunc_ok {a0 a1 : AV} {σ : AH} {R : AEnd → AH → Prop} (h : s_slices_ContainsFunc a0 a1 σ R) : acall TP fn_slices_ContainsFunc [a0, a1] σ R :=
  acall_okF (ρ := [a1, a0]) TT_ok Tryz.func100 rfl x100 x100_ok rfl h

/-- loop.example/g00349/impl.OpFault$2 -/
def s_impl_OpFault_2 (a0 : AV) (σ : AH) (R : AEnd → AH → Prop) : Prop :=
  acall TP fn_impl_in [a0, (.val (.int .i64 0)), (.val (.int .i64 999))] σ (onr (fun v4 σ =>
  og (aun .not v4) fun v5 =>
  aret v5 σ R) (fun v σ => apan v σ R))
def x101 : Sx := .call 72 [(.var 0), (.lit (.val (.int .i64 0))), (.lit (.val (.int .i64 999)))] (.og (.aun .not (.var 0)) (.ret (.var 0)))
set_option maxRecDepth 1000000 in
theorem x101_ok : okF TT Tryz.f101 1 x101 = true := by decide +kernel
set_option maxRecDepth 1000000 in
theorem s_impl_OpFault_2_ok {a0 : AV} {σ : AH} {R : AEnd → AH → Prop} (h : s_impl_OpFault_2 a0 σ R) : acall TP fn_impl_OpFault_2 [a0] σ R :=
  acall_okF (ρ := [a0]) TT_ok Tryz.func101 rfl x101 x101_ok rfl h

/-- loop.example/g00349/impl.SymFault -/
def s_impl_SymFault (a0 : AV) (σ : AH) (R : AEnd → AH → Prop) : Prop :=
  jn (X := Tup [11]) (fun x1 σ =>
      apick x1.1 (
        aret (.val (.int .i64 5)) σ R) (
        aret (.val (.int .i64 0)) σ R)) fun k1 =>
    og (lenStr a0) fun v4 =>
    acall TP fn_impl_in [v4, (.val (.int .i64 1)), (.val (.int .i64 12))] σ (onr (fun v5 σ =>
    og (aun .not v5) fun v6 =>
    og (gval v6 false false (some a0)) fun v8 =>
    gpick v6 (
      k1 ((.val (.bool true)), ()) σ) (
      acall TP fn_strings_Trim [v8, (.val (.string ⟨#[97, 98, 99, 100, 101, 102, 103, 104, 105, 106, 107, 108, 109, 110, 111, 112, 113, 114, 115, 116, 117, 118, 119, 120, 121, 122, 43, 45, 42, 47, 60, 61, 63, 33]⟩))] σ (onr (fun v9 σ =>
      og (sbin .neq v9 (.val (.string ⟨#[]⟩))) fun v10 =>
      k1 (v10, ()) σ) (fun v σ => apan v σ R))) (False)) (fun v σ => apan v σ R))
def x102 : Sx := .jn 13 [11] (.apick (.var 0) (.ret (.lit (.val (.int .i64 5)))) (.ret (.lit (.val (.int .i64 0))))) (.og (.lenStr (.var 0)) (.call 72 [(.var 0), (.lit (.val (.int .i64 1))), (.lit (.val (.int .i64 12)))] (.og (.aun .not (.var 0)) (.gog (.var 0) false false (.ret (.var 3)) (.gpick (.var 1) (.jump 0 [(.lit (.val (.bool true)))]) (.call 135 [(.var 0), (.lit (.val (.string ⟨#[97, 98, 99, 100, 101, 102, 103, 104, 105, 106, 107, 108, 109, 110, 111, 112, 113, 114, 115, 116, 117, 118, 119, 120, 121, 122, 43, 45, 42, 47, 60, 61, 63, 33]⟩)))] (.og (.sbin .neq (.var 0) (.lit (.val (.string ⟨#[]⟩)))) (.jump 0 [(.var 0)]))) (.no))))))
set_option maxRecDepth 1000000 in
theorem x102_ok : okF TT Tryz.f102 1 x102 = true := by decide +kernel
set_option maxRecDepth 1000000 in
theorem s_impl_SymFault_ok {a0 : AV} {σ : AH} {R : AEnd → AH → Prop} (h : s_impl_SymFault a0 σ R) : acall TP fn_impl_SymFault [a0] σ R :=
  acall_okF (ρ := [a0]) TT_ok Tryz.func102 rfl x102 x102_ok rfl h

/-- loop.example/g00349/impl.DataFault -/
def s_impl_DataFault (a0 : AV) (σ : AH) (R : AEnd → AH → Prop) : Prop :=
  og (lenS a0) fun v6 =>
  acall TP fn_impl_in [v6, (.val (.int .i64 1)), (.val (.int .i64 80))] σ (onr (fun v7 σ =>
  og (aun .not v7) fun v8 =>
  apick v8 (
    aret (.val (.int .i64 2)) σ R) (
    og (lenS a0) fun v10 =>
    lp (X := Tup [0, 10, 11]) (fun R1 y1 σ =>
      og (ibin .lss y1.2.2.1 y1.2.1) fun v12 =>
      apick v12 (
        acall TP fn_impl_datumFault [y1.1, y1.2.2.1] σ (onr (fun v16 σ =>
        og (ibin .neq v16 (.val (.int .i64 0))) fun v18 =>
        apick v18 (
          aret v16 σ R) (
          og (ibin .add y1.2.2.1 (.val (.int .i64 1))) fun v20 =>
          R1 (y1.1, y1.2.1, v20, ()) σ)) (fun v σ => apan v σ R))) (
        aret (.val (.int .i64 0)) σ R)) (a0, v10, (.val (.int .i64 0)), ()) σ)) (fun v σ => apan v σ R))
def x103 : Sx := .og (.lenS (.var 0)) (.call 72 [(.var 0), (.lit (.val (.int .i64 1))), (.lit (.val (.int .i64 80)))] (.og (.aun .not (.var 0)) (.apick (.var 0) (.ret (.lit (.val (.int .i64 2)))) (.og (.lenS (.var 3)) (.lp [0, 10, 11] (.og (.ibin .lss (.var 2) (.var 1)) (.apick (.var 0) (.call 136 [(.var 1), (.var 3)] (.og (.ibin .neq (.var 0) (.lit (.val (.int .i64 0)))) (.apick (.var 0) (.ret (.var 1)) (.og (.ibin .add (.var 5) (.lit (.val (.int .i64 1)))) (.jump 0 [(.var 4), (.var 5), (.var 0)]))))) (.ret (.lit (.val (.int .i64 0)))))) [(.var 4), (.var 0), (.lit (.val (.int .i64 0)))])))))
set_option maxRecDepth 1000000 in
theorem x103_ok : okF TT Tryz.f103 1 x103 = true := by decide +kernel
set_option maxRecDepth 1000000 in
theorem s_impl_DataFault_ok {a0 : AV} {σ : AH} {R : AEnd → AH → Prop} (h : s_impl_DataFault a0 σ R) : acall TP fn_impl_DataFault [a0] σ R :=
  acall_okF (ρ := [a0]) TT_ok Tryz.func103 rfl x103 x103_ok rfl h

/-- loop.example/g00349/laws.eqDatumS -/
def s_laws_eqDatumS (a0 a1 : AV) (σ : AH) (R : AEnd → AH → Prop) : Prop :=
  og (lenS a0) fun v7 =>
  og (lenS a1) fun v9 =>
  og (ibin .neq v7 v9) fun v10 =>
  apick v10 (
    aret (.val (.bool false)) σ R) (
    lp (X := Tup [0, 1, 5]) (fun R1 y1 σ =>
      og (lenS y1.1) fun v13 =>
      og (ibin .lss y1.2.2.1 v13) fun v14 =>
      apick v14 (
        og (idx 4 y1.1 y1.2.2.1 σ) fun v19 =>
        og (lodA 4 v19 σ) fun v20 =>
        og (idx 4 y1.2.1 y1.2.2.1 σ) fun v23 =>
        og (lodA 4 v23 σ) fun v24 =>
        acall TP fn_laws_eqDatum [v20, v24] σ (onr (fun v25 σ =>
        (True) ∧
        og (aun .not v25) fun v26 =>
        apick v26 (
          aret (.val (.bool false)) σ R) (
          og (ibin .add y1.2.2.1 (.val (.int .i64 1))) fun v16 =>
          R1 (y1.1, y1.2.1, v16, ()) σ)) (fun v σ => apan v σ R))) (
        aret (.val (.bool true)) σ R)) (a0, a1, (.val (.int .i64 0)), ()) σ)
def x109 : Sx := .og (.lenS (.var 1)) (.og (.lenS (.var 1)) (.og (.ibin .neq (.var 1) (.var 0)) (.apick (.var 0) (.ret (.lit (.val (.bool false)))) (.lp [0, 1, 5] (.og (.lenS (.var 0)) (.og (.ibin .lss (.var 3) (.var 0)) (.apick (.var 0) (.ord [0, 1, 2, 3, 4, 5, 6, 7, 8, 9] [0, 0, 3, 7, 0, 0, 48, 112, 255, 511] (.og (.idx 4 (.var 2) (.var 4)) (.og (.lodA 4 (.var 0)) (.og (.idx 4 (.var 5) (.var 6)) (.og (.lodA 4 (.var 0)) (.call 143 [(.var 2), (.var 0)] (.wat [] (.og (.aun .not (.var 0)) (.apick (.var 0) (.ret (.lit (.val (.bool false)))) (.og (.ibin .add (.var 10) (.lit (.val (.int .i64 1)))) (.jump 0 [(.var 9), (.var 10), (.var 0)]))))))))))) (.ret (.lit (.val (.bool true))))))) [(.var 4), (.var 3), (.lit (.val (.int .i64 0)))]))))
set_option maxRecDepth 1000000 in
theorem x109_ok : okF TT Tryz.f109 2 x109 = true := by decide +kernel
set_option maxRecDepth 1000000 in
theorem s_laws_eqDatumS_ok {a0 a1 : AV} {σ : AH} {R : AEnd → AH → Prop} (h : s_laws_eqDatumS a0 a1 σ R) : acall TP fn_laws_eqDatumS [a0, a1] σ R :=
  acall_okF (ρ := [a1, a0]) TT_ok Tryz.func109 rfl x109 x109_ok rfl h

/-- loop.example/g00349/laws.szDatum -/
def s_laws_szDatum (a0 a1 : AV) (σ : AH) (R : AEnd → AH → Prop) : Prop :=
  abox a0 σ fun v2 σ =>
  frz v2 σ fun f2 σ =>
  og (fldA 3 f2) fun v6 =>
  og (lod v6 σ) fun v7 =>
  og (lenStr v7) fun v8 =>
  og (ibin .sub a1 v8) fun v9 =>
  og (ibin .lss v9 (.val (.int .i64 0))) fun v11 =>
  apick v11 (
    aret (.val (.int .i64 (-1))) σ R) (
    aret v9 σ R)
def x127 : Sx := .box (.var 1) (.frz 2 (.var 0) (.og (.fldA 3 (.var 0)) (.og (.lod (.var 0)) (.og (.lenStr (.var 0)) (.og (.ibin .sub (.var 5) (.var 0)) (.og (.ibin .lss (.var 0) (.lit (.val (.int .i64 0)))) (.apick (.var 0) (.ret (.lit (.val (.int .i64 (-1))))) (.ret (.var 1)))))))))
set_option maxRecDepth 1000000 in
theorem x127_ok : okF TT Tryz.f127 2 x127 = true := by decide +kernel
set_option maxRecDepth 1000000 in
theorem s_laws_szDatum_ok {a0 a1 : AV} {σ : AH} {R : AEnd → AH → Prop} (h : s_laws_szDatum a0 a1 σ R) : acall TP fn_laws_szDatum [a0, a1] σ R :=
  acall_okF (ρ := [a1, a0]) TT_ok Tryz.func127 rfl x127 x127_ok rfl h

/-- loop.example/g00349/spec.l2Byte -/
def s_spec_l2Byte (a0 : AV) (σ : AH) (R : AEnd → AH → Prop) : Prop :=
  og (ibin .geq a0 (.val (.int .u8 97))) fun v6 =>
  og (gval v6 true false (some a0)) fun v8 =>
  og (gval v6 true false (ibin .leq v8 (.val (.int .u8 122)))) fun v9 =>
  og (pickV v6 v9 (.val (.bool false))) fun v10 =>
  apick v10 (
    aret (.val (.bool true)) σ R) (
    lp (X := Tup [0, 3, 4]) (fun R1 y1 σ =>
      og (lenStr y1.2.1) fun v13 =>
      og (ibin .lss y1.2.2.1 v13) fun v14 =>
      apick v14 (
        og (idxStr y1.2.1 y1.2.2.1) fun v19 =>
        og (ibin .eql v19 y1.1) fun v21 =>
        apick v21 (
          aret (.val (.bool true)) σ R) (
          og (ibin .add y1.2.2.1 (.val (.int .i64 1))) fun v16 =>
          R1 (y1.1, y1.2.1, v16, ()) σ)) (
        aret (.val (.bool false)) σ R)) (a0, (.val (.string ⟨#[43, 45, 42, 47, 60, 61, 63, 33]⟩)), (.val (.int .i64 0)), ()) σ)
def x128 : Sx := .og (.ibin .geq (.var 0) (.lit (.val (.int .u8 97)))) (.gog (.var 0) true false (.ret (.var 1)) (.gog (.var 1) true false (.ibin .leq (.var 0) (.lit (.val (.int .u8 122)))) (.og (.pickV (.var 2) (.var 0) (.lit (.val (.bool false)))) (.apick (.var 0) (.ret (.lit (.val (.bool true)))) (.lp [0, 3, 4] (.og (.lenStr (.var 1)) (.og (.ibin .lss (.var 3) (.var 0)) (.apick (.var 0) (.og (.idxStr (.var 3) (.var 4)) (.og (.ibin .eql (.var 0) (.var 3)) (.apick (.var 0) (.ret (.lit (.val (.bool true)))) (.og (.ibin .add (.var 6) (.lit (.val (.int .i64 1)))) (.jump 0 [(.var 5), (.var 6), (.var 0)]))))) (.ret (.lit (.val (.bool false))))))) [(.var 4), (.lit (.val (.string ⟨#[43, 45, 42, 47, 60, 61, 63, 33]⟩))), (.lit (.val (.int .i64 0)))])))))
set_option maxRecDepth 1000000 in
theorem x128_ok : okF TT Tryz.f128 1 x128 = true := by decide +kernel
set_option maxRecDepth 1000000 in
theorem s_spec_l2Byte_ok {a0 : AV} {σ : AH} {R : AEnd → AH → Prop} (h : s_spec_l2Byte a0 σ R) : acall TP fn_spec_l2Byte [a0] σ R :=
  acall_okF (ρ := [a0]) TT_ok Tryz.func128 rfl x128 x128_ok rfl h

/-- loop.example/g00349/spec.l3Bare -/
def s_spec_l3Bare (a0 : AV) (σ : AH) (R : AEnd → AH → Prop) : Prop :=
  og (anil a0) fun v5 =>
  og (fldA 0 v5) fun v6 =>
  og (lod v6 σ) fun v7 =>
  og (ibin .eql v7 (.val (.int .i64 1))) fun v8 =>
  og (gval v8 false false (some a0)) fun v10 =>
  og (gval v8 false false (anil v10)) fun v11 =>
  og (gval v8 false false (fldA 0 v11)) fun v12 =>
  og (gval v8 false false (lod v12 σ)) fun v13 =>
  og (gval v8 false false (ibin .eql v13 (.val (.int .i64 2)))) fun v14 =>
  og (pickV v8 (.val (.bool true)) v14) fun v15 =>
  og (anil a0) fun v17 =>
  og (fldA 0 v17) fun v18 =>
  og (lod v18 σ) fun v19 =>
  acall TP fn_spec_l1In [v19, (.val (.int .i64 1)), (.val (.int .i64 4))] σ (onr (fun v20 σ =>
  og (gval v20 true false (some v15)) fun v22 =>
  og (gval v20 true false (some v22)) fun v23 =>
  og (gval v23 false true (some a0)) fun v24 =>
  og (gval v23 false true (anil v24)) fun v25 =>
  og (gval v23 false true (fldA 2 v25)) fun v26 =>
  og (gval v23 false true (lod v26 σ)) fun v27 =>
  og (gval v23 false true (ibin .eql v27 (.val (.int .i64 0)))) fun v28 =>
  og (gval v20 true false (pickV v23 (.val (.bool true)) v28)) fun v29 =>
  og (pickV v20 v29 (.val (.bool false))) fun v30 =>
  og (gval v30 true false (some a0)) fun v32 =>
  og (gval v30 true false (anil v32)) fun v33 =>
  og (gval v30 true false (fldA 0 v33)) fun v34 =>
  og (gval v30 true false (lod v34 σ)) fun v35 =>
  og (gval v30 true false (ibin .eql v35 (.val (.int .i64 3)))) fun v36 =>
  og (gval v30 true false (some v36)) fun v37 =>
  og (gval v37 false true (some a0)) fun v38 =>
  og (gval v37 false true (anil v38)) fun v39 =>
  og (gval v37 false true (fldA 3 v39)) fun v40 =>
  og (gval v37 false true (lod v40 σ)) fun v41 =>
  og (gval v37 false true (sbin .eql v41 (.val (.string ⟨#[]⟩)))) fun v42 =>
  og (gval v30 true false (pickV v37 (.val (.bool true)) v42)) fun v43 =>
  og (pickV v30 v43 (.val (.bool false))) fun v44 =>
  aret v44 σ R) (fun v σ => apan v σ R))
def x129 : Sx := .og (.anil (.var 0)) (.og (.fldA 0 (.var 0)) (.og (.lod (.var 0)) (.og (.ibin .eql (.var 0) (.lit (.val (.int .i64 1)))) (.gog (.var 0) false false (.ret (.var 4)) (.gog (.var 1) false false (.anil (.var 0)) (.gog (.var 2) false false (.fldA 0 (.var 0)) (.gog (.var 3) false false (.lod (.var 0)) (.gog (.var 4) false false (.ibin .eql (.var 0) (.lit (.val (.int .i64 2)))) (.og (.pickV (.var 5) (.lit (.val (.bool true))) (.var 0)) (.og (.anil (.var 10)) (.og (.fldA 0 (.var 0)) (.og (.lod (.var 0)) (.call 68 [(.var 0), (.lit (.val (.int .i64 1))), (.lit (.val (.int .i64 4)))] (.gog (.var 0) true false (.ret (.var 4)) (.gog (.var 1) true false (.ret (.var 0)) (.gog (.var 0) false true (.ret (.var 16)) (.gog (.var 1) false true (.anil (.var 0)) (.gog (.var 2) false true (.fldA 2 (.var 0)) (.gog (.var 3) false true (.lod (.var 0)) (.gog (.var 4) false true (.ibin .eql (.var 0) (.lit (.val (.int .i64 0)))) (.gog (.var 7) true false (.pickV (.var 5) (.lit (.val (.bool true))) (.var 0)) (.og (.pickV (.var 8) (.var 0) (.lit (.val (.bool false)))) (.gog (.var 0) true false (.ret (.var 23)) (.gog (.var 1) true false (.anil (.var 0)) (.gog (.var 2) true false (.fldA 0 (.var 0)) (.gog (.var 3) true false (.lod (.var 0)) (.gog (.var 4) true false (.ibin .eql (.var 0) (.lit (.val (.int .i64 3)))) (.gog (.var 5) true false (.ret (.var 0)) (.gog (.var 0) false true (.ret (.var 29)) (.gog (.var 1) false true (.anil (.var 0)) (.gog (.var 2) false true (.fldA 3 (.var 0)) (.gog (.var 3) false true (.lod (.var 0)) (.gog (.var 4) false true (.sbin .eql (.var 0) (.lit (.val (.string ⟨#[]⟩)))) (.gog (.var 11) true false (.pickV (.var 5) (.lit (.val (.bool true))) (.var 0)) (.og (.pickV (.var 12) (.var 0) (.lit (.val (.bool false)))) (.ret (.var 0)))))))))))))))))))))))))))))))))))))
set_option maxRecDepth 1000000 in
theorem x129_ok : okF TT Tryz.f129 1 x129 = true := by decide +kernel
set_option maxRecDepth 1000000 in
theorem s_spec_l3Bare_ok {a0 : AV} {σ : AH} {R : AEnd → AH → Prop} (h : s_spec_l3Bare a0 σ R) : acall TP fn_spec_l3Bare [a0] σ R :=
  acall_okF (ρ := [a0]) TT_ok Tryz.func129 rfl x129 x129_ok rfl h

/-- loop.example/g00349/spec.l1Num -/
def s_spec_l1Num (a0 : AV) (σ : AH) (R : AEnd → AH → Prop) : Prop :=
  acall TP fn_spec_l1In [a0, (.val (.int .i64 (-1000000000))), (.val (.int .i64 1000000000))] σ (onr (fun v4 σ =>
  aret v4 σ R) (fun v σ => apan v σ R))
def x130 : Sx := .call 68 [(.var 0), (.lit (.val (.int .i64 (-1000000000)))), (.lit (.val (.int .i64 1000000000)))] (.ret (.var 0))
set_option maxRecDepth 1000000 in
theorem x130_ok : okF TT Tryz.f130 1 x130 = true := by decide +kernel
set_option maxRecDepth 1000000 in
theorem s_spec_l1Num_ok {a0 : AV} {σ : AH} {R : AEnd → AH → Prop} (h : s_spec_l1Num a0 σ R) : acall TP fn_spec_l1Num [a0] σ R :=
  acall_okF (ρ := [a0]) TT_ok Tryz.func130 rfl x130 x130_ok rfl h

/-- loop.example/g00349/spec.l3Line -/
def s_spec_l3Line (a0 a1 : AV) (σ : AH) (R : AEnd → AH → Prop) : Prop :=
  og (ibin .sub a1 (.val (.int .i64 1))) fun v7 =>
  lp (X := Tup [0, 1, 5]) (fun R1 y1 σ =>
    og (ibin .geq y1.2.2.1 (.val (.int .i64 0))) fun v9 =>
    apick v9 (
      og (idx 4 y1.1 y1.2.1 σ) fun v18 =>
      og (fldA 1 v18) fun v19 =>
      og (lod v19 σ) fun v20 =>
      og (ibin .eql y1.2.2.1 v20) fun v21 =>
      apick v21 (
        og (idx 4 y1.1 y1.2.2.1 σ) fun v24 =>
        og (fldA 0 v24) fun v25 =>
        og (lod v25 σ) fun v26 =>
        og (ibin .eql v26 (.val (.int .i64 4))) fun v27 =>
        aret v27 σ R) (
        og (idx 4 y1.1 y1.2.2.1 σ) fun v12 =>
        og (fldA 1 v12) fun v13 =>
        og (lod v13 σ) fun v14 =>
        R1 (y1.1, y1.2.1, v14, ()) σ)) (
      aret (.val (.bool false)) σ R)) (a0, a1, v7, ()) σ
def x131 : Sx := .og (.ibin .sub (.var 0) (.lit (.val (.int .i64 1)))) (.lp [0, 1, 5] (.og (.ibin .geq (.var 2) (.lit (.val (.int .i64 0)))) (.apick (.var 0) (.og (.idx 4 (.var 1) (.var 2)) (.og (.fldA 1 (.var 0)) (.og (.lod (.var 0)) (.og (.ibin .eql (.var 6) (.var 0)) (.apick (.var 0) (.og (.idx 4 (.var 5) (.var 7)) (.og (.fldA 0 (.var 0)) (.og (.lod (.var 0)) (.og (.ibin .eql (.var 0) (.lit (.val (.int .i64 4)))) (.ret (.var 0)))))) (.og (.idx 4 (.var 5) (.var 7)) (.og (.fldA 1 (.var 0)) (.og (.lod (.var 0)) (.jump 0 [(.var 8), (.var 9), (.var 0)]))))))))) (.ret (.lit (.val (.bool false)))))) [(.var 2), (.var 1), (.var 0)])
set_option maxRecDepth 1000000 in
theorem x131_ok : okF TT Tryz.f131 2 x131 = true := by decide +kernel
set_option maxRecDepth 1000000 in
theorem s_spec_l3Line_ok {a0 a1 : AV} {σ : AH} {R : AEnd → AH → Prop} (h : s_spec_l3Line a0 a1 σ R) : acall TP fn_spec_l3Line [a0, a1] σ R :=
  acall_okF (ρ := [a1, a0]) TT_ok Tryz.func131 rfl x131 x131_ok rfl h

/-- loop.example/g00349/spec.l3Deep -/
def s_spec_l3Deep (a0 a1 : AV) (σ : AH) (R : AEnd → AH → Prop) : Prop :=
  lp (X := Tup [0, 1, 5]) (fun R1 y1 σ =>
    og (ibin .geq y1.2.1 (.val (.int .i64 0))) fun v7 =>
    og (gval v7 true false (some y1.2.2.1)) fun v9 =>
    og (gval v7 true false (ibin .lss v9 (.val (.int .i64 100)))) fun v10 =>
    og (pickV v7 v10 (.val (.bool false))) fun v11 =>
    apick v11 (
      og (ibin .add y1.2.2.1 (.val (.int .i64 1))) fun v13 =>
      og (idx 4 y1.1 y1.2.1 σ) fun v16 =>
      og (fldA 1 v16) fun v17 =>
      og (lod v17 σ) fun v18 =>
      R1 (y1.1, v18, v13, ()) σ) (
      aret y1.2.2.1 σ R)) (a0, a1, (.val (.int .i64 0)), ()) σ
def x132 : Sx := .lp [0, 1, 5] (.og (.ibin .geq (.var 1) (.lit (.val (.int .i64 0)))) (.gog (.var 0) true false (.ret (.var 3)) (.gog (.var 1) true false (.ibin .lss (.var 0) (.lit (.val (.int .i64 100)))) (.og (.pickV (.var 2) (.var 0) (.lit (.val (.bool false)))) (.apick (.var 0) (.og (.ibin .add (.var 6) (.lit (.val (.int .i64 1)))) (.og (.idx 4 (.var 5) (.var 6)) (.og (.fldA 1 (.var 0)) (.og (.lod (.var 0)) (.jump 0 [(.var 8), (.var 0), (.var 3)]))))) (.ret (.var 6))))))) [(.var 1), (.var 0), (.lit (.val (.int .i64 0)))]
set_option maxRecDepth 1000000 in
theorem x132_ok : okF TT Tryz.f132 2 x132 = true := by decide +kernel
set_option maxRecDepth 1000000 in
theorem s_spec_l3Deep_ok {a0 a1 : AV} {σ : AH} {R : AEnd → AH → Prop} (h : s_spec_l3Deep a0 a1 σ R) : acall TP fn_spec_l3Deep [a0, a1] σ R :=
  acall_okF (ρ := [a1, a0]) TT_ok Tryz.func132 rfl x132 x132_ok rfl h

/-- loop.example/g00349/laws.toDatum -/
def s_laws_toDatum (a0 : AV) (σ : AH) (R : AEnd → AH → Prop) : Prop :=
  abox a0 σ fun v1 σ =>
  new [(.val (.int .i64 0)), (.val (.int .i64 0)), (.val (.int .i64 0)), (.val (.string ⟨#[]⟩))] σ fun v2 σ =>
  frz v1 σ fun f1 σ =>
  new [(.val (.int .i64 0)), (.val (.int .i64 0)), (.val (.int .i64 0)), (.val (.string ⟨#[]⟩))] σ fun v3 σ =>
  og (fldA 0 f1) fun v4 =>
  og (lod v4 σ) fun v5 =>
  og (fldA 0 v3) fun v6 =>
  sto 1 v6 v5 σ fun σ =>
  og (fldA 1 f1) fun v7 =>
  og (lod v7 σ) fun v8 =>
  og (fldA 1 v3) fun v9 =>
  sto 1 v9 v8 σ fun σ =>
  og (fldA 2 f1) fun v10 =>
  og (lod v10 σ) fun v11 =>
  og (fldA 2 v3) fun v12 =>
  sto 1 v12 v11 σ fun σ =>
  og (fldA 3 f1) fun v13 =>
  og (lod v13 σ) fun v14 =>
  og (fldA 3 v3) fun v15 =>
  sto 1 v15 v14 σ fun σ =>
  frz v3 σ fun f3 σ =>
  og (lodA 4 f3 σ) fun v16 =>
  sto 4 v2 v16 σ fun σ =>
  og (lodA 4 v2 σ) fun r2 =>
  aret r2 σ R
def x133 : Sx := .box (.var 0) (.new [(.val (.int .i64 0)), (.val (.int .i64 0)), (.val (.int .i64 0)), (.val (.string ⟨#[]⟩))] (.frz 1 (.var 1) (.new [(.val (.int .i64 0)), (.val (.int .i64 0)), (.val (.int .i64 0)), (.val (.string ⟨#[]⟩))] (.og (.fldA 0 (.var 1)) (.og (.lod (.var 0)) (.og (.fldA 0 (.var 2)) (.sto 1 (.var 0) (.var 1) (.og (.fldA 1 (.var 4)) (.og (.lod (.var 0)) (.og (.fldA 1 (.var 5)) (.sto 1 (.var 0) (.var 1) (.og (.fldA 2 (.var 7)) (.og (.lod (.var 0)) (.og (.fldA 2 (.var 8)) (.sto 1 (.var 0) (.var 1) (.og (.fldA 3 (.var 10)) (.og (.lod (.var 0)) (.og (.fldA 3 (.var 11)) (.sto 1 (.var 0) (.var 1) (.frz 4 (.var 12) (.og (.lodA 4 (.var 0)) (.sto 4 (.var 16) (.var 0) (.og (.lodA 4 (.var 16)) (.ret (.var 0)))))))))))))))))))))))))
set_option maxRecDepth 1000000 in
theorem x133_ok : okF TT Tryz.f133 1 x133 = true := by decide +kernel
set_option maxRecDepth 1000000 in
theorem s_laws_toDatum_ok {a0 : AV} {σ : AH} {R : AEnd → AH → Prop} (h : s_laws_toDatum a0 σ R) : acall TP fn_laws_toDatum [a0] σ R :=
  acall_okF (ρ := [a0]) TT_ok Tryz.func133 rfl x133 x133_ok rfl h

/-- slices.IndexFunc[[]int64,int64] -/
def s_slices_IndexFunc (a0 a1 : AV) (σ : AH) (R : AEnd → AH → Prop) : Prop :=
  og (lenS a0) fun v7 =>
  lp (X := Tup [0, 1, 7, 8]) (fun R1 y1 σ =>
    og (ibin .lss y1.2.2.2.1 y1.2.2.1) fun v9 =>
    apick v9 (
      og (idx 1 y1.1 y1.2.2.2.1 σ) fun v14 =>
      og (lod v14 σ) fun v15 =>
      acallv TP y1.2.1 [v15] σ (onr (fun v16 σ =>
      apick v16 (
        aret y1.2.2.2.1 σ R) (
        og (ibin .add y1.2.2.2.1 (.val (.int .i64 1))) fun v18 =>
        R1 (y1.1, y1.2.1, y1.2.2.1, v18, ()) σ)) (fun v σ => apan v σ R))) (
      aret (.val (.int .i64 (-1))) σ R)) (a0, a1, v7, (.val (.int .i64 0)), ()) σ
def x134 : Sx := .og (.lenS (.var 1)) (.lp [0, 1, 7, 8] (.og (.ibin .lss (.var 3) (.var 2)) (.apick (.var 0) (.og (.idx 1 (.var 1) (.var 4)) (.og (.lod (.var 0)) (.callv (.var 4) [(.var 0)] (.apick (.var 0) (.ret (.var 7)) (.og (.ibin .add (.var 7) (.lit (.val (.int .i64 1)))) (.jump 0 [(.var 5), (.var 6), (.var 7), (.var 0)])))))) (.ret (.lit (.val (.int .i64 (-1))))))) [(.var 2), (.var 1), (.var 0), (.lit (.val (.int .i64 0)))])
set_option maxRecDepth 1000000 in
theorem x134_ok : okF TT Tryz.f134 2 x134 = true := by decide +kernel
set_option maxRecDepth 1000000 in
theorem s_slices_IndexFunc_ok {a0 a1 : AV} {σ : AH} {R : AEnd → AH → Prop} (h : s_slices_IndexFunc a0 a1 σ R) : acall TP fn_slices_IndexFunc [a0, a1] σ R :=
  acall_okF (ρ := [a1, a0]) TT_ok Tryz.func134 rfl x134 x134_ok rfl h

/-- strings.Trim -/
def s_strings_Trim (a0 a1 : AV) (σ : AH) (R : AEnd → AH → Prop) : Prop :=
  og (sbin .eql a0 (.val (.string ⟨#[]⟩))) fun v8 =>
  og (gval v8 false false (some a1)) fun v10 =>
  og (gval v8 false false (sbin .eql v10 (.val (.string ⟨#[]⟩)))) fun v11 =>
  og (pickV v8 (.val (.bool true)) v11) fun v12 =>
  apick v12 (
    aret a0 σ R) (
    og (lenStr a1) fun v15 =>
    og (ibin .eql v15 (.val (.int .i64 1))) fun v16 =>
    og (gval v16 true false (some a1)) fun v18 =>
    og (gval v16 true false (idxStr v18 (.val (.int .i64 0)))) fun v19 =>
    og (gval v16 true false (ibin .lss v19 (.val (.int .u8 128)))) fun v20 =>
    og (pickV v16 v20 (.val (.bool false))) fun v21 =>
    apick v21 (
      og (idxStr a1 (.val (.int .i64 0))) fun v24 =>
      og (idxStr a1 (.val (.int .i64 0))) fun v27 =>
      acall TP fn_strings_trimRightByte [a0, v24] σ (onr (fun v25 σ =>
      (True) ∧
      acall TP fn_strings_trimLeftByte [v25, v27] σ (onr (fun v28 σ =>
      (True) ∧
      aret v28 σ R) (fun v σ => apan v σ R))) (fun v σ => apan v σ R))) (
      acall TP fn_strings_makeASCIISet [a1] σ (onr (fun v31 σ =>
      og (aext v31 0) fun v32 =>
      og (aext v31 1) fun v33 =>
      new (List.replicate 256 (.val (.bool false))) σ fun v5 σ =>
      sto 256 v5 v32 σ fun σ =>
      frz v5 σ fun f5 σ =>
      apick v33 (
        acall TP fn_strings_trimRightASCII [a0, f5] σ (onr (fun v36 σ =>
        acall TP fn_strings_trimLeftASCII [v36, f5] σ (onr (fun v37 σ =>
        aret v37 σ R) (fun v σ => apan v σ R))) (fun v σ => apan v σ R))) (
        acall TP fn_strings_trimRightUnicode [a0, a1] σ (onr (fun v40 σ =>
        acall TP fn_strings_trimLeftUnicode [v40, a1] σ (onr (fun v42 σ =>
        aret v42 σ R) (fun v σ => apan v σ R))) (fun v σ => apan v σ R)))) (fun v σ => apan v σ R))))
def x135 : Sx := .og (.sbin .eql (.var 1) (.lit (.val (.string ⟨#[]⟩)))) (.gog (.var 0) false false (.ret (.var 1)) (.gog (.var 1) false false (.sbin .eql (.var 0) (.lit (.val (.string ⟨#[]⟩)))) (.og (.pickV (.var 2) (.lit (.val (.bool true))) (.var 0)) (.apick (.var 0) (.ret (.var 5)) (.og (.lenStr (.var 4)) (.og (.ibin .eql (.var 0) (.lit (.val (.int .i64 1)))) (.gog (.var 0) true false (.ret (.var 6)) (.gog (.var 1) true false (.idxStr (.var 0) (.lit (.val (.int .i64 0)))) (.gog (.var 2) true false (.ibin .lss (.var 0) (.lit (.val (.int .u8 128)))) (.og (.pickV (.var 3) (.var 0) (.lit (.val (.bool false)))) (.apick (.var 0) (.ord [0, 1, 2, 4, 5, 3, 6, 7] [0, 0, 2, 7, 0, 16, 63, 127] (.og (.idxStr (.var 10) (.lit (.val (.int .i64 0)))) (.og (.idxStr (.var 11) (.lit (.val (.int .i64 0)))) (.call 162 [(.var 13), (.var 1)] (.wat [] (.call 161 [(.var 0), (.var 1)] (.wat [] (.ret (.var 0))))))))) (.call 163 [(.var 10)] (.og (.aext (.var 0) 0) (.og (.aext (.var 1) 1) (.new (List.replicate 256 (.val (.bool false))) (.sto 256 (.var 0) (.var 2) (.frz 15 (.var 0) (.apick (.var 2) (.call 165 [(.var 16), (.var 0)] (.call 164 [(.var 0), (.var 1)] (.ret (.var 0)))) (.call 167 [(.var 16), (.var 15)] (.call 166 [(.var 0), (.var 16)] (.ret (.var 0))))))))))))))))))))))
set_option maxRecDepth 1000000 in
theorem x135_ok : okF TT Tryz.f135 2 x135 = true := by decide +kernel
set_option maxRecDepth 1000000 in
theorem s_strings_Trim_ok {a0 a1 : AV} {σ : AH} {R : AEnd → AH → Prop} (h : s_strings_Trim a0 a1 σ R) : acall TP fn_strings_Trim [a0, a1] σ R :=
  acall_okF (ρ := [a1, a0]) TT_ok Tryz.func135 rfl x135 x135_ok rfl h

end Go.Proofs.YtggnjjalfnhiiaaGreatDoor.E
