/- What functions come to. Printed by mkg.py. -/
import Derived.Test.YtnmggfcjbpnekaaGZ0
namespace Go.Proofs.Ytnmggfcjbpnekaa.E
open Go Go.RowKit
set_option linter.unusedVariables false
set_option linter.unusedSectionVars false
variable [Lam]
/-- loop.example/g00349/laws.FnAparts -/
def s_laws_FnAparts (a0 : AV) (σ : AH) (R : AEnd → AH → Prop) : Prop :=
  acall TP fn_laws_lwBig [a0] σ (onr (fun v8 σ =>
  apick v8 (
    aret (.val (.bool true)) σ R) (
    acall TP fn_spec_DrawFirstApart [a0] σ (onr (fun v11 σ =>
    og (aext v11 0) fun v12 =>
    og (aext v11 1) fun v13 =>
    acall TP fn_impl_FirstApart [v12, v13] σ (onr (fun v16 σ =>
    new [(.val (.int .i64 0)), (.val (.int .i64 0))] σ fun v5 σ =>
    sto 2 v5 v16 σ fun σ =>
    frz v5 σ fun f5 σ =>
    og (fldA 0 f5) fun v17 =>
    og (lod v17 σ) fun v18 =>
    og (ibin .eql v18 (.val (.int .i64 2))) fun v19 =>
    apick v19 (
      og (fldA 0 f5) fun v24 =>
      og (lod v24 σ) fun v25 =>
      acall TP fn_spec_FirstApart [v12, v13] σ (onr (fun v22 σ =>
      (lod v24 σ = some v25 ∧ True) ∧
      og (fldV 0 v22) fun v23 =>
      og (ibin .eql v23 v25) fun v26 =>
      aret v26 σ R) (fun v σ => apan v σ R))) (
      og (fldA 0 f5) fun v27 =>
      og (lod v27 σ) fun v28 =>
      og (ibin .eql v28 (.val (.int .i64 4))) fun v29 =>
      apick v29 (
        jn (X := Tup [2]) (fun x1 σ =>
            aret x1.1 σ R) fun k1 =>
          acall TP fn_laws_lwTexts [v12, v13] σ (onr (fun v32 σ =>
          og (gval v32 true false (some v13)) fun v34 =>
          og (gval v32 true false (some v12)) fun v35 =>
          gpick v32 (
            acall TP fn_impl_FirstApart [v34, v35] σ (onr (fun v36 σ =>
            og (fldV 0 v36) fun v37 =>
            og (ibin .eql v37 (.val (.int .i64 4))) fun v38 =>
            k1 (v38, ()) σ) (fun v σ => apan v σ R))) (
            k1 ((.val (.bool false)), ()) σ) (False)) (fun v σ => apan v σ R))) (
        og (fldA 1 f5) fun v40 =>
        og (lod v40 σ) fun v41 =>
        jn (X := Tup [3, 4, 5, 6, 65]) (fun x2 σ =>
            apick x2.2.2.2.2.1 (
              aret (.val (.bool false)) σ R) (
              jn (X := Tup [2]) (fun x3 σ =>
                  aret x3.1 σ R) fun k3 =>
                og (fldA 0 x2.2.2.1) fun v66 =>
                og (lod v66 σ) fun v67 =>
                og (ibin .eql v67 (.val (.int .i64 0))) fun v68 =>
                og (gval v68 true false (some x2.2.1)) fun v70 =>
                og (gval v68 true false (some x2.1)) fun v71 =>
                gpick v68 (
                  acall TP fn_impl_FirstApart [v70, v71] σ (onr (fun v72 σ =>
                  og (fldV 1 v72) fun v73 =>
                  og (ibin .eql v73 x2.2.2.2.1) fun v75 =>
                  og (gval v75 true false (some x2.1)) fun v78 =>
                  og (gval v75 true false (some x2.2.1)) fun v79 =>
                  gpick v75 (
                    acall TP fn_laws_lwTexts [v78, v79] σ (onr (fun v80 σ =>
                    og (aun .not v80) fun v81 =>
                    k3 (v81, ()) σ) (fun v σ => apan v σ R))) (
                    k3 ((.val (.bool false)), ()) σ) (False)) (fun v σ => apan v σ R))) (
                  k3 ((.val (.bool false)), ()) σ) (False))) fun k2 =>
          og (ibin .lss v41 (.val (.int .i64 0))) fun v43 =>
          og (gval v43 false false (some v41)) fun v45 =>
          og (gval v43 false false (some v12)) fun v46 =>
          og (gval v43 false false (lenS v46)) fun v47 =>
          og (gval v43 false false (ibin .gtr v45 v47)) fun v48 =>
          og (pickV v43 (.val (.bool true)) v48) fun v49 =>
          og (gval v49 false false (some v41)) fun v51 =>
          og (gval v49 false false (some v13)) fun v52 =>
          og (gval v49 false false (lenS v52)) fun v53 =>
          og (gval v49 false false (ibin .gtr v51 v53)) fun v54 =>
          og (pickV v49 (.val (.bool true)) v54) fun v55 =>
          og (gval v55 false false (some v12)) fun v57 =>
          og (gval v55 false false (some v41)) fun v58 =>
          og (gval v55 false false (slc 1 v57 none (some v58) none σ)) fun v59 =>
          og (gval v55 false false (some v13)) fun v60 =>
          og (gval v55 false false (some v41)) fun v61 =>
          og (gval v55 false false (slc 1 v60 none (some v61) none σ)) fun v62 =>
          gpick v55 (
            k2 (v12, v13, f5, v41, (.val (.bool true)), ()) σ) (
            acall TP fn_laws_lwTexts [v59, v62] σ (onr (fun v63 σ =>
            (True) ∧
            og (aun .not v63) fun v64 =>
            k2 (v12, v13, f5, v41, v64, ()) σ) (fun v σ => apan v σ R))) (False)))) (fun v σ => apan v σ R))) (fun v σ => apan v σ R)))) (fun v σ => apan v σ R))
def x3 : Sx := .call 4 [(.var 0)] (.apick (.var 0) (.ret (.lit (.val (.bool true)))) (.call 5 [(.var 1)] (.og (.aext (.var 0) 0) (.og (.aext (.var 1) 1) (.call 6 [(.var 1), (.var 0)] (.new [(.val (.int .i64 0)), (.val (.int .i64 0))] (.sto 2 (.var 0) (.var 1) (.frz 6 (.var 0) (.og (.fldA 0 (.var 0)) (.og (.lod (.var 0)) (.og (.ibin .eql (.var 0) (.lit (.val (.int .i64 2)))) (.apick (.var 0) (.ord [0, 1, 4, 5, 2, 3, 6, 7] [0, 0, 3, 7, 0, 16, 63, 127] (.og (.fldA 0 (.var 3)) (.og (.lod (.var 0)) (.call 7 [(.var 9), (.var 8)] (.wat [⟨none, (.lod (.var 2)), (.var 1)⟩] (.og (.fldV 0 (.var 0)) (.og (.ibin .eql (.var 0) (.var 2)) (.ret (.var 0))))))))) (.og (.fldA 0 (.var 3)) (.og (.lod (.var 0)) (.og (.ibin .eql (.var 0) (.lit (.val (.int .i64 4)))) (.apick (.var 0) (.jn 1013 [2] (.ret (.var 0)) (.call 8 [(.var 10), (.var 9)] (.gog (.var 0) true false (.ret (.var 10)) (.gog (.var 1) true false (.ret (.var 12)) (.gpick (.var 2) (.call 6 [(.var 1), (.var 0)] (.og (.fldV 0 (.var 0)) (.og (.ibin .eql (.var 0) (.lit (.val (.int .i64 4)))) (.jump 0 [(.var 0)])))) (.jump 0 [(.lit (.val (.bool false)))]) (.no)))))) (.og (.fldA 1 (.var 6)) (.og (.lod (.var 0)) (.jn 1021 [3, 4, 5, 6, 65] (.apick (.var 4) (.ret (.lit (.val (.bool false)))) (.jn 1023 [2] (.ret (.var 0)) (.og (.fldA 0 (.var 2)) (.og (.lod (.var 0)) (.og (.ibin .eql (.var 0) (.lit (.val (.int .i64 0)))) (.gog (.var 0) true false (.ret (.var 4)) (.gog (.var 1) true false (.ret (.var 4)) (.gpick (.var 2) (.call 6 [(.var 1), (.var 0)] (.og (.fldV 1 (.var 0)) (.og (.ibin .eql (.var 0) (.var 10)) (.gog (.var 0) true false (.ret (.var 8)) (.gog (.var 1) true false (.ret (.var 10)) (.gpick (.var 2) (.call 8 [(.var 1), (.var 0)] (.og (.aun .not (.var 0)) (.jump 0 [(.var 0)]))) (.jump 0 [(.lit (.val (.bool false)))]) (.no))))))) (.jump 0 [(.lit (.val (.bool false)))]) (.no))))))))) (.ord [0, 1, 2, 3, 4, 5, 6, 7, 8, 9, 10, 11, 12, 13, 14, 15, 16, 17, 18, 19, 20, 21, 22, 23] [0, 1, 3, 7, 7, 23, 63, 127, 255, 511, 511, 1535, 4095, 8191, 16383, 32767, 32767, 131071, 32767, 32767, 819199, 2097151, 4194303, 8388607] (.og (.ibin .lss (.var 0) (.lit (.val (.int .i64 0)))) (.gog (.var 0) false false (.ret (.var 1)) (.gog (.var 1) false false (.ret (.var 14)) (.gog (.var 2) false false (.lenS (.var 0)) (.gog (.var 3) false false (.ibin .gtr (.var 2) (.var 0)) (.og (.pickV (.var 4) (.lit (.val (.bool true))) (.var 0)) (.gog (.var 0) false false (.ret (.var 6)) (.gog (.var 1) false false (.ret (.var 18)) (.gog (.var 2) false false (.lenS (.var 0)) (.gog (.var 3) false false (.ibin .gtr (.var 2) (.var 0)) (.og (.pickV (.var 4) (.lit (.val (.bool true))) (.var 0)) (.gog (.var 0) false false (.ret (.var 23)) (.gog (.var 1) false false (.ret (.var 12)) (.gog (.var 2) false false (.slc 1 (.var 1) none (some (.var 0)) none) (.gog (.var 3) false false (.ret (.var 25)) (.gog (.var 4) false false (.ret (.var 15)) (.gog (.var 5) false false (.slc 1 (.var 1) none (some (.var 0)) none) (.gpick (.var 6) (.jump 0 [(.var 29), (.var 28), (.var 25), (.var 17), (.lit (.val (.bool true)))]) (.call 8 [(.var 3), (.var 0)] (.wat [] (.og (.aun .not (.var 0)) (.jump 0 [(.var 31), (.var 30), (.var 27), (.var 19), (.var 0)])))) (.no)))))))))))))))))))))))))))))))))))))))
set_option maxRecDepth 1000000 in
theorem x3_ok : okF TT Try.f3 1 x3 = true := by decide +kernel
set_option maxRecDepth 1000000 in
theorem s_laws_FnAparts_ok {a0 : AV} {σ : AH} {R : AEnd → AH → Prop} (h : s_laws_FnAparts a0 σ R) : acall TP fn_laws_FnAparts [a0] σ R :=
  acall_okF (ρ := [a0]) TT_ok Try.func3 rfl x3 x3_ok rfl h

/-- loop.example/g00349/laws.lwBig -/
def s_laws_lwBig (a0 : AV) (σ : AH) (R : AEnd → AH → Prop) : Prop :=
  og (lenS a0) fun v4 =>
  og (ibin .gtr v4 (.val (.int .i64 1048576))) fun v5 =>
  aret v5 σ R
def x4 : Sx := .og (.lenS (.var 0)) (.og (.ibin .gtr (.var 0) (.lit (.val (.int .i64 1048576)))) (.ret (.var 0)))
set_option maxRecDepth 1000000 in
theorem x4_ok : okF TT Try.f4 1 x4 = true := by decide +kernel
set_option maxRecDepth 1000000 in
theorem s_laws_lwBig_ok {a0 : AV} {σ : AH} {R : AEnd → AH → Prop} (h : s_laws_lwBig a0 σ R) : acall TP fn_laws_lwBig [a0] σ R :=
  acall_okF (ρ := [a0]) TT_ok Try.func4 rfl x4 x4_ok rfl h

/-- loop.example/g00349/spec.DrawFirstApart -/
def s_spec_DrawFirstApart (a0 : AV) (σ : AH) (R : AEnd → AH → Prop) : Prop :=
  acall TP fn_spec_l1Source [a0] σ (onr (fun v8 σ =>
  acall TP fn_spec_l8DrawLines [v8] σ (onr (fun v10 σ =>
  bsl 1 [(.val (.string ⟨#[]⟩))] 0 [] σ fun v11 σ =>
  app 1 v11 v10 σ fun v13 σ =>
  jn (X := Tup [5, 6]) (fun x1 σ =>
      aret (.tup [x1.1, x1.2.1]) σ R) fun k1 =>
    acall TP fn_spec_l1Next [v8, (.val (.int .i64 4))] σ (onr (fun v15 σ =>
    og (ibin .eql v15 (.val (.int .i64 0))) fun v17 =>
    apick v17 (
      bsl 1 [(.val (.string ⟨#[]⟩))] 1 [(0, (.val (.string ⟨#[120]⟩)))] σ fun v19 σ =>
      app 1 v13 v19 σ fun v20 σ =>
      k1 (v10, v20, ()) σ) (
      og (ibin .eql v15 (.val (.int .i64 1))) fun v22 =>
      apick v22 (
        og (lenS v13) fun v24 =>
        og (ibin .gtr v24 (.val (.int .i64 0))) fun v25 =>
        apick v25 (
          og (lenS v13) fun v29 =>
          acall TP fn_spec_l1Next [v8, v29] σ (onr (fun v30 σ =>
          og (idx 1 v13 v30 σ) fun v31 =>
          sto 1 v31 (.val (.string ⟨#[121]⟩)) σ fun σ =>
          k1 (v10, v13, ()) σ) (fun v σ => apan v σ R))) (
          k1 (v10, v13, ()) σ)) (
        k1 (v10, v13, ()) σ))) (fun v σ => apan v σ R))) (fun v σ => apan v σ R))) (fun v σ => apan v σ R))
def x5 : Sx := .call 9 [(.var 0)] (.call 10 [(.var 0)] (.bsl 1 [(.val (.string ⟨#[]⟩))] 0 [] (.app 1 (.var 0) (.var 1) (.jn 63 [5, 6] (.rets [(.var 0), (.var 1)]) (.call 11 [(.var 3), (.lit (.val (.int .i64 4)))] (.og (.ibin .eql (.var 0) (.lit (.val (.int .i64 0)))) (.apick (.var 0) (.bsl 1 [(.val (.string ⟨#[]⟩))] 1 [(0, (.lit (.val (.string ⟨#[120]⟩))))] (.app 1 (.var 3) (.var 0) (.jump 0 [(.var 6), (.var 0)]))) (.og (.ibin .eql (.var 1) (.lit (.val (.int .i64 1)))) (.apick (.var 0) (.og (.lenS (.var 3)) (.og (.ibin .gtr (.var 0) (.lit (.val (.int .i64 0)))) (.apick (.var 0) (.og (.lenS (.var 5)) (.call 11 [(.var 9), (.var 0)] (.og (.idx 1 (.var 7) (.var 0)) (.sto 1 (.var 0) (.lit (.val (.string ⟨#[121]⟩))) (.jump 0 [(.var 10), (.var 8)]))))) (.jump 0 [(.var 7), (.var 5)])))) (.jump 0 [(.var 5), (.var 3)]))))))))))
set_option maxRecDepth 1000000 in
theorem x5_ok : okF TT Try.f5 1 x5 = true := by decide +kernel
set_option maxRecDepth 1000000 in
theorem s_spec_DrawFirstApart_ok {a0 : AV} {σ : AH} {R : AEnd → AH → Prop} (h : s_spec_DrawFirstApart a0 σ R) : acall TP fn_spec_DrawFirstApart [a0] σ R :=
  acall_okF (ρ := [a0]) TT_ok Try.func5 rfl x5 x5_ok rfl h

/-- loop.example/g00349/impl.FirstApart -/
def s_impl_FirstApart (a0 a1 : AV) (σ : AH) (R : AEnd → AH → Prop) : Prop :=
  new [(.val (.int .i64 0)), (.val (.int .i64 0))] σ fun v4 σ =>
  og (lenS a0) fun v7 =>
  og (ibin .gtr v7 (.val (.int .i64 12))) fun v8 =>
  og (gval v8 false false (some a1)) fun v10 =>
  og (gval v8 false false (lenS v10)) fun v11 =>
  og (gval v8 false false (ibin .gtr v11 (.val (.int .i64 12)))) fun v12 =>
  og (pickV v8 (.val (.bool true)) v12) fun v13 =>
  apick v13 (
    og (bld [(.val (.int .i64 0)), (.val (.int .i64 0))] [(0, 1), (1, 1)] [(0, (.val (.int .i64 2)))]) fun v14 =>
    sto 2 v4 v14 σ fun σ =>
    og (lodA 2 v4 σ) fun r4 =>
    aret r4 σ R) (
    og (lenS a0) fun v16 =>
    og (lenS a1) fun v18 =>
    og (amm true v16 v18) fun v19 =>
    lp (X := Tup [0, 1, 4, 19, 20]) (fun R1 y1 σ =>
      og (ibin .lss y1.2.2.2.2.1 y1.2.2.2.1) fun v21 =>
      apick v21 (
        og (lenS y1.1) fun v25 =>
        og (ibin .geq y1.2.2.2.2.1 v25) fun v26 =>
        og (gval v26 false false (some y1.2.2.2.2.1)) fun v28 =>
        og (gval v26 false false (some y1.2.1)) fun v29 =>
        og (gval v26 false false (lenS v29)) fun v30 =>
        og (gval v26 false false (ibin .geq v28 v30)) fun v31 =>
        og (pickV v26 (.val (.bool true)) v31) fun v32 =>
        og (gval v32 false false (some y1.1)) fun v34 =>
        og (gval v32 false false (some y1.2.2.2.2.1)) fun v35 =>
        og (gval v32 false false (idx 1 v34 v35 σ)) fun v36 =>
        og (gval v32 false false (lod v36 σ)) fun v37 =>
        og (gval v32 false false (some y1.2.1)) fun v38 =>
        og (gval v32 false false (some y1.2.2.2.2.1)) fun v39 =>
        og (gval v32 false false (idx 1 v38 v39 σ)) fun v40 =>
        og (gval v32 false false (lod v40 σ)) fun v41 =>
        og (gval v32 false false (sbin .neq v37 v41)) fun v42 =>
        og (pickV v32 (.val (.bool true)) v42) fun v43 =>
        apick v43 (
          og (bld [(.val (.int .i64 0)), (.val (.int .i64 0))] [(0, 1), (1, 1)] [(1, y1.2.2.2.2.1)]) fun v45 =>
          sto 2 y1.2.2.1 v45 σ fun σ =>
          og (lodA 2 y1.2.2.1 σ) fun r4 =>
          aret r4 σ R) (
          og (ibin .add y1.2.2.2.2.1 (.val (.int .i64 1))) fun v46 =>
          R1 (y1.1, y1.2.1, y1.2.2.1, y1.2.2.2.1, v46, ()) σ)) (
        og (bld [(.val (.int .i64 0)), (.val (.int .i64 0))] [(0, 1), (1, 1)] [(0, (.val (.int .i64 4)))]) fun v47 =>
        sto 2 y1.2.2.1 v47 σ fun σ =>
        og (lodA 2 y1.2.2.1 σ) fun r4 =>
        aret r4 σ R)) (a0, a1, v4, v19, (.val (.int .i64 0)), ()) σ)
def x6 : Sx := .new [(.val (.int .i64 0)), (.val (.int .i64 0))] (.og (.lenS (.var 2)) (.og (.ibin .gtr (.var 0) (.lit (.val (.int .i64 12)))) (.gog (.var 0) false false (.ret (.var 3)) (.gog (.var 1) false false (.lenS (.var 0)) (.gog (.var 2) false false (.ibin .gtr (.var 0) (.lit (.val (.int .i64 12)))) (.og (.pickV (.var 3) (.lit (.val (.bool true))) (.var 0)) (.apick (.var 0) (.og (.bld [(.val (.int .i64 0)), (.val (.int .i64 0))] [(0, 1), (1, 1)] [(0, (.lit (.val (.int .i64 2))))]) (.sto 2 (.var 7) (.var 0) (.og (.lodA 2 (.var 7)) (.ret (.var 0))))) (.og (.lenS (.var 8)) (.og (.lenS (.var 8)) (.og (.amm true (.var 1) (.var 0)) (.lp [0, 1, 4, 19, 20] (.og (.ibin .lss (.var 4) (.var 3)) (.apick (.var 0) (.ord [0, 1, 2, 3, 4, 5, 6, 7, 8, 9, 10, 11, 12, 13, 14, 15, 16, 17, 18, 19, 20] [0, 0, 2, 7, 15, 31, 31, 95, 255, 511, 1023, 2047, 2047, 8191, 16383, 2047, 2047, 100351, 231423, 524287, 1048575] (.og (.lenS (.var 1)) (.og (.ibin .geq (.var 6) (.var 0)) (.gog (.var 0) false false (.ret (.var 7)) (.gog (.var 1) false false (.ret (.var 5)) (.gog (.var 2) false false (.lenS (.var 0)) (.gog (.var 3) false false (.ibin .geq (.var 2) (.var 0)) (.og (.pickV (.var 4) (.lit (.val (.bool true))) (.var 0)) (.gog (.var 0) false false (.ret (.var 8)) (.gog (.var 1) false false (.ret (.var 13)) (.gog (.var 2) false false (.idx 1 (.var 1) (.var 0)) (.gog (.var 3) false false (.lod (.var 0)) (.gog (.var 4) false false (.ret (.var 13)) (.gog (.var 5) false false (.ret (.var 17)) (.gog (.var 6) false false (.idx 1 (.var 1) (.var 0)) (.gog (.var 7) false false (.lod (.var 0)) (.gog (.var 8) false false (.sbin .neq (.var 4) (.var 0)) (.og (.pickV (.var 9) (.lit (.val (.bool true))) (.var 0)) (.apick (.var 0) (.og (.bld [(.val (.int .i64 0)), (.val (.int .i64 0))] [(0, 1), (1, 1)] [(1, (.var 22))]) (.sto 2 (.var 21) (.var 0) (.og (.lodA 2 (.var 21)) (.ret (.var 0))))) (.og (.ibin .add (.var 22) (.lit (.val (.int .i64 1)))) (.jump 0 [(.var 19), (.var 20), (.var 21), (.var 22), (.var 0)]))))))))))))))))))))) (.og (.bld [(.val (.int .i64 0)), (.val (.int .i64 0))] [(0, 1), (1, 1)] [(0, (.lit (.val (.int .i64 4))))]) (.sto 2 (.var 4) (.var 0) (.og (.lodA 2 (.var 4)) (.ret (.var 0))))))) [(.var 11), (.var 10), (.var 9), (.var 0), (.lit (.val (.int .i64 0)))])))))))))))
set_option maxRecDepth 1000000 in
theorem x6_ok : okF TT Try.f6 2 x6 = true := by decide +kernel
set_option maxRecDepth 1000000 in
theorem s_impl_FirstApart_ok {a0 a1 : AV} {σ : AH} {R : AEnd → AH → Prop} (h : s_impl_FirstApart a0 a1 σ R) : acall TP fn_impl_FirstApart [a0, a1] σ R :=
  acall_okF (ρ := [a1, a0]) TT_ok Try.func6 rfl x6 x6_ok rfl h

/-- loop.example/g00349/spec.FirstApart -/
def s_spec_FirstApart (a0 a1 : AV) (σ : AH) (R : AEnd → AH → Prop) : Prop :=
  new [(.val (.int .i64 0)), (.val (.int .i64 0))] σ fun v4 σ =>
  og (lenS a0) fun v7 =>
  og (ibin .gtr v7 (.val (.int .i64 12))) fun v8 =>
  og (gval v8 false false (some a1)) fun v10 =>
  og (gval v8 false false (lenS v10)) fun v11 =>
  og (gval v8 false false (ibin .gtr v11 (.val (.int .i64 12)))) fun v12 =>
  og (pickV v8 (.val (.bool true)) v12) fun v13 =>
  apick v13 (
    og (bld [(.val (.int .i64 0)), (.val (.int .i64 0))] [(0, 1), (1, 1)] [(0, (.val (.int .i64 2)))]) fun v14 =>
    sto 2 v4 v14 σ fun σ =>
    og (lodA 2 v4 σ) fun r4 =>
    aret r4 σ R) (
    acall TP fn_spec_l16Apart [a0, a1] σ (onr (fun v17 σ =>
    og (ibin .lss v17 (.val (.int .i64 0))) fun v19 =>
    apick v19 (
      og (bld [(.val (.int .i64 0)), (.val (.int .i64 0))] [(0, 1), (1, 1)] [(0, (.val (.int .i64 4)))]) fun v20 =>
      sto 2 v4 v20 σ fun σ =>
      og (lodA 2 v4 σ) fun r4 =>
      aret r4 σ R) (
      og (bld [(.val (.int .i64 0)), (.val (.int .i64 0))] [(0, 1), (1, 1)] [(1, v17)]) fun v22 =>
      sto 2 v4 v22 σ fun σ =>
      og (lodA 2 v4 σ) fun r4 =>
      aret r4 σ R)) (fun v σ => apan v σ R)))
def x7 : Sx := .new [(.val (.int .i64 0)), (.val (.int .i64 0))] (.og (.lenS (.var 2)) (.og (.ibin .gtr (.var 0) (.lit (.val (.int .i64 12)))) (.gog (.var 0) false false (.ret (.var 3)) (.gog (.var 1) false false (.lenS (.var 0)) (.gog (.var 2) false false (.ibin .gtr (.var 0) (.lit (.val (.int .i64 12)))) (.og (.pickV (.var 3) (.lit (.val (.bool true))) (.var 0)) (.apick (.var 0) (.og (.bld [(.val (.int .i64 0)), (.val (.int .i64 0))] [(0, 1), (1, 1)] [(0, (.lit (.val (.int .i64 2))))]) (.sto 2 (.var 7) (.var 0) (.og (.lodA 2 (.var 7)) (.ret (.var 0))))) (.call 12 [(.var 8), (.var 7)] (.og (.ibin .lss (.var 0) (.lit (.val (.int .i64 0)))) (.apick (.var 0) (.og (.bld [(.val (.int .i64 0)), (.val (.int .i64 0))] [(0, 1), (1, 1)] [(0, (.lit (.val (.int .i64 4))))]) (.sto 2 (.var 9) (.var 0) (.og (.lodA 2 (.var 9)) (.ret (.var 0))))) (.og (.bld [(.val (.int .i64 0)), (.val (.int .i64 0))] [(0, 1), (1, 1)] [(1, (.var 1))]) (.sto 2 (.var 9) (.var 0) (.og (.lodA 2 (.var 9)) (.ret (.var 0)))))))))))))))
set_option maxRecDepth 1000000 in
theorem x7_ok : okF TT Try.f7 2 x7 = true := by decide +kernel
set_option maxRecDepth 1000000 in
theorem s_spec_FirstApart_ok {a0 a1 : AV} {σ : AH} {R : AEnd → AH → Prop} (h : s_spec_FirstApart a0 a1 σ R) : acall TP fn_spec_FirstApart [a0, a1] σ R :=
  acall_okF (ρ := [a1, a0]) TT_ok Try.func7 rfl x7 x7_ok rfl h

/-- loop.example/g00349/laws.lwTexts -/
def s_laws_lwTexts (a0 a1 : AV) (σ : AH) (R : AEnd → AH → Prop) : Prop :=
  og (lenS a0) fun v7 =>
  og (lenS a1) fun v9 =>
  og (ibin .neq v7 v9) fun v10 =>
  apick v10 (
    aret (.val (.bool false)) σ R) (
    lp (X := Tup [0, 1, 5]) (fun R1 y1 σ =>
      og (lenS y1.1) fun v13 =>
      og (ibin .lss y1.2.2.1 v13) fun v14 =>
      apick v14 (
        og (idx 1 y1.1 y1.2.2.1 σ) fun v19 =>
        og (lod v19 σ) fun v20 =>
        og (idx 1 y1.2.1 y1.2.2.1 σ) fun v23 =>
        og (lod v23 σ) fun v24 =>
        og (sbin .neq v20 v24) fun v25 =>
        apick v25 (
          aret (.val (.bool false)) σ R) (
          og (ibin .add y1.2.2.1 (.val (.int .i64 1))) fun v16 =>
          R1 (y1.1, y1.2.1, v16, ()) σ)) (
        aret (.val (.bool true)) σ R)) (a0, a1, (.val (.int .i64 0)), ()) σ)
def x8 : Sx := .og (.lenS (.var 1)) (.og (.lenS (.var 1)) (.og (.ibin .neq (.var 1) (.var 0)) (.apick (.var 0) (.ret (.lit (.val (.bool false)))) (.lp [0, 1, 5] (.og (.lenS (.var 0)) (.og (.ibin .lss (.var 3) (.var 0)) (.apick (.var 0) (.ord [0, 1, 2, 3, 4, 5, 6, 7, 8] [0, 0, 3, 7, 0, 0, 48, 112, 255] (.og (.idx 1 (.var 2) (.var 4)) (.og (.lod (.var 0)) (.og (.idx 1 (.var 5) (.var 6)) (.og (.lod (.var 0)) (.og (.sbin .neq (.var 2) (.var 0)) (.apick (.var 0) (.ret (.lit (.val (.bool false)))) (.og (.ibin .add (.var 9) (.lit (.val (.int .i64 1)))) (.jump 0 [(.var 8), (.var 9), (.var 0)]))))))))) (.ret (.lit (.val (.bool true))))))) [(.var 4), (.var 3), (.lit (.val (.int .i64 0)))]))))
set_option maxRecDepth 1000000 in
theorem x8_ok : okF TT Try.f8 2 x8 = true := by decide +kernel
set_option maxRecDepth 1000000 in
theorem s_laws_lwTexts_ok {a0 a1 : AV} {σ : AH} {R : AEnd → AH → Prop} (h : s_laws_lwTexts a0 a1 σ R) : acall TP fn_laws_lwTexts [a0, a1] σ R :=
  acall_okF (ρ := [a1, a0]) TT_ok Try.func8 rfl x8 x8_ok rfl h

/-- loop.example/g00349/spec.l1Source -/
def s_spec_l1Source (a0 : AV) (σ : AH) (R : AEnd → AH → Prop) : Prop :=
  og (bld [(.val (.slice none 0 0)), (.val (.int .i64 0))] [(0, 1), (1, 1)] [(0, a0)]) fun v4 =>
  abox v4 σ fun v5 σ =>
  aret v5 σ R
def x9 : Sx := .og (.bld [(.val (.slice none 0 0)), (.val (.int .i64 0))] [(0, 1), (1, 1)] [(0, (.var 0))]) (.box (.var 0) (.ret (.var 0)))
set_option maxRecDepth 1000000 in
theorem x9_ok : okF TT Try.f9 1 x9 = true := by decide +kernel
set_option maxRecDepth 1000000 in
theorem s_spec_l1Source_ok {a0 : AV} {σ : AH} {R : AEnd → AH → Prop} (h : s_spec_l1Source a0 σ R) : acall TP fn_spec_l1Source [a0] σ R :=
  acall_okF (ρ := [a0]) TT_ok Try.func9 rfl x9 x9_ok rfl h

/-- loop.example/g00349/spec.l8DrawLines -/
def s_spec_l8DrawLines (a0 : AV) (σ : AH) (R : AEnd → AH → Prop) : Prop :=
  bsl 1 [(.val (.string ⟨#[]⟩))] 0 [] σ fun v5 σ =>
  acall TP fn_spec_l1Next [a0, (.val (.int .i64 8))] σ (onr (fun v7 σ =>
  lp (X := Tup [0, 3, 4]) (fun R1 y1 σ =>
    og (ibin .gtr y1.2.2.1 (.val (.int .i64 0))) fun v9 =>
    apick v9 (
      acall TP fn_spec_l8Line [y1.1] σ (onr (fun v14 σ =>
      bsl 1 [(.val (.string ⟨#[]⟩))] 1 [(0, v14)] σ fun v15 σ =>
      app 1 y1.2.1 v15 σ fun v16 σ =>
      og (ibin .sub y1.2.2.1 (.val (.int .i64 1))) fun v11 =>
      R1 (y1.1, v16, v11, ()) σ) (fun v σ => apan v σ R))) (
      jn (X := Tup [3]) (fun x2 σ =>
          aret x2.1 σ R) fun k2 =>
        acall TP fn_spec_l1Next [y1.1, (.val (.int .i64 14))] σ (onr (fun v18 σ =>
        og (ibin .eql v18 (.val (.int .i64 0))) fun v20 =>
        apick v20 (
          bsl 1 [(.val (.string ⟨#[]⟩))] 6 [(0, (.val (.string ⟨#[40]⟩))), (1, (.val (.string ⟨#[65]⟩))), (2, (.val (.string ⟨#[40, 41]⟩))), (3, (.val (.string ⟨#[105, 102]⟩))), (4, (.val (.string ⟨#[40, 99, 97, 114, 32, 49, 41]⟩))), (5, (.val (.string ⟨#[40, 113, 117, 111, 32, 49, 32, 48, 41]⟩)))] σ fun v22 σ =>
          acall TP fn_spec_l1Next [y1.1, (.val (.int .i64 6))] σ (onr (fun v24 σ =>
          og (idx 1 v22 v24 σ) fun v25 =>
          og (lod v25 σ) fun v26 =>
          bsl 1 [(.val (.string ⟨#[]⟩))] 1 [(0, v26)] σ fun v27 σ =>
          app 1 y1.2.1 v27 σ fun v28 σ =>
          k2 (v28, ()) σ) (fun v σ => apan v σ R))) (
          og (ibin .eql v18 (.val (.int .i64 1))) fun v30 =>
          apick v30 (
            amake TT ty_Ls (.val (.int .i64 13)) (.val (.int .i64 13)) σ fun v31 σ =>
            k2 (v31, ()) σ) (
            og (ibin .eql v18 (.val (.int .i64 2))) fun v33 =>
            apick v33 (
              amake TT ty_Lb (.val (.int .i64 401)) (.val (.int .i64 401)) σ fun v35 σ =>
              aconv TT ty_Lb ty_s v35 σ fun v36 σ =>
              bsl 1 [(.val (.string ⟨#[]⟩))] 1 [(0, v36)] σ fun v37 σ =>
              app 1 y1.2.1 v37 σ fun v38 σ =>
              k2 (v38, ()) σ) (
              k2 (y1.2.1, ()) σ)))) (fun v σ => apan v σ R)))) (a0, v5, v7, ()) σ) (fun v σ => apan v σ R))
def x10 : Sx := .bsl 1 [(.val (.string ⟨#[]⟩))] 0 [] (.call 11 [(.var 1), (.lit (.val (.int .i64 8)))] (.lp [0, 3, 4] (.og (.ibin .gtr (.var 2) (.lit (.val (.int .i64 0)))) (.apick (.var 0) (.call 13 [(.var 1)] (.bsl 1 [(.val (.string ⟨#[]⟩))] 1 [(0, (.var 0))] (.app 1 (.var 4) (.var 0) (.og (.ibin .sub (.var 6) (.lit (.val (.int .i64 1)))) (.jump 0 [(.var 5), (.var 1), (.var 0)]))))) (.jn 31 [3] (.ret (.var 0)) (.call 11 [(.var 1), (.lit (.val (.int .i64 14)))] (.og (.ibin .eql (.var 0) (.lit (.val (.int .i64 0)))) (.apick (.var 0) (.bsl 1 [(.val (.string ⟨#[]⟩))] 6 [(0, (.lit (.val (.string ⟨#[40]⟩)))), (1, (.lit (.val (.string ⟨#[65]⟩)))), (2, (.lit (.val (.string ⟨#[40, 41]⟩)))), (3, (.lit (.val (.string ⟨#[105, 102]⟩)))), (4, (.lit (.val (.string ⟨#[40, 99, 97, 114, 32, 49, 41]⟩)))), (5, (.lit (.val (.string ⟨#[40, 113, 117, 111, 32, 49, 32, 48, 41]⟩))))] (.call 11 [(.var 4), (.lit (.val (.int .i64 6)))] (.og (.idx 1 (.var 1) (.var 0)) (.og (.lod (.var 0)) (.bsl 1 [(.val (.string ⟨#[]⟩))] 1 [(0, (.var 0))] (.app 1 (.var 9) (.var 0) (.jump 0 [(.var 0)]))))))) (.og (.ibin .eql (.var 1) (.lit (.val (.int .i64 1)))) (.apick (.var 0) (.mks 24 (.lit (.val (.int .i64 13))) (.lit (.val (.int .i64 13))) (.jump 0 [(.var 0)])) (.og (.ibin .eql (.var 2) (.lit (.val (.int .i64 2)))) (.apick (.var 0) (.mks 22 (.lit (.val (.int .i64 401))) (.lit (.val (.int .i64 401))) (.cnv 22 9 (.var 0) (.bsl 1 [(.val (.string ⟨#[]⟩))] 1 [(0, (.var 0))] (.app 1 (.var 9) (.var 0) (.jump 0 [(.var 0)]))))) (.jump 0 [(.var 6)]))))))))))) [(.var 2), (.var 1), (.var 0)]))
set_option maxRecDepth 1000000 in
theorem x10_ok : okF TT Try.f10 1 x10 = true := by decide +kernel
set_option maxRecDepth 1000000 in
theorem s_spec_l8DrawLines_ok {a0 : AV} {σ : AH} {R : AEnd → AH → Prop} (h : s_spec_l8DrawLines a0 σ R) : acall TP fn_spec_l8DrawLines [a0] σ R :=
  acall_okF (ρ := [a0]) TT_ok Try.func10 rfl x10 x10_ok rfl h

/-- loop.example/g00349/spec.l1Next -/
def s_spec_l1Next (a0 a1 : AV) (σ : AH) (R : AEnd → AH → Prop) : Prop :=
  og (anil a0) fun v10 =>
  og (fldA 1 v10) fun v11 =>
  og (lod v11 σ) fun v12 =>
  og (ibin .add v12 (.val (.int .i64 1))) fun v13 =>
  og (anil a0) fun v14 =>
  og (fldA 1 v14) fun v15 =>
  sto 1 v15 v13 σ fun σ =>
  og (ibin .lss a1 (.val (.int .i64 1))) fun v17 =>
  apick v17 (
    aret (.val (.int .i64 0)) σ R) (
    og (anil a0) fun v19 =>
    og (fldA 1 v19) fun v20 =>
    og (lod v20 σ) fun v21 =>
    og (ibin .sub v21 (.val (.int .i64 1))) fun v22 =>
    og (anil a0) fun v24 =>
    og (fldA 0 v24) fun v25 =>
    og (lod v25 σ) fun v26 =>
    og (lenS v26) fun v27 =>
    og (ibin .eql v27 (.val (.int .i64 0))) fun v29 =>
    apick v29 (
      og (ibin .mul v22 (.val (.int .i64 7))) fun v31 =>
      og (ibin .rem v31 a1) fun v33 =>
      aret v33 σ R) (
      og (anil a0) fun v35 =>
      og (fldA 0 v35) fun v36 =>
      og (lod v36 σ) fun v37 =>
      og (ibin .rem v22 v27) fun v40 =>
      og (idx 1 v37 v40 σ) fun v41 =>
      og (lod v41 σ) fun v42 =>
      og (convI .i64 v42) fun v43 =>
      og (ibin .quo v22 v27) fun v46 =>
      og (ibin .mul v46 (.val (.int .i64 37))) fun v47 =>
      og (ibin .add v43 v47) fun v48 =>
      jn (X := Tup [1, 7]) (fun x1 σ =>
          og (ibin .rem x1.2.1 x1.1) fun v70 =>
          aret v70 σ R) fun k1 =>
        og (ibin .gtr a1 (.val (.int .i64 200))) fun v50 =>
        apick v50 (
          og (ibin .mul v48 (.val (.int .i64 251))) fun v52 =>
          og (anil a0) fun v54 =>
          og (fldA 0 v54) fun v55 =>
          og (lod v55 σ) fun v56 =>
          og (ibin .add v22 (.val (.int .i64 1))) fun v58 =>
          og (ibin .rem v58 v27) fun v60 =>
          og (idx 1 v56 v60 σ) fun v61 =>
          og (lod v61 σ) fun v62 =>
          og (convI .i64 v62) fun v63 =>
          og (ibin .mul v63 (.val (.int .i64 13))) fun v64 =>
          og (ibin .add v52 v64) fun v65 =>
          og (ibin .add v65 v22) fun v67 =>
          k1 (a1, v67, ()) σ) (
          k1 (a1, v48, ()) σ)))
def x11 : Sx := .og (.anil (.var 1)) (.og (.fldA 1 (.var 0)) (.og (.lod (.var 0)) (.og (.ibin .add (.var 0) (.lit (.val (.int .i64 1)))) (.og (.anil (.var 5)) (.og (.fldA 1 (.var 0)) (.sto 1 (.var 0) (.var 2) (.og (.ibin .lss (.var 6) (.lit (.val (.int .i64 1)))) (.apick (.var 0) (.ret (.lit (.val (.int .i64 0)))) (.og (.anil (.var 8)) (.og (.fldA 1 (.var 0)) (.og (.lod (.var 0)) (.og (.ibin .sub (.var 0) (.lit (.val (.int .i64 1)))) (.og (.anil (.var 12)) (.og (.fldA 0 (.var 0)) (.og (.lod (.var 0)) (.og (.lenS (.var 0)) (.og (.ibin .eql (.var 0) (.lit (.val (.int .i64 0)))) (.apick (.var 0) (.og (.ibin .mul (.var 5) (.lit (.val (.int .i64 7)))) (.og (.ibin .rem (.var 0) (.var 17)) (.ret (.var 0)))) (.ord [0, 1, 2, 3, 4, 5, 6, 7, 8, 9, 10, 11, 12, 13, 14, 15] [0, 1, 3, 7, 0, 0, 48, 127, 255, 511, 0, 0, 3072, 7168, 16383, 32767] (.og (.anil (.var 17)) (.og (.fldA 0 (.var 0)) (.og (.lod (.var 0)) (.og (.ibin .rem (.var 8) (.var 4)) (.og (.idx 1 (.var 1) (.var 0)) (.og (.lod (.var 0)) (.og (.conv .i64 (.var 0)) (.og (.ibin .quo (.var 12) (.var 8)) (.og (.ibin .mul (.var 0) (.lit (.val (.int .i64 37)))) (.og (.ibin .add (.var 2) (.var 0)) (.jn 511 [1, 7] (.og (.ibin .rem (.var 1) (.var 0)) (.ret (.var 0))) (.og (.ibin .gtr (.var 26) (.lit (.val (.int .i64 200)))) (.apick (.var 0) (.ord [0, 1, 2, 3, 4, 5, 6, 7, 8, 9, 10, 11, 12, 13, 14, 15, 16, 17] [0, 1, 0, 4, 12, 28, 0, 64, 0, 448, 1020, 2044, 4092, 8188, 16383, 0, 65535, 131071] (.og (.ibin .mul (.var 1) (.lit (.val (.int .i64 251)))) (.og (.anil (.var 29)) (.og (.fldA 0 (.var 0)) (.og (.lod (.var 0)) (.og (.ibin .add (.var 20) (.lit (.val (.int .i64 1)))) (.og (.ibin .rem (.var 0) (.var 17)) (.og (.idx 1 (.var 2) (.var 0)) (.og (.lod (.var 0)) (.og (.conv .i64 (.var 0)) (.og (.ibin .mul (.var 0) (.lit (.val (.int .i64 13)))) (.og (.ibin .add (.var 9) (.var 0)) (.og (.ibin .add (.var 0) (.var 27)) (.jump 0 [(.var 39), (.var 0)])))))))))))))) (.jump 0 [(.var 27), (.var 1)])))))))))))))))))))))))))))))))))
set_option maxRecDepth 1000000 in
theorem x11_ok : okF TT Try.f11 2 x11 = true := by decide +kernel
set_option maxRecDepth 1000000 in
theorem s_spec_l1Next_ok {a0 a1 : AV} {σ : AH} {R : AEnd → AH → Prop} (h : s_spec_l1Next a0 a1 σ R) : acall TP fn_spec_l1Next [a0, a1] σ R :=
  acall_okF (ρ := [a1, a0]) TT_ok Try.func11 rfl x11 x11_ok rfl h

/-- loop.example/g00349/spec.l16Apart -/
def s_spec_l16Apart (a0 a1 : AV) (σ : AH) (R : AEnd → AH → Prop) : Prop :=
  lp (X := Tup [0, 1, 5]) (fun R1 y1 σ =>
    og (lenS y1.1) fun v8 =>
    og (ibin .lss y1.2.2.1 v8) fun v9 =>
    og (gval v9 false false (some y1.2.2.1)) fun v11 =>
    og (gval v9 false false (some y1.2.1)) fun v12 =>
    og (gval v9 false false (lenS v12)) fun v13 =>
    og (gval v9 false false (ibin .lss v11 v13)) fun v14 =>
    og (pickV v9 (.val (.bool true)) v14) fun v15 =>
    apick v15 (
      og (lenS y1.1) fun v20 =>
      og (ibin .geq y1.2.2.1 v20) fun v21 =>
      og (gval v21 false false (some y1.2.2.1)) fun v23 =>
      og (gval v21 false false (some y1.2.1)) fun v24 =>
      og (gval v21 false false (lenS v24)) fun v25 =>
      og (gval v21 false false (ibin .geq v23 v25)) fun v26 =>
      og (pickV v21 (.val (.bool true)) v26) fun v27 =>
      og (gval v27 false false (some y1.1)) fun v29 =>
      og (gval v27 false false (some y1.2.2.1)) fun v30 =>
      og (gval v27 false false (idx 1 v29 v30 σ)) fun v31 =>
      og (gval v27 false false (lod v31 σ)) fun v32 =>
      og (gval v27 false false (some y1.2.1)) fun v33 =>
      og (gval v27 false false (some y1.2.2.1)) fun v34 =>
      og (gval v27 false false (idx 1 v33 v34 σ)) fun v35 =>
      og (gval v27 false false (lod v35 σ)) fun v36 =>
      og (gval v27 false false (sbin .neq v32 v36)) fun v37 =>
      og (pickV v27 (.val (.bool true)) v37) fun v38 =>
      apick v38 (
        aret y1.2.2.1 σ R) (
        og (ibin .add y1.2.2.1 (.val (.int .i64 1))) fun v17 =>
        R1 (y1.1, y1.2.1, v17, ()) σ)) (
      aret (.val (.int .i64 (-1))) σ R)) (a0, a1, (.val (.int .i64 0)), ()) σ
def x12 : Sx := .lp [0, 1, 5] (.og (.lenS (.var 0)) (.og (.ibin .lss (.var 3) (.var 0)) (.gog (.var 0) false false (.ret (.var 4)) (.gog (.var 1) false false (.ret (.var 4)) (.gog (.var 2) false false (.lenS (.var 0)) (.gog (.var 3) false false (.ibin .lss (.var 2) (.var 0)) (.og (.pickV (.var 4) (.lit (.val (.bool true))) (.var 0)) (.apick (.var 0) (.ord [0, 1, 2, 3, 4, 5, 6, 7, 8, 9, 10, 11, 12, 13, 14, 15, 16, 17, 18, 19, 20] [0, 0, 2, 7, 15, 31, 31, 95, 255, 511, 1023, 2047, 2047, 8191, 16383, 2047, 2047, 100351, 231423, 524287, 1048575] (.og (.lenS (.var 7)) (.og (.ibin .geq (.var 10) (.var 0)) (.gog (.var 0) false false (.ret (.var 11)) (.gog (.var 1) false false (.ret (.var 11)) (.gog (.var 2) false false (.lenS (.var 0)) (.gog (.var 3) false false (.ibin .geq (.var 2) (.var 0)) (.og (.pickV (.var 4) (.lit (.val (.bool true))) (.var 0)) (.gog (.var 0) false false (.ret (.var 14)) (.gog (.var 1) false false (.ret (.var 17)) (.gog (.var 2) false false (.idx 1 (.var 1) (.var 0)) (.gog (.var 3) false false (.lod (.var 0)) (.gog (.var 4) false false (.ret (.var 19)) (.gog (.var 5) false false (.ret (.var 21)) (.gog (.var 6) false false (.idx 1 (.var 1) (.var 0)) (.gog (.var 7) false false (.lod (.var 0)) (.gog (.var 8) false false (.sbin .neq (.var 4) (.var 0)) (.og (.pickV (.var 9) (.lit (.val (.bool true))) (.var 0)) (.apick (.var 0) (.ret (.var 26)) (.og (.ibin .add (.var 26) (.lit (.val (.int .i64 1)))) (.jump 0 [(.var 25), (.var 26), (.var 0)]))))))))))))))))))))) (.ret (.lit (.val (.int .i64 (-1))))))))))))) [(.var 1), (.var 0), (.lit (.val (.int .i64 0)))]
set_option maxRecDepth 1000000 in
theorem x12_ok : okF TT Try.f12 2 x12 = true := by decide +kernel
set_option maxRecDepth 1000000 in
theorem s_spec_l16Apart_ok {a0 a1 : AV} {σ : AH} {R : AEnd → AH → Prop} (h : s_spec_l16Apart a0 a1 σ R) : acall TP fn_spec_l16Apart [a0, a1] σ R :=
  acall_okF (ρ := [a1, a0]) TT_ok Try.func12 rfl x12 x12_ok rfl h

/-- loop.example/g00349/spec.l8Line -/
def s_spec_l8Line (a0 : AV) (σ : AH) (R : AEnd → AH → Prop) : Prop :=
  acall TP fn_spec_l1Next [a0, (.val (.int .i64 9))] σ (onr (fun v4 σ =>
  og (ibin .eql v4 (.val (.int .i64 0))) fun v6 =>
  apick v6 (
    bsl 1 [(.val (.string ⟨#[]⟩))] 1 [(0, (.val (.string ⟨#[120]⟩)))] σ fun v8 σ =>
    acall TP fn_spec_l4Source [a0, v8, (.val (.int .i64 2))] σ (onr (fun v9 σ =>
    og (sbin .add (.val (.string ⟨#[40, 100, 101, 102, 105, 110, 101, 32, 103, 32, 40, 108, 97, 109, 98, 100, 97, 32, 40, 120, 41, 32]⟩)) v9) fun v10 =>
    og (sbin .add v10 (.val (.string ⟨#[41, 41]⟩))) fun v11 =>
    aret v11 σ R) (fun v σ => apan v σ R))) (
    og (ibin .eql v4 (.val (.int .i64 1))) fun v13 =>
    apick v13 (
      acall TP fn_spec_l4Source [a0, (.val (.slice none 0 0)), (.val (.int .i64 2))] σ (onr (fun v15 σ =>
      og (sbin .add (.val (.string ⟨#[40, 100, 101, 102, 105, 110, 101, 32, 104, 32]⟩)) v15) fun v16 =>
      og (sbin .add v16 (.val (.string ⟨#[41]⟩))) fun v17 =>
      aret v17 σ R) (fun v σ => apan v σ R))) (
      og (ibin .eql v4 (.val (.int .i64 2))) fun v19 =>
      apick v19 (
        aret (.val (.string ⟨#[40, 100, 101, 102, 105, 110, 101, 32, 102, 32, 40, 108, 97, 109, 98, 100, 97, 32, 40, 110, 41, 32, 40, 105, 102, 32, 40, 60, 32, 110, 32, 49, 41, 32, 48, 32, 40, 43, 32, 110, 32, 40, 102, 32, 40, 45, 32, 110, 32, 49, 41, 41, 41, 41, 41, 41]⟩)) σ R) (
        og (ibin .eql v4 (.val (.int .i64 3))) fun v21 =>
        apick v21 (
          acall TP fn_spec_l1Next [a0, (.val (.int .i64 30))] σ (onr (fun v23 σ =>
          acall TP fn_spec_l1Digits [v23] σ (onr (fun v24 σ =>
          og (sbin .add (.val (.string ⟨#[40, 102, 32]⟩)) v24) fun v25 =>
          og (sbin .add v25 (.val (.string ⟨#[41]⟩))) fun v26 =>
          aret v26 σ R) (fun v σ => apan v σ R))) (fun v σ => apan v σ R))) (
          og (ibin .eql v4 (.val (.int .i64 4))) fun v28 =>
          apick v28 (
            aret (.val (.string ⟨#[40, 100, 101, 102, 105, 110, 101, 32, 107, 32, 48, 41]⟩)) σ R) (
            og (ibin .eql v4 (.val (.int .i64 5))) fun v30 =>
            apick v30 (
              bsl 1 [(.val (.string ⟨#[]⟩))] 1 [(0, (.val (.string ⟨#[99]⟩)))] σ fun v32 σ =>
              acall TP fn_spec_l4Source [a0, v32, (.val (.int .i64 2))] σ (onr (fun v33 σ =>
              og (sbin .add (.val (.string ⟨#[40, 43, 32, 49, 32, 40, 99, 97, 108, 108, 47, 99, 99, 32, 40, 108, 97, 109, 98, 100, 97, 32, 40, 99, 41, 32, 40, 98, 101, 103, 105, 110, 32, 40, 115, 101, 116, 33, 32, 107, 32, 99, 41, 32]⟩)) v33) fun v34 =>
              og (sbin .add v34 (.val (.string ⟨#[41, 41, 41, 41]⟩))) fun v35 =>
              aret v35 σ R) (fun v σ => apan v σ R))) (
              og (ibin .eql v4 (.val (.int .i64 6))) fun v37 =>
              apick v37 (
                acall TP fn_spec_l1Next [a0, (.val (.int .i64 9))] σ (onr (fun v39 σ =>
                acall TP fn_spec_l1Digits [v39] σ (onr (fun v40 σ =>
                og (sbin .add (.val (.string ⟨#[40, 107, 32]⟩)) v40) fun v41 =>
                og (sbin .add v41 (.val (.string ⟨#[41]⟩))) fun v42 =>
                aret v42 σ R) (fun v σ => apan v σ R))) (fun v σ => apan v σ R))) (
                acall TP fn_spec_l4Source [a0, (.val (.slice none 0 0)), (.val (.int .i64 3))] σ (onr (fun v44 σ =>
                aret v44 σ R) (fun v σ => apan v σ R)))))))))) (fun v σ => apan v σ R))
def x13 : Sx := .call 11 [(.var 0), (.lit (.val (.int .i64 9)))] (.og (.ibin .eql (.var 0) (.lit (.val (.int .i64 0)))) (.apick (.var 0) (.bsl 1 [(.val (.string ⟨#[]⟩))] 1 [(0, (.lit (.val (.string ⟨#[120]⟩))))] (.call 14 [(.var 3), (.var 0), (.lit (.val (.int .i64 2)))] (.og (.sbin .add (.lit (.val (.string ⟨#[40, 100, 101, 102, 105, 110, 101, 32, 103, 32, 40, 108, 97, 109, 98, 100, 97, 32, 40, 120, 41, 32]⟩))) (.var 0)) (.og (.sbin .add (.var 0) (.lit (.val (.string ⟨#[41, 41]⟩)))) (.ret (.var 0)))))) (.og (.ibin .eql (.var 1) (.lit (.val (.int .i64 1)))) (.apick (.var 0) (.call 14 [(.var 3), (.lit (.val (.slice none 0 0))), (.lit (.val (.int .i64 2)))] (.og (.sbin .add (.lit (.val (.string ⟨#[40, 100, 101, 102, 105, 110, 101, 32, 104, 32]⟩))) (.var 0)) (.og (.sbin .add (.var 0) (.lit (.val (.string ⟨#[41]⟩)))) (.ret (.var 0))))) (.og (.ibin .eql (.var 2) (.lit (.val (.int .i64 2)))) (.apick (.var 0) (.ret (.lit (.val (.string ⟨#[40, 100, 101, 102, 105, 110, 101, 32, 102, 32, 40, 108, 97, 109, 98, 100, 97, 32, 40, 110, 41, 32, 40, 105, 102, 32, 40, 60, 32, 110, 32, 49, 41, 32, 48, 32, 40, 43, 32, 110, 32, 40, 102, 32, 40, 45, 32, 110, 32, 49, 41, 41, 41, 41, 41, 41]⟩)))) (.og (.ibin .eql (.var 3) (.lit (.val (.int .i64 3)))) (.apick (.var 0) (.call 11 [(.var 5), (.lit (.val (.int .i64 30)))] (.call 15 [(.var 0)] (.og (.sbin .add (.lit (.val (.string ⟨#[40, 102, 32]⟩))) (.var 0)) (.og (.sbin .add (.var 0) (.lit (.val (.string ⟨#[41]⟩)))) (.ret (.var 0)))))) (.og (.ibin .eql (.var 4) (.lit (.val (.int .i64 4)))) (.apick (.var 0) (.ret (.lit (.val (.string ⟨#[40, 100, 101, 102, 105, 110, 101, 32, 107, 32, 48, 41]⟩)))) (.og (.ibin .eql (.var 5) (.lit (.val (.int .i64 5)))) (.apick (.var 0) (.bsl 1 [(.val (.string ⟨#[]⟩))] 1 [(0, (.lit (.val (.string ⟨#[99]⟩))))] (.call 14 [(.var 8), (.var 0), (.lit (.val (.int .i64 2)))] (.og (.sbin .add (.lit (.val (.string ⟨#[40, 43, 32, 49, 32, 40, 99, 97, 108, 108, 47, 99, 99, 32, 40, 108, 97, 109, 98, 100, 97, 32, 40, 99, 41, 32, 40, 98, 101, 103, 105, 110, 32, 40, 115, 101, 116, 33, 32, 107, 32, 99, 41, 32]⟩))) (.var 0)) (.og (.sbin .add (.var 0) (.lit (.val (.string ⟨#[41, 41, 41, 41]⟩)))) (.ret (.var 0)))))) (.og (.ibin .eql (.var 6) (.lit (.val (.int .i64 6)))) (.apick (.var 0) (.call 11 [(.var 8), (.lit (.val (.int .i64 9)))] (.call 15 [(.var 0)] (.og (.sbin .add (.lit (.val (.string ⟨#[40, 107, 32]⟩))) (.var 0)) (.og (.sbin .add (.var 0) (.lit (.val (.string ⟨#[41]⟩)))) (.ret (.var 0)))))) (.call 14 [(.var 8), (.lit (.val (.slice none 0 0))), (.lit (.val (.int .i64 3)))] (.ret (.var 0)))))))))))))))))
set_option maxRecDepth 1000000 in
theorem x13_ok : okF TT Try.f13 1 x13 = true := by decide +kernel
set_option maxRecDepth 1000000 in
theorem s_spec_l8Line_ok {a0 : AV} {σ : AH} {R : AEnd → AH → Prop} (h : s_spec_l8Line a0 σ R) : acall TP fn_spec_l8Line [a0] σ R :=
  acall_okF (ρ := [a0]) TT_ok Try.func13 rfl x13 x13_ok rfl h

/-- loop.example/g00349/spec.l4Source -/
def s_spec_l4Source (a0 a1 a2 : AV) (σ : AH) (R : AEnd → AH → Prop) : Prop :=
  jn (X := Tup [0, 1, 2, 14]) (fun x1 σ =>
      apick x1.2.2.2.1 (
        jn (X := Tup [0, 1, 21]) (fun x2 σ =>
            apick x2.2.2.1 (
              og (lenS x2.2.1) fun v25 =>
              acall TP fn_spec_l1Next [x2.1, v25] σ (onr (fun v26 σ =>
              og (idx 1 x2.2.1 v26 σ) fun v27 =>
              og (lod v27 σ) fun v28 =>
              aret v28 σ R) (fun v σ => apan v σ R))) (
              acall TP fn_spec_l1Next [x2.1, (.val (.int .i64 9))] σ (onr (fun v30 σ =>
              acall TP fn_spec_l1Digits [v30] σ (onr (fun v31 σ =>
              acall TP fn_spec_l1Next [x2.1, (.val (.int .i64 99))] σ (onr (fun v33 σ =>
              acall TP fn_spec_l1Digits [v33] σ (onr (fun v34 σ =>
              bsl 1 [(.val (.string ⟨#[]⟩))] 9 [(0, v31), (1, (.val (.string ⟨#[35, 116]⟩))), (2, (.val (.string ⟨#[39, 40, 49, 32, 50, 41]⟩))), (3, (.val (.string ⟨#[103]⟩))), (4, (.val (.string ⟨#[104]⟩))), (5, (.val (.string ⟨#[39, 97]⟩))), (6, v34), (7, (.val (.string ⟨#[99, 97, 114]⟩))), (8, (.val (.string ⟨#[43]⟩)))] σ fun v35 σ =>
              acall TP fn_spec_l1Next [x2.1, (.val (.int .i64 9))] σ (onr (fun v37 σ =>
              og (idx 1 v35 v37 σ) fun v38 =>
              og (lod v38 σ) fun v39 =>
              aret v39 σ R) (fun v σ => apan v σ R))) (fun v σ => apan v σ R))) (fun v σ => apan v σ R))) (fun v σ => apan v σ R))) (fun v σ => apan v σ R)))) fun k2 =>
          og (lenS x1.2.1) fun v16 =>
          og (ibin .gtr v16 (.val (.int .i64 0))) fun v17 =>
          og (gval v17 true false (some x1.1)) fun v19 =>
          gpick v17 (
            acall TP fn_spec_l1Chance [v19, (.val (.int .i64 2))] σ (onr (fun v20 σ =>
            k2 (x1.1, x1.2.1, v20, ()) σ) (fun v σ => apan v σ R))) (
            k2 (x1.1, x1.2.1, (.val (.bool false)), ()) σ) (False)) (
        bsl 1 [(.val (.string ⟨#[]⟩))] 3 [(0, (.val (.string ⟨#[120]⟩))), (1, (.val (.string ⟨#[121]⟩))), (2, (.val (.string ⟨#[122]⟩)))] σ fun v40 σ =>
        acall TP fn_spec_l1Next [x1.1, (.val (.int .i64 3))] σ (onr (fun v42 σ =>
        og (idx 1 v40 v42 σ) fun v43 =>
        og (lod v43 σ) fun v44 =>
        bsl 1 [(.val (.string ⟨#[]⟩))] 0 [] σ fun v45 σ =>
        app 1 v45 x1.2.1 σ fun v47 σ =>
        bsl 1 [(.val (.string ⟨#[]⟩))] 1 [(0, v44)] σ fun v49 σ =>
        app 1 v47 v49 σ fun v50 σ =>
        jn (X := Tup [0, 1, 2]) (fun x3 σ =>
            og (bslR 1 [(.val (.string ⟨#[]⟩))] 5 [(0, (.val (.string ⟨#[43]⟩))), (1, (.val (.string ⟨#[45]⟩))), (2, (.val (.string ⟨#[42]⟩))), (3, (.val (.string ⟨#[60]⟩))), (4, (.val (.string ⟨#[61]⟩)))]) fun v232 =>
            og (ibin .sub x3.2.2.1 (.val (.int .i64 1))) fun v242 =>
            og (ibin .sub x3.2.2.1 (.val (.int .i64 1))) fun v249 =>
            acall TP fn_spec_l1Next [x3.1, (.val (.int .i64 5))] σ (onr (fun v234 σ =>
            (True) ∧
            og (idx 1 v232 v234 σ) fun v235 =>
            og (lod v235 σ) fun v236 =>
            og (sbin .add (.val (.string ⟨#[40]⟩)) v236) fun v237 =>
            og (sbin .add v237 (.val (.string ⟨#[32]⟩))) fun v238 =>
            acall TP fn_spec_l4Source [x3.1, x3.2.1, v242] σ (onr (fun v243 σ =>
            (lod v235 σ = some v236 ∧ idx 1 v232 v234 σ = some v235 ∧ True) ∧
            og (sbin .add v238 v243) fun v244 =>
            og (sbin .add v244 (.val (.string ⟨#[32]⟩))) fun v245 =>
            acall TP fn_spec_l4Source [x3.1, x3.2.1, v249] σ (onr (fun v250 σ =>
            (lod v235 σ = some v236 ∧ idx 1 v232 v234 σ = some v235 ∧ True) ∧
            og (sbin .add v245 v250) fun v251 =>
            og (sbin .add v251 (.val (.string ⟨#[41]⟩))) fun v252 =>
            aret v252 σ R) (fun v σ => apan v σ R))) (fun v σ => apan v σ R))) (fun v σ => apan v σ R))) fun k3 =>
          acall TP fn_spec_l1Next [x1.1, (.val (.int .i64 12))] σ (onr (fun v52 σ =>
          og (ibin .eql v52 (.val (.int .i64 0))) fun v54 =>
          apick v54 (
            og (ibin .sub x1.2.2.1 (.val (.int .i64 1))) fun v58 =>
            acall TP fn_spec_l4Source [x1.1, x1.2.1, v58] σ (onr (fun v59 σ =>
            og (sbin .add (.val (.string ⟨#[40, 105, 102, 32]⟩)) v59) fun v60 =>
            og (sbin .add v60 (.val (.string ⟨#[32]⟩))) fun v61 =>
            og (ibin .sub x1.2.2.1 (.val (.int .i64 1))) fun v65 =>
            acall TP fn_spec_l4Source [x1.1, x1.2.1, v65] σ (onr (fun v66 σ =>
            og (sbin .add v61 v66) fun v67 =>
            og (sbin .add v67 (.val (.string ⟨#[32]⟩))) fun v68 =>
            og (ibin .sub x1.2.2.1 (.val (.int .i64 1))) fun v72 =>
            acall TP fn_spec_l4Source [x1.1, x1.2.1, v72] σ (onr (fun v73 σ =>
            og (sbin .add v68 v73) fun v74 =>
            og (sbin .add v74 (.val (.string ⟨#[41]⟩))) fun v75 =>
            aret v75 σ R) (fun v σ => apan v σ R))) (fun v σ => apan v σ R))) (fun v σ => apan v σ R))) (
            og (ibin .eql v52 (.val (.int .i64 1))) fun v77 =>
            apick v77 (
              og (sbin .add (.val (.string ⟨#[40, 108, 97, 109, 98, 100, 97, 32, 40]⟩)) v44) fun v79 =>
              og (sbin .add v79 (.val (.string ⟨#[41, 32]⟩))) fun v80 =>
              og (ibin .sub x1.2.2.1 (.val (.int .i64 1))) fun v84 =>
              acall TP fn_spec_l4Source [x1.1, v50, v84] σ (onr (fun v85 σ =>
              og (sbin .add v80 v85) fun v86 =>
              og (sbin .add v86 (.val (.string ⟨#[41]⟩))) fun v87 =>
              aret v87 σ R) (fun v σ => apan v σ R))) (
              jn (X := Tup [0, 1, 2, 7, 8, 52, 88]) (fun x4 σ =>
                  apick x4.2.2.2.2.2.2.1 (
                    og (sbin .add (.val (.string ⟨#[40, 108, 101, 116, 32, 40, 40]⟩)) x4.2.2.2.1) fun v92 =>
                    og (sbin .add v92 (.val (.string ⟨#[32]⟩))) fun v93 =>
                    og (ibin .sub x4.2.2.1 (.val (.int .i64 1))) fun v97 =>
                    acall TP fn_spec_l4Source [x4.1, x4.2.1, v97] σ (onr (fun v98 σ =>
                    og (sbin .add v93 v98) fun v99 =>
                    og (sbin .add v99 (.val (.string ⟨#[41, 41, 32]⟩))) fun v100 =>
                    og (ibin .sub x4.2.2.1 (.val (.int .i64 1))) fun v104 =>
                    acall TP fn_spec_l4Source [x4.1, x4.2.2.2.2.1, v104] σ (onr (fun v105 σ =>
                    og (sbin .add v100 v105) fun v106 =>
                    og (sbin .add v106 (.val (.string ⟨#[41]⟩))) fun v107 =>
                    aret v107 σ R) (fun v σ => apan v σ R))) (fun v σ => apan v σ R))) (
                    og (ibin .eql x4.2.2.2.2.2.1 (.val (.int .i64 4))) fun v109 =>
                    apick v109 (
                      og (ibin .sub x4.2.2.1 (.val (.int .i64 1))) fun v113 =>
                      acall TP fn_spec_l4Source [x4.1, x4.2.1, v113] σ (onr (fun v114 σ =>
                      og (sbin .add (.val (.string ⟨#[40, 98, 101, 103, 105, 110, 32]⟩)) v114) fun v115 =>
                      og (sbin .add v115 (.val (.string ⟨#[32]⟩))) fun v116 =>
                      og (ibin .sub x4.2.2.1 (.val (.int .i64 1))) fun v120 =>
                      acall TP fn_spec_l4Source [x4.1, x4.2.1, v120] σ (onr (fun v121 σ =>
                      og (sbin .add v116 v121) fun v122 =>
                      og (sbin .add v122 (.val (.string ⟨#[41]⟩))) fun v123 =>
                      aret v123 σ R) (fun v σ => apan v σ R))) (fun v σ => apan v σ R))) (
                      og (ibin .eql x4.2.2.2.2.2.1 (.val (.int .i64 5))) fun v125 =>
                      apick v125 (
                        og (sbin .add (.val (.string ⟨#[40, 40, 108, 97, 109, 98, 100, 97, 32, 40]⟩)) x4.2.2.2.1) fun v127 =>
                        og (sbin .add v127 (.val (.string ⟨#[41, 32]⟩))) fun v128 =>
                        og (ibin .sub x4.2.2.1 (.val (.int .i64 1))) fun v132 =>
                        acall TP fn_spec_l4Source [x4.1, x4.2.2.2.2.1, v132] σ (onr (fun v133 σ =>
                        og (sbin .add v128 v133) fun v134 =>
                        og (sbin .add v134 (.val (.string ⟨#[41, 32]⟩))) fun v135 =>
                        og (ibin .sub x4.2.2.1 (.val (.int .i64 1))) fun v139 =>
                        acall TP fn_spec_l4Source [x4.1, x4.2.1, v139] σ (onr (fun v140 σ =>
                        og (sbin .add v135 v140) fun v141 =>
                        og (sbin .add v141 (.val (.string ⟨#[41]⟩))) fun v142 =>
                        aret v142 σ R) (fun v σ => apan v σ R))) (fun v σ => apan v σ R))) (
                        og (ibin .eql x4.2.2.2.2.2.1 (.val (.int .i64 6))) fun v144 =>
                        apick v144 (
                          og (bslR 1 [(.val (.string ⟨#[]⟩))] 2 [(0, (.val (.string ⟨#[103]⟩))), (1, (.val (.string ⟨#[104]⟩)))]) fun v145 =>
                          og (ibin .sub x4.2.2.1 (.val (.int .i64 1))) fun v155 =>
                          acall TP fn_spec_l1Next [x4.1, (.val (.int .i64 2))] σ (onr (fun v147 σ =>
                          (True) ∧
                          og (idx 1 v145 v147 σ) fun v148 =>
                          og (lod v148 σ) fun v149 =>
                          og (sbin .add (.val (.string ⟨#[40, 115, 101, 116, 33, 32]⟩)) v149) fun v150 =>
                          og (sbin .add v150 (.val (.string ⟨#[32]⟩))) fun v151 =>
                          acall TP fn_spec_l4Source [x4.1, x4.2.1, v155] σ (onr (fun v156 σ =>
                          (lod v148 σ = some v149 ∧ idx 1 v145 v147 σ = some v148 ∧ True) ∧
                          og (sbin .add v151 v156) fun v157 =>
                          og (sbin .add v157 (.val (.string ⟨#[41]⟩))) fun v158 =>
                          aret v158 σ R) (fun v σ => apan v σ R))) (fun v σ => apan v σ R))) (
                          og (ibin .eql x4.2.2.2.2.2.1 (.val (.int .i64 7))) fun v160 =>
                          apick v160 (
                            bsl 1 [(.val (.string ⟨#[]⟩))] 0 [] σ fun v162 σ =>
                            app 1 v162 x4.2.1 σ fun v164 σ =>
                            bsl 1 [(.val (.string ⟨#[]⟩))] 1 [(0, (.val (.string ⟨#[107]⟩)))] σ fun v165 σ =>
                            app 1 v164 v165 σ fun v166 σ =>
                            og (ibin .sub x4.2.2.1 (.val (.int .i64 1))) fun v168 =>
                            acall TP fn_spec_l4Source [x4.1, v166, v168] σ (onr (fun v169 σ =>
                            og (sbin .add (.val (.string ⟨#[40, 99, 97, 108, 108, 47, 99, 99, 32, 40, 108, 97, 109, 98, 100, 97, 32, 40, 107, 41, 32]⟩)) v169) fun v170 =>
                            og (sbin .add v170 (.val (.string ⟨#[41, 41]⟩))) fun v171 =>
                            aret v171 σ R) (fun v σ => apan v σ R))) (
                            og (ibin .eql x4.2.2.2.2.2.1 (.val (.int .i64 8))) fun v173 =>
                            apick v173 (
                              og (bslR 1 [(.val (.string ⟨#[]⟩))] 5 [(0, (.val (.string ⟨#[99, 97, 114]⟩))), (1, (.val (.string ⟨#[99, 100, 114]⟩))), (2, (.val (.string ⟨#[110, 117, 108, 108, 63]⟩))), (3, (.val (.string ⟨#[112, 97, 105, 114, 63]⟩))), (4, (.val (.string ⟨#[110, 111, 116]⟩)))]) fun v174 =>
                              og (ibin .sub x4.2.2.1 (.val (.int .i64 1))) fun v184 =>
                              acall TP fn_spec_l1Next [x4.1, (.val (.int .i64 5))] σ (onr (fun v176 σ =>
                              (True) ∧
                              og (idx 1 v174 v176 σ) fun v177 =>
                              og (lod v177 σ) fun v178 =>
                              og (sbin .add (.val (.string ⟨#[40]⟩)) v178) fun v179 =>
                              og (sbin .add v179 (.val (.string ⟨#[32]⟩))) fun v180 =>
                              acall TP fn_spec_l4Source [x4.1, x4.2.1, v184] σ (onr (fun v185 σ =>
                              (lod v177 σ = some v178 ∧ idx 1 v174 v176 σ = some v177 ∧ True) ∧
                              og (sbin .add v180 v185) fun v186 =>
                              og (sbin .add v186 (.val (.string ⟨#[41]⟩))) fun v187 =>
                              aret v187 σ R) (fun v σ => apan v σ R))) (fun v σ => apan v σ R))) (
                              og (ibin .eql x4.2.2.2.2.2.1 (.val (.int .i64 9))) fun v189 =>
                              apick v189 (
                                og (bslR 1 [(.val (.string ⟨#[]⟩))] 3 [(0, (.val (.string ⟨#[99, 111, 110, 115]⟩))), (1, (.val (.string ⟨#[108, 105, 115, 116]⟩))), (2, (.val (.string ⟨#[101, 113, 63]⟩)))]) fun v190 =>
                                og (ibin .sub x4.2.2.1 (.val (.int .i64 1))) fun v200 =>
                                og (ibin .sub x4.2.2.1 (.val (.int .i64 1))) fun v207 =>
                                acall TP fn_spec_l1Next [x4.1, (.val (.int .i64 3))] σ (onr (fun v192 σ =>
                                (True) ∧
                                og (idx 1 v190 v192 σ) fun v193 =>
                                og (lod v193 σ) fun v194 =>
                                og (sbin .add (.val (.string ⟨#[40]⟩)) v194) fun v195 =>
                                og (sbin .add v195 (.val (.string ⟨#[32]⟩))) fun v196 =>
                                acall TP fn_spec_l4Source [x4.1, x4.2.1, v200] σ (onr (fun v201 σ =>
                                (lod v193 σ = some v194 ∧ idx 1 v190 v192 σ = some v193 ∧ True) ∧
                                og (sbin .add v196 v201) fun v202 =>
                                og (sbin .add v202 (.val (.string ⟨#[32]⟩))) fun v203 =>
                                acall TP fn_spec_l4Source [x4.1, x4.2.1, v207] σ (onr (fun v208 σ =>
                                (lod v193 σ = some v194 ∧ idx 1 v190 v192 σ = some v193 ∧ True) ∧
                                og (sbin .add v203 v208) fun v209 =>
                                og (sbin .add v209 (.val (.string ⟨#[41]⟩))) fun v210 =>
                                aret v210 σ R) (fun v σ => apan v σ R))) (fun v σ => apan v σ R))) (fun v σ => apan v σ R))) (
                                og (ibin .eql x4.2.2.2.2.2.1 (.val (.int .i64 10))) fun v212 =>
                                apick v212 (
                                  og (lenS x4.2.1) fun v214 =>
                                  og (ibin .gtr v214 (.val (.int .i64 0))) fun v215 =>
                                  apick v215 (
                                    og (lenS x4.2.1) fun v219 =>
                                    og (ibin .sub x4.2.2.1 (.val (.int .i64 1))) fun v228 =>
                                    acall TP fn_spec_l1Next [x4.1, v219] σ (onr (fun v220 σ =>
                                    (True) ∧
                                    og (idx 1 x4.2.1 v220 σ) fun v221 =>
                                    og (lod v221 σ) fun v222 =>
                                    og (sbin .add (.val (.string ⟨#[40]⟩)) v222) fun v223 =>
                                    og (sbin .add v223 (.val (.string ⟨#[32]⟩))) fun v224 =>
                                    acall TP fn_spec_l4Source [x4.1, x4.2.1, v228] σ (onr (fun v229 σ =>
                                    (lod v221 σ = some v222 ∧ idx 1 x4.2.1 v220 σ = some v221 ∧ True) ∧
                                    og (sbin .add v224 v229) fun v230 =>
                                    og (sbin .add v230 (.val (.string ⟨#[41]⟩))) fun v231 =>
                                    aret v231 σ R) (fun v σ => apan v σ R))) (fun v σ => apan v σ R))) (
                                    k3 (x4.1, x4.2.1, x4.2.2.1, ()) σ)) (
                                  k3 (x4.1, x4.2.1, x4.2.2.1, ()) σ))))))))) fun k4 =>
                og (ibin .eql v52 (.val (.int .i64 2))) fun v89 =>
                apick v89 (
                  k4 (x1.1, x1.2.1, x1.2.2.1, v44, v50, v52, v89, ()) σ) (
                  og (ibin .eql v52 (.val (.int .i64 3))) fun v90 =>
                  k4 (x1.1, x1.2.1, x1.2.2.1, v44, v50, v52, v90, ()) σ)))) (fun v σ => apan v σ R))) (fun v σ => apan v σ R)))) fun k1 =>
    og (ibin .leq a2 (.val (.int .i64 0))) fun v10 =>
    og (gval v10 false false (some a0)) fun v12 =>
    gpick v10 (
      k1 (a0, a1, a2, (.val (.bool true)), ()) σ) (
      acall TP fn_spec_l1Chance [v12, (.val (.int .i64 4))] σ (onr (fun v13 σ =>
      k1 (a0, a1, a2, v13, ()) σ) (fun v σ => apan v σ R))) (False)
def x14 : Sx := .jn 13 [0, 1, 2, 14] (.apick (.var 3) (.jn 105 [0, 1, 21] (.apick (.var 2) (.og (.lenS (.var 1)) (.call 11 [(.var 1), (.var 0)] (.og (.idx 1 (.var 3) (.var 0)) (.og (.lod (.var 0)) (.ret (.var 0)))))) (.call 11 [(.var 0), (.lit (.val (.int .i64 9)))] (.call 15 [(.var 0)] (.call 11 [(.var 2), (.lit (.val (.int .i64 99)))] (.call 15 [(.var 0)] (.bsl 1 [(.val (.string ⟨#[]⟩))] 9 [(0, (.var 2)), (1, (.lit (.val (.string ⟨#[35, 116]⟩)))), (2, (.lit (.val (.string ⟨#[39, 40, 49, 32, 50, 41]⟩)))), (3, (.lit (.val (.string ⟨#[103]⟩)))), (4, (.lit (.val (.string ⟨#[104]⟩)))), (5, (.lit (.val (.string ⟨#[39, 97]⟩)))), (6, (.var 0)), (7, (.lit (.val (.string ⟨#[99, 97, 114]⟩)))), (8, (.lit (.val (.string ⟨#[43]⟩))))] (.call 11 [(.var 5), (.lit (.val (.int .i64 9)))] (.og (.idx 1 (.var 1) (.var 0)) (.og (.lod (.var 0)) (.ret (.var 0))))))))))) (.og (.lenS (.var 1)) (.og (.ibin .gtr (.var 0) (.lit (.val (.int .i64 0)))) (.gog (.var 0) true false (.ret (.var 2)) (.gpick (.var 1) (.call 16 [(.var 0), (.lit (.val (.int .i64 2)))] (.jump 0 [(.var 4), (.var 5), (.var 0)])) (.jump 0 [(.var 3), (.var 4), (.lit (.val (.bool false)))]) (.no)))))) (.bsl 1 [(.val (.string ⟨#[]⟩))] 3 [(0, (.lit (.val (.string ⟨#[120]⟩)))), (1, (.lit (.val (.string ⟨#[121]⟩)))), (2, (.lit (.val (.string ⟨#[122]⟩))))] (.call 11 [(.var 1), (.lit (.val (.int .i64 3)))] (.og (.idx 1 (.var 1) (.var 0)) (.og (.lod (.var 0)) (.bsl 1 [(.val (.string ⟨#[]⟩))] 0 [] (.app 1 (.var 0) (.var 6) (.bsl 1 [(.val (.string ⟨#[]⟩))] 1 [(0, (.var 2))] (.app 1 (.var 1) (.var 0) (.jn 63 [0, 1, 2] (.ord [0, 1, 7, 8, 9, 10, 14, 15, 16, 17, 2, 3, 4, 5, 6, 11, 12, 13, 18, 19, 20, 21] [0, 0, 2, 7, 15, 31, 63, 0, 0, 0, 512, 1926, 4095, 8191, 0, 0, 0, 65536, 249734, 524287, 1048575, 2097151] (.og (.bslR 1 [(.val (.string ⟨#[]⟩))] 5 [(0, (.lit (.val (.string ⟨#[43]⟩)))), (1, (.lit (.val (.string ⟨#[45]⟩)))), (2, (.lit (.val (.string ⟨#[42]⟩)))), (3, (.lit (.val (.string ⟨#[60]⟩)))), (4, (.lit (.val (.string ⟨#[61]⟩))))]) (.og (.ibin .sub (.var 3) (.lit (.val (.int .i64 1)))) (.og (.ibin .sub (.var 4) (.lit (.val (.int .i64 1)))) (.call 11 [(.var 3), (.lit (.val (.int .i64 5)))] (.wat [] (.og (.idx 1 (.var 3) (.var 0)) (.og (.lod (.var 0)) (.og (.sbin .add (.lit (.val (.string ⟨#[40]⟩))) (.var 0)) (.og (.sbin .add (.var 0) (.lit (.val (.string ⟨#[32]⟩)))) (.call 14 [(.var 8), (.var 9), (.var 6)] (.wat [⟨none, (.lod (.var 4)), (.var 3)⟩, ⟨none, (.idx 1 (.var 8) (.var 5)), (.var 4)⟩] (.og (.sbin .add (.var 1) (.var 0)) (.og (.sbin .add (.var 0) (.lit (.val (.string ⟨#[32]⟩)))) (.call 14 [(.var 11), (.var 12), (.var 8)] (.wat [⟨none, (.lod (.var 7)), (.var 6)⟩, ⟨none, (.idx 1 (.var 11) (.var 8)), (.var 7)⟩] (.og (.sbin .add (.var 1) (.var 0)) (.og (.sbin .add (.var 0) (.lit (.val (.string ⟨#[41]⟩)))) (.ret (.var 0)))))))))))))))))))) (.call 11 [(.var 8), (.lit (.val (.int .i64 12)))] (.og (.ibin .eql (.var 0) (.lit (.val (.int .i64 0)))) (.apick (.var 0) (.og (.ibin .sub (.var 12) (.lit (.val (.int .i64 1)))) (.call 14 [(.var 11), (.var 12), (.var 0)] (.og (.sbin .add (.lit (.val (.string ⟨#[40, 105, 102, 32]⟩))) (.var 0)) (.og (.sbin .add (.var 0) (.lit (.val (.string ⟨#[32]⟩)))) (.og (.ibin .sub (.var 16) (.lit (.val (.int .i64 1)))) (.call 14 [(.var 15), (.var 16), (.var 0)] (.og (.sbin .add (.var 2) (.var 0)) (.og (.sbin .add (.var 0) (.lit (.val (.string ⟨#[32]⟩)))) (.og (.ibin .sub (.var 20) (.lit (.val (.int .i64 1)))) (.call 14 [(.var 19), (.var 20), (.var 0)] (.og (.sbin .add (.var 2) (.var 0)) (.og (.sbin .add (.var 0) (.lit (.val (.string ⟨#[41]⟩)))) (.ret (.var 0)))))))))))))) (.og (.ibin .eql (.var 1) (.lit (.val (.int .i64 1)))) (.apick (.var 0) (.og (.sbin .add (.lit (.val (.string ⟨#[40, 108, 97, 109, 98, 100, 97, 32, 40]⟩))) (.var 7)) (.og (.sbin .add (.var 0) (.lit (.val (.string ⟨#[41, 32]⟩)))) (.og (.ibin .sub (.var 15) (.lit (.val (.int .i64 1)))) (.call 14 [(.var 14), (.var 6), (.var 0)] (.og (.sbin .add (.var 2) (.var 0)) (.og (.sbin .add (.var 0) (.lit (.val (.string ⟨#[41]⟩)))) (.ret (.var 0)))))))) (.jn 8031 [0, 1, 2, 7, 8, 52, 88] (.apick (.var 6) (.og (.sbin .add (.lit (.val (.string ⟨#[40, 108, 101, 116, 32, 40, 40]⟩))) (.var 3)) (.og (.sbin .add (.var 0) (.lit (.val (.string ⟨#[32]⟩)))) (.og (.ibin .sub (.var 4) (.lit (.val (.int .i64 1)))) (.call 14 [(.var 3), (.var 4), (.var 0)] (.og (.sbin .add (.var 2) (.var 0)) (.og (.sbin .add (.var 0) (.lit (.val (.string ⟨#[41, 41, 32]⟩)))) (.og (.ibin .sub (.var 8) (.lit (.val (.int .i64 1)))) (.call 14 [(.var 7), (.var 11), (.var 0)] (.og (.sbin .add (.var 2) (.var 0)) (.og (.sbin .add (.var 0) (.lit (.val (.string ⟨#[41]⟩)))) (.ret (.var 0)))))))))))) (.og (.ibin .eql (.var 5) (.lit (.val (.int .i64 4)))) (.apick (.var 0) (.og (.ibin .sub (.var 3) (.lit (.val (.int .i64 1)))) (.call 14 [(.var 2), (.var 3), (.var 0)] (.og (.sbin .add (.lit (.val (.string ⟨#[40, 98, 101, 103, 105, 110, 32]⟩))) (.var 0)) (.og (.sbin .add (.var 0) (.lit (.val (.string ⟨#[32]⟩)))) (.og (.ibin .sub (.var 7) (.lit (.val (.int .i64 1)))) (.call 14 [(.var 6), (.var 7), (.var 0)] (.og (.sbin .add (.var 2) (.var 0)) (.og (.sbin .add (.var 0) (.lit (.val (.string ⟨#[41]⟩)))) (.ret (.var 0)))))))))) (.og (.ibin .eql (.var 6) (.lit (.val (.int .i64 5)))) (.apick (.var 0) (.og (.sbin .add (.lit (.val (.string ⟨#[40, 40, 108, 97, 109, 98, 100, 97, 32, 40]⟩))) (.var 5)) (.og (.sbin .add (.var 0) (.lit (.val (.string ⟨#[41, 32]⟩)))) (.og (.ibin .sub (.var 6) (.lit (.val (.int .i64 1)))) (.call 14 [(.var 5), (.var 9), (.var 0)] (.og (.sbin .add (.var 2) (.var 0)) (.og (.sbin .add (.var 0) (.lit (.val (.string ⟨#[41, 32]⟩)))) (.og (.ibin .sub (.var 10) (.lit (.val (.int .i64 1)))) (.call 14 [(.var 9), (.var 10), (.var 0)] (.og (.sbin .add (.var 2) (.var 0)) (.og (.sbin .add (.var 0) (.lit (.val (.string ⟨#[41]⟩)))) (.ret (.var 0)))))))))))) (.og (.ibin .eql (.var 7) (.lit (.val (.int .i64 6)))) (.apick (.var 0) (.ord [0, 1, 7, 8, 9, 10, 2, 3, 4, 5, 6, 11, 12, 13, 14] [0, 0, 2, 7, 15, 31, 63, 0, 0, 0, 512, 1926, 4095, 8191, 16383] (.og (.bslR 1 [(.val (.string ⟨#[]⟩))] 2 [(0, (.lit (.val (.string ⟨#[103]⟩)))), (1, (.lit (.val (.string ⟨#[104]⟩))))]) (.og (.ibin .sub (.var 6) (.lit (.val (.int .i64 1)))) (.call 11 [(.var 5), (.lit (.val (.int .i64 2)))] (.wat [] (.og (.idx 1 (.var 2) (.var 0)) (.og (.lod (.var 0)) (.og (.sbin .add (.lit (.val (.string ⟨#[40, 115, 101, 116, 33, 32]⟩))) (.var 0)) (.og (.sbin .add (.var 0) (.lit (.val (.string ⟨#[32]⟩)))) (.call 14 [(.var 10), (.var 11), (.var 5)] (.wat [⟨none, (.lod (.var 4)), (.var 3)⟩, ⟨none, (.idx 1 (.var 7) (.var 5)), (.var 4)⟩] (.og (.sbin .add (.var 1) (.var 0)) (.og (.sbin .add (.var 0) (.lit (.val (.string ⟨#[41]⟩)))) (.ret (.var 0))))))))))))))) (.og (.ibin .eql (.var 8) (.lit (.val (.int .i64 7)))) (.apick (.var 0) (.bsl 1 [(.val (.string ⟨#[]⟩))] 0 [] (.app 1 (.var 0) (.var 6) (.bsl 1 [(.val (.string ⟨#[]⟩))] 1 [(0, (.lit (.val (.string ⟨#[107]⟩))))] (.app 1 (.var 1) (.var 0) (.og (.ibin .sub (.var 10) (.lit (.val (.int .i64 1)))) (.call 14 [(.var 9), (.var 1), (.var 0)] (.og (.sbin .add (.lit (.val (.string ⟨#[40, 99, 97, 108, 108, 47, 99, 99, 32, 40, 108, 97, 109, 98, 100, 97, 32, 40, 107, 41, 32]⟩))) (.var 0)) (.og (.sbin .add (.var 0) (.lit (.val (.string ⟨#[41, 41]⟩)))) (.ret (.var 0)))))))))) (.og (.ibin .eql (.var 9) (.lit (.val (.int .i64 8)))) (.apick (.var 0) (.ord [0, 1, 7, 8, 9, 10, 2, 3, 4, 5, 6, 11, 12, 13, 14] [0, 0, 2, 7, 15, 31, 63, 0, 0, 0, 512, 1926, 4095, 8191, 16383] (.og (.bslR 1 [(.val (.string ⟨#[]⟩))] 5 [(0, (.lit (.val (.string ⟨#[99, 97, 114]⟩)))), (1, (.lit (.val (.string ⟨#[99, 100, 114]⟩)))), (2, (.lit (.val (.string ⟨#[110, 117, 108, 108, 63]⟩)))), (3, (.lit (.val (.string ⟨#[112, 97, 105, 114, 63]⟩)))), (4, (.lit (.val (.string ⟨#[110, 111, 116]⟩))))]) (.og (.ibin .sub (.var 8) (.lit (.val (.int .i64 1)))) (.call 11 [(.var 7), (.lit (.val (.int .i64 5)))] (.wat [] (.og (.idx 1 (.var 2) (.var 0)) (.og (.lod (.var 0)) (.og (.sbin .add (.lit (.val (.string ⟨#[40]⟩))) (.var 0)) (.og (.sbin .add (.var 0) (.lit (.val (.string ⟨#[32]⟩)))) (.call 14 [(.var 12), (.var 13), (.var 5)] (.wat [⟨none, (.lod (.var 4)), (.var 3)⟩, ⟨none, (.idx 1 (.var 7) (.var 5)), (.var 4)⟩] (.og (.sbin .add (.var 1) (.var 0)) (.og (.sbin .add (.var 0) (.lit (.val (.string ⟨#[41]⟩)))) (.ret (.var 0))))))))))))))) (.og (.ibin .eql (.var 10) (.lit (.val (.int .i64 9)))) (.apick (.var 0) (.ord [0, 1, 7, 8, 9, 10, 14, 15, 16, 17, 2, 3, 4, 5, 6, 11, 12, 13, 18, 19, 20, 21] [0, 0, 2, 7, 15, 31, 63, 0, 0, 0, 512, 1926, 4095, 8191, 0, 0, 0, 65536, 249734, 524287, 1048575, 2097151] (.og (.bslR 1 [(.val (.string ⟨#[]⟩))] 3 [(0, (.lit (.val (.string ⟨#[99, 111, 110, 115]⟩)))), (1, (.lit (.val (.string ⟨#[108, 105, 115, 116]⟩)))), (2, (.lit (.val (.string ⟨#[101, 113, 63]⟩))))]) (.og (.ibin .sub (.var 9) (.lit (.val (.int .i64 1)))) (.og (.ibin .sub (.var 10) (.lit (.val (.int .i64 1)))) (.call 11 [(.var 9), (.lit (.val (.int .i64 3)))] (.wat [] (.og (.idx 1 (.var 3) (.var 0)) (.og (.lod (.var 0)) (.og (.sbin .add (.lit (.val (.string ⟨#[40]⟩))) (.var 0)) (.og (.sbin .add (.var 0) (.lit (.val (.string ⟨#[32]⟩)))) (.call 14 [(.var 14), (.var 15), (.var 6)] (.wat [⟨none, (.lod (.var 4)), (.var 3)⟩, ⟨none, (.idx 1 (.var 8) (.var 5)), (.var 4)⟩] (.og (.sbin .add (.var 1) (.var 0)) (.og (.sbin .add (.var 0) (.lit (.val (.string ⟨#[32]⟩)))) (.call 14 [(.var 17), (.var 18), (.var 8)] (.wat [⟨none, (.lod (.var 7)), (.var 6)⟩, ⟨none, (.idx 1 (.var 11) (.var 8)), (.var 7)⟩] (.og (.sbin .add (.var 1) (.var 0)) (.og (.sbin .add (.var 0) (.lit (.val (.string ⟨#[41]⟩)))) (.ret (.var 0)))))))))))))))))))) (.og (.ibin .eql (.var 11) (.lit (.val (.int .i64 10)))) (.apick (.var 0) (.og (.lenS (.var 8)) (.og (.ibin .gtr (.var 0) (.lit (.val (.int .i64 0)))) (.apick (.var 0) (.ord [0, 1, 2, 3, 9, 10, 11, 12, 4, 5, 6, 7, 8, 13, 14, 15, 16] [0, 0, 0, 4, 14, 31, 63, 127, 255, 0, 0, 0, 2048, 7710, 16383, 32767, 65535] (.og (.lenS (.var 10)) (.og (.ibin .sub (.var 12) (.lit (.val (.int .i64 1)))) (.call 11 [(.var 11), (.var 1)] (.wat [] (.og (.idx 1 (.var 13) (.var 0)) (.og (.lod (.var 0)) (.og (.sbin .add (.lit (.val (.string ⟨#[40]⟩))) (.var 0)) (.og (.sbin .add (.var 0) (.lit (.val (.string ⟨#[32]⟩)))) (.call 14 [(.var 16), (.var 17), (.var 5)] (.wat [⟨none, (.lod (.var 4)), (.var 3)⟩, ⟨none, (.idx 1 (.var 18) (.var 5)), (.var 4)⟩] (.og (.sbin .add (.var 1) (.var 0)) (.og (.sbin .add (.var 0) (.lit (.val (.string ⟨#[41]⟩)))) (.ret (.var 0))))))))))))))) (.jump 0 [(.var 9), (.var 10), (.var 11)])))) (.jump 0 [(.var 7), (.var 8), (.var 9)])))))))))))))))) (.og (.ibin .eql (.var 2) (.lit (.val (.int .i64 2)))) (.apick (.var 0) (.jump 0 [(.var 12), (.var 13), (.var 14), (.var 8), (.var 4), (.var 3), (.var 0)]) (.og (.ibin .eql (.var 3) (.lit (.val (.int .i64 3)))) (.jump 0 [(.var 13), (.var 14), (.var 15), (.var 9), (.var 5), (.var 4), (.var 0)])))))))))))))))))))) (.og (.ibin .leq (.var 0) (.lit (.val (.int .i64 0)))) (.gog (.var 0) false false (.ret (.var 3)) (.gpick (.var 1) (.jump 0 [(.var 4), (.var 3), (.var 2), (.lit (.val (.bool true)))]) (.call 16 [(.var 0), (.lit (.val (.int .i64 4)))] (.jump 0 [(.var 5), (.var 4), (.var 3), (.var 0)])) (.no))))
set_option maxRecDepth 1000000 in
theorem x14_ok : okF TT Try.f14 3 x14 = true := by decide +kernel
set_option maxRecDepth 1000000 in
theorem s_spec_l4Source_ok {a0 a1 a2 : AV} {σ : AH} {R : AEnd → AH → Prop} (h : s_spec_l4Source a0 a1 a2 σ R) : acall TP fn_spec_l4Source [a0, a1, a2] σ R :=
  acall_okF (ρ := [a2, a1, a0]) TT_ok Try.func14 rfl x14 x14_ok rfl h

/-- loop.example/g00349/spec.l1Digits -/
def s_spec_l1Digits (a0 : AV) (σ : AH) (R : AEnd → AH → Prop) : Prop :=
  og (ibin .lss a0 (.val (.int .i64 0))) fun v4 =>
  apick v4 (
    og (aun .neg a0) fun v6 =>
    acall TP fn_spec_l1Digits [v6] σ (onr (fun v7 σ =>
    og (sbin .add (.val (.string ⟨#[45]⟩)) v7) fun v8 =>
    aret v8 σ R) (fun v σ => apan v σ R))) (
    og (ibin .lss a0 (.val (.int .i64 10))) fun v10 =>
    apick v10 (
      og (ibin .add (.val (.int .i64 48)) a0) fun v12 =>
      og (convI .u8 v12) fun v13 =>
      bsl 1 [(.val (.int .u8 0))] 1 [(0, v13)] σ fun v14 σ =>
      aconv TT ty_Lb ty_s v14 σ fun v15 σ =>
      aret v15 σ R) (
      og (ibin .quo a0 (.val (.int .i64 10))) fun v17 =>
      og (ibin .rem a0 (.val (.int .i64 10))) fun v20 =>
      og (ibin .add (.val (.int .i64 48)) v20) fun v21 =>
      og (convI .u8 v21) fun v22 =>
      og (bslR 1 [(.val (.int .u8 0))] 1 [(0, v22)]) fun v23 =>
      og (b2s v23) fun v24 =>
      acall TP fn_spec_l1Digits [v17] σ (onr (fun v18 σ =>
      (True) ∧
      og (sbin .add v18 v24) fun v25 =>
      aret v25 σ R) (fun v σ => apan v σ R))))
def x15 : Sx := .og (.ibin .lss (.var 0) (.lit (.val (.int .i64 0)))) (.apick (.var 0) (.og (.aun .neg (.var 1)) (.call 15 [(.var 0)] (.og (.sbin .add (.lit (.val (.string ⟨#[45]⟩))) (.var 0)) (.ret (.var 0))))) (.og (.ibin .lss (.var 1) (.lit (.val (.int .i64 10)))) (.apick (.var 0) (.og (.ibin .add (.lit (.val (.int .i64 48))) (.var 2)) (.og (.conv .u8 (.var 0)) (.bsl 1 [(.val (.int .u8 0))] 1 [(0, (.var 0))] (.cnv 22 9 (.var 0) (.ret (.var 0)))))) (.ord [0, 1, 3, 4, 5, 6, 7, 8, 2, 9, 10] [0, 1, 3, 0, 8, 24, 56, 120, 248, 511, 1023] (.og (.ibin .quo (.var 2) (.lit (.val (.int .i64 10)))) (.og (.ibin .rem (.var 3) (.lit (.val (.int .i64 10)))) (.og (.ibin .add (.lit (.val (.int .i64 48))) (.var 0)) (.og (.conv .u8 (.var 0)) (.og (.bslR 1 [(.val (.int .u8 0))] 1 [(0, (.var 0))]) (.og (.b2s (.var 0)) (.call 15 [(.var 5)] (.wat [] (.og (.sbin .add (.var 0) (.var 1)) (.ret (.var 0)))))))))))))))
set_option maxRecDepth 1000000 in
theorem x15_ok : okF TT Try.f15 1 x15 = true := by decide +kernel
set_option maxRecDepth 1000000 in
theorem s_spec_l1Digits_ok {a0 : AV} {σ : AH} {R : AEnd → AH → Prop} (h : s_spec_l1Digits a0 σ R) : acall TP fn_spec_l1Digits [a0] σ R :=
  acall_okF (ρ := [a0]) TT_ok Try.func15 rfl x15 x15_ok rfl h

/-- loop.example/g00349/spec.l1Chance -/
def s_spec_l1Chance (a0 a1 : AV) (σ : AH) (R : AEnd → AH → Prop) : Prop :=
  acall TP fn_spec_l1Next [a0, a1] σ (onr (fun v7 σ =>
  og (ibin .eql v7 (.val (.int .i64 0))) fun v8 =>
  aret v8 σ R) (fun v σ => apan v σ R))
def x16 : Sx := .call 11 [(.var 1), (.var 0)] (.og (.ibin .eql (.var 0) (.lit (.val (.int .i64 0)))) (.ret (.var 0)))
set_option maxRecDepth 1000000 in
theorem x16_ok : okF TT Try.f16 2 x16 = true := by decide +kernel
set_option maxRecDepth 1000000 in
theorem s_spec_l1Chance_ok {a0 a1 : AV} {σ : AH} {R : AEnd → AH → Prop} (h : s_spec_l1Chance a0 a1 σ R) : acall TP fn_spec_l1Chance [a0, a1] σ R :=
  acall_okF (ρ := [a1, a0]) TT_ok Try.func16 rfl x16 x16_ok rfl h

end Go.Proofs.Ytnmggfcjbpnekaa.E
