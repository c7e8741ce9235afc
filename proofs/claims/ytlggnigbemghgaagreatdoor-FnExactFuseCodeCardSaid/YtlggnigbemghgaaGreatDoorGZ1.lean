/- What functions come to. Printed by mkg.py. -/
import Derived.Test.YtlggnigbemghgaaGreatDoorGZ0
namespace Go.Proofs.YtlggnigbemghgaaGreatDoor.E
open Go Go.RowKit
set_option linter.unusedVariables false
set_option linter.unusedSectionVars false
variable [Lam]
/-- loop.example/g00349/laws.FnExactFuseCode -/
def s_laws_FnExactFuseCode (a0 a1 : AV) (σ : AH) (R : AEnd → AH → Prop) : Prop :=
  acall TP fn_laws_szBlockS [a0, (.val (.int .i64 1048576))] σ (onr (fun v15 σ =>
  og (ibin .lss v15 (.val (.int .i64 0))) fun v17 =>
  apick v17 (
    aret (.val (.bool true)) σ R) (
    acall TP fn_laws_toBlockS [a0] σ (onr (fun v19 σ =>
    acall TP fn_spec_FuseCode [v19, a1] σ (onr (fun v21 σ =>
    new [(.val (.int .i64 0)), (.val (.slice none 0 0))] σ fun v6 σ =>
    sto 2 v6 v21 σ fun σ =>
    frz v6 σ fun f6 σ =>
    acall TP fn_laws_toBlockS [a0] σ (onr (fun v23 σ =>
    acall TP fn_impl_FuseCode [v23, a1] σ (onr (fun v26 σ =>
    new [(.val (.int .i64 0)), (.val (.slice none 0 0))] σ fun v8 σ =>
    sto 2 v8 v26 σ fun σ =>
    frz v8 σ fun f8 σ =>
    og (lodA 2 f8 σ) fun v27 =>
    og (lodA 2 f6 σ) fun v28 =>
    acall TP fn_laws_eqCodeResult [v27, v28] σ (onr (fun v29 σ =>
    og (aun .not v29) fun v30 =>
    apick v30 (
      aret (.val (.bool false)) σ R) (
      acall TP fn_laws_toBlockS [a0] σ (onr (fun v33 σ =>
      acall TP fn_laws_eqBlockS [v23, v33] σ (onr (fun v34 σ =>
      og (aun .not v34) fun v35 =>
      apick v35 (
        aret (.val (.bool false)) σ R) (
        acall TP fn_laws_markBlockS [v23, (.val (.int .i64 1))] σ (onr (fun v38 σ =>
        jn (X := Tup [0, 1, 6, 8, 46]) (fun x1 σ =>
            apick x1.2.2.2.2.1 (
              aret (.val (.bool false)) σ R) (
              og (lodA 2 x1.2.2.2.1 σ) fun v47 =>
              acall TP fn_laws_markCodeResult [v47, (.val (.int .i64 1))] σ (onr (fun v49 σ =>
              og (lodA 2 x1.2.2.2.1 σ) fun v50 =>
              acall TP fn_laws_heldCodeResult [v50, (.val (.int .i64 1))] σ (onr (fun v52 σ =>
              og (ibin .lss v52 (.val (.int .i64 0))) fun v54 =>
              apick v54 (
                aret (.val (.bool false)) σ R) (
                og (ibin .neq v52 v49) fun v57 =>
                apick v57 (
                  aret (.val (.bool false)) σ R) (
                  acall TP fn_laws_toBlockS [x1.1] σ (onr (fun v59 σ =>
                  acall TP fn_impl_FuseCode [v59, x1.2.1] σ (onr (fun v61 σ =>
                  new [(.val (.int .i64 0)), (.val (.slice none 0 0))] σ fun v12 σ =>
                  sto 2 v12 v61 σ fun σ =>
                  frz v12 σ fun f12 σ =>
                  og (lodA 2 f12 σ) fun v62 =>
                  og (lodA 2 x1.2.2.1 σ) fun v63 =>
                  acall TP fn_laws_eqCodeResult [v62, v63] σ (onr (fun v64 σ =>
                  og (aun .not v64) fun v65 =>
                  apick v65 (
                    aret (.val (.bool false)) σ R) (
                    og (lodA 2 x1.2.2.2.1 σ) fun v66 =>
                    acall TP fn_laws_heldCodeResult [v66, (.val (.int .i64 1))] σ (onr (fun v68 σ =>
                    og (ibin .lss v68 (.val (.int .i64 0))) fun v70 =>
                    apick v70 (
                      aret (.val (.bool false)) σ R) (
                      og (ibin .neq v68 v49) fun v73 =>
                      apick v73 (
                        aret (.val (.bool false)) σ R) (
                        aret (.val (.bool true)) σ R))) (fun v σ => apan v σ R)))) (fun v σ => apan v σ R))) (fun v σ => apan v σ R))) (fun v σ => apan v σ R))))) (fun v σ => apan v σ R))) (fun v σ => apan v σ R)))) fun k1 =>
          og (ibin .lss v38 (.val (.int .i64 0))) fun v40 =>
          og (gval v40 false false (lodA 2 f8 σ)) fun v42 =>
          og (gval v40 false false (lodA 2 f6 σ)) fun v43 =>
          gpick v40 (
            k1 (a0, a1, f6, f8, (.val (.bool true)), ()) σ) (
            acall TP fn_laws_eqCodeResult [v42, v43] σ (onr (fun v44 σ =>
            og (aun .not v44) fun v45 =>
            k1 (a0, a1, f6, f8, v45, ()) σ) (fun v σ => apan v σ R))) (False)) (fun v σ => apan v σ R)))) (fun v σ => apan v σ R))) (fun v σ => apan v σ R)))) (fun v σ => apan v σ R))) (fun v σ => apan v σ R))) (fun v σ => apan v σ R))) (fun v σ => apan v σ R))) (fun v σ => apan v σ R)))) (fun v σ => apan v σ R))
def x4 : Sx := .call 5 [(.var 1), (.lit (.val (.int .i64 1048576)))] (.og (.ibin .lss (.var 0) (.lit (.val (.int .i64 0)))) (.apick (.var 0) (.ret (.lit (.val (.bool true)))) (.call 7 [(.var 3)] (.call 14 [(.var 0), (.var 3)] (.new [(.val (.int .i64 0)), (.val (.slice none 0 0))] (.sto 2 (.var 0) (.var 1) (.frz 6 (.var 0) (.call 7 [(.var 7)] (.call 15 [(.var 0), (.var 7)] (.new [(.val (.int .i64 0)), (.val (.slice none 0 0))] (.sto 2 (.var 0) (.var 1) (.frz 10 (.var 0) (.og (.lodA 2 (.var 0)) (.og (.lodA 2 (.var 5)) (.call 9 [(.var 1), (.var 0)] (.og (.aun .not (.var 0)) (.apick (.var 0) (.ret (.lit (.val (.bool false)))) (.call 7 [(.var 15)] (.call 10 [(.var 8), (.var 0)] (.og (.aun .not (.var 0)) (.apick (.var 0) (.ret (.lit (.val (.bool false)))) (.call 11 [(.var 10), (.lit (.val (.int .i64 1)))] (.jn 16381 [0, 1, 6, 8, 46] (.apick (.var 4) (.ret (.lit (.val (.bool false)))) (.og (.lodA 2 (.var 3)) (.call 12 [(.var 0), (.lit (.val (.int .i64 1)))] (.og (.lodA 2 (.var 5)) (.call 13 [(.var 0), (.lit (.val (.int .i64 1)))] (.og (.ibin .lss (.var 0) (.lit (.val (.int .i64 0)))) (.apick (.var 0) (.ret (.lit (.val (.bool false)))) (.og (.ibin .neq (.var 1) (.var 3)) (.apick (.var 0) (.ret (.lit (.val (.bool false)))) (.call 7 [(.var 6)] (.call 15 [(.var 0), (.var 8)] (.new [(.val (.int .i64 0)), (.val (.slice none 0 0))] (.sto 2 (.var 0) (.var 1) (.frz 13 (.var 0) (.og (.lodA 2 (.var 0)) (.og (.lodA 2 (.var 13)) (.call 9 [(.var 1), (.var 0)] (.og (.aun .not (.var 0)) (.apick (.var 0) (.ret (.lit (.val (.bool false)))) (.og (.lodA 2 (.var 17)) (.call 13 [(.var 0), (.lit (.val (.int .i64 1)))] (.og (.ibin .lss (.var 0) (.lit (.val (.int .i64 0)))) (.apick (.var 0) (.ret (.lit (.val (.bool false)))) (.og (.ibin .neq (.var 1) (.var 15)) (.apick (.var 0) (.ret (.lit (.val (.bool false)))) (.ret (.lit (.val (.bool true))))))))))))))))))))))))))))) (.og (.ibin .lss (.var 0) (.lit (.val (.int .i64 0)))) (.gog (.var 0) false false (.lodA 2 (.var 9)) (.gog (.var 1) false false (.lodA 2 (.var 14)) (.gpick (.var 2) (.jump 0 [(.var 22), (.var 21), (.var 15), (.var 11), (.lit (.val (.bool true)))]) (.call 9 [(.var 1), (.var 0)] (.og (.aun .not (.var 0)) (.jump 0 [(.var 24), (.var 23), (.var 17), (.var 13), (.var 0)]))) (.no))))))))))))))))))))))))))))
set_option maxRecDepth 1000000 in
theorem x4_ok : okF TT Tryz.f4 2 x4 = true := by decide +kernel
set_option maxRecDepth 1000000 in
theorem s_laws_FnExactFuseCode_ok {a0 a1 : AV} {σ : AH} {R : AEnd → AH → Prop} (h : s_laws_FnExactFuseCode a0 a1 σ R) : acall TP fn_laws_FnExactFuseCode [a0, a1] σ R :=
  acall_okF (ρ := [a1, a0]) TT_ok Tryz.func4 rfl x4 x4_ok rfl h

/-- loop.example/g00349/laws.szBlockS -/
def s_laws_szBlockS (a0 a1 : AV) (σ : AH) (R : AEnd → AH → Prop) : Prop :=
  og (lenS a0) fun v8 =>
  og (ibin .sub a1 v8) fun v9 =>
  og (ibin .lss v9 (.val (.int .i64 0))) fun v11 =>
  apick v11 (
    aret (.val (.int .i64 (-1))) σ R) (
    lp (X := Tup [0, 1, 5]) (fun R1 y1 σ =>
      og (lenS y1.1) fun v14 =>
      og (ibin .lss y1.2.2.1 v14) fun v15 =>
      apick v15 (
        og (idx 2 y1.1 y1.2.2.1 σ) fun v20 =>
        og (lodA 2 v20 σ) fun v21 =>
        acall TP fn_laws_szBlock [v21, y1.2.1] σ (onr (fun v23 σ =>
        og (ibin .lss v23 (.val (.int .i64 0))) fun v25 =>
        apick v25 (
          aret (.val (.int .i64 (-1))) σ R) (
          og (ibin .add y1.2.2.1 (.val (.int .i64 1))) fun v17 =>
          R1 (y1.1, v23, v17, ()) σ)) (fun v σ => apan v σ R))) (
        aret y1.2.1 σ R)) (a0, v9, (.val (.int .i64 0)), ()) σ)
def x5 : Sx := .og (.lenS (.var 1)) (.og (.ibin .sub (.var 1) (.var 0)) (.og (.ibin .lss (.var 0) (.lit (.val (.int .i64 0)))) (.apick (.var 0) (.ret (.lit (.val (.int .i64 (-1))))) (.lp [0, 1, 5] (.og (.lenS (.var 0)) (.og (.ibin .lss (.var 3) (.var 0)) (.apick (.var 0) (.og (.idx 2 (.var 2) (.var 4)) (.og (.lodA 2 (.var 0)) (.call 16 [(.var 0), (.var 5)] (.og (.ibin .lss (.var 0) (.lit (.val (.int .i64 0)))) (.apick (.var 0) (.ret (.lit (.val (.int .i64 (-1))))) (.og (.ibin .add (.var 8) (.lit (.val (.int .i64 1)))) (.jump 0 [(.var 7), (.var 2), (.var 0)]))))))) (.ret (.var 3))))) [(.var 4), (.var 1), (.lit (.val (.int .i64 0)))]))))
set_option maxRecDepth 1000000 in
theorem x5_ok : okF TT Tryz.f5 2 x5 = true := by decide +kernel
set_option maxRecDepth 1000000 in
theorem s_laws_szBlockS_ok {a0 a1 : AV} {σ : AH} {R : AEnd → AH → Prop} (h : s_laws_szBlockS a0 a1 σ R) : acall TP fn_laws_szBlockS [a0, a1] σ R :=
  acall_okF (ρ := [a1, a0]) TT_ok Tryz.func5 rfl x5 x5_ok rfl h

/-- loop.example/g00349/laws.toBlockS -/
def s_laws_toBlockS (a0 : AV) (σ : AH) (R : AEnd → AH → Prop) : Prop :=
  og (lenS a0) fun v6 =>
  amake TT ty_LRiLRiiiiisLRiiisEEE v6 v6 σ fun v7 σ =>
  lp (X := Tup [0, 3, 4]) (fun R1 y1 σ =>
    og (lenS y1.1) fun v10 =>
    og (ibin .lss y1.2.2.1 v10) fun v11 =>
    apick v11 (
      og (idx 2 y1.1 y1.2.2.1 σ) fun v18 =>
      og (lodA 2 v18 σ) fun v19 =>
      acall TP fn_laws_toBlock [v19] σ (onr (fun v20 σ =>
      og (idx 2 y1.2.1 y1.2.2.1 σ) fun v21 =>
      sto 2 v21 v20 σ fun σ =>
      og (ibin .add y1.2.2.1 (.val (.int .i64 1))) fun v13 =>
      R1 (y1.1, y1.2.1, v13, ()) σ) (fun v σ => apan v σ R))) (
      aret y1.2.1 σ R)) (a0, v7, (.val (.int .i64 0)), ()) σ
def x7 : Sx := .og (.lenS (.var 0)) (.mks 24 (.var 0) (.var 0) (.lp [0, 3, 4] (.og (.lenS (.var 0)) (.og (.ibin .lss (.var 3) (.var 0)) (.apick (.var 0) (.og (.idx 2 (.var 2) (.var 4)) (.og (.lodA 2 (.var 0)) (.call 20 [(.var 0)] (.og (.idx 2 (.var 6) (.var 7)) (.sto 2 (.var 0) (.var 1) (.og (.ibin .add (.var 8) (.lit (.val (.int .i64 1)))) (.jump 0 [(.var 7), (.var 8), (.var 0)]))))))) (.ret (.var 3))))) [(.var 2), (.var 0), (.lit (.val (.int .i64 0)))]))
set_option maxRecDepth 1000000 in
theorem x7_ok : okF TT Tryz.f7 1 x7 = true := by decide +kernel
set_option maxRecDepth 1000000 in
theorem s_laws_toBlockS_ok {a0 : AV} {σ : AH} {R : AEnd → AH → Prop} (h : s_laws_toBlockS a0 σ R) : acall TP fn_laws_toBlockS [a0] σ R :=
  acall_okF (ρ := [a0]) TT_ok Tryz.func7 rfl x7 x7_ok rfl h

/-- loop.example/g00349/laws.eqCodeResult -/
def s_laws_eqCodeResult (a0 a1 : AV) (σ : AH) (R : AEnd → AH → Prop) : Prop :=
  abox a0 σ fun v2 σ =>
  abox a1 σ fun v3 σ =>
  frz v2 σ fun f2 σ =>
  frz v3 σ fun f3 σ =>
  og (fldA 0 f2) fun v5 =>
  og (lod v5 σ) fun v6 =>
  og (fldA 0 f3) fun v7 =>
  og (lod v7 σ) fun v8 =>
  og (ibin .neq v6 v8) fun v9 =>
  apick v9 (
    aret (.val (.bool false)) σ R) (
    og (fldA 1 f2) fun v10 =>
    og (lod v10 σ) fun v11 =>
    og (fldA 1 f3) fun v12 =>
    og (lod v12 σ) fun v13 =>
    acall TP fn_laws_eqBlockS [v11, v13] σ (onr (fun v14 σ =>
    og (aun .not v14) fun v15 =>
    apick v15 (
      aret (.val (.bool false)) σ R) (
      aret (.val (.bool true)) σ R)) (fun v σ => apan v σ R)))
def x9 : Sx := .box (.var 1) (.box (.var 1) (.frz 2 (.var 1) (.frz 3 (.var 1) (.og (.fldA 0 (.var 1)) (.og (.lod (.var 0)) (.og (.fldA 0 (.var 2)) (.og (.lod (.var 0)) (.og (.ibin .neq (.var 2) (.var 0)) (.apick (.var 0) (.ret (.lit (.val (.bool false)))) (.og (.fldA 1 (.var 6)) (.og (.lod (.var 0)) (.og (.fldA 1 (.var 7)) (.og (.lod (.var 0)) (.call 10 [(.var 2), (.var 0)] (.og (.aun .not (.var 0)) (.apick (.var 0) (.ret (.lit (.val (.bool false)))) (.ret (.lit (.val (.bool true))))))))))))))))))))
set_option maxRecDepth 1000000 in
theorem x9_ok : okF TT Tryz.f9 2 x9 = true := by decide +kernel
set_option maxRecDepth 1000000 in
theorem s_laws_eqCodeResult_ok {a0 a1 : AV} {σ : AH} {R : AEnd → AH → Prop} (h : s_laws_eqCodeResult a0 a1 σ R) : acall TP fn_laws_eqCodeResult [a0, a1] σ R :=
  acall_okF (ρ := [a1, a0]) TT_ok Tryz.func9 rfl x9 x9_ok rfl h

/-- loop.example/g00349/laws.eqBlockS -/
def s_laws_eqBlockS (a0 a1 : AV) (σ : AH) (R : AEnd → AH → Prop) : Prop :=
  og (lenS a0) fun v7 =>
  og (lenS a1) fun v9 =>
  og (ibin .neq v7 v9) fun v10 =>
  apick v10 (
    aret (.val (.bool false)) σ R) (
    lp (X := Tup [0, 1, 5]) (fun R1 y1 σ =>
      og (lenS y1.1) fun v13 =>
      og (ibin .lss y1.2.2.1 v13) fun v14 =>
      apick v14 (
        og (idx 2 y1.1 y1.2.2.1 σ) fun v19 =>
        og (lodA 2 v19 σ) fun v20 =>
        og (idx 2 y1.2.1 y1.2.2.1 σ) fun v23 =>
        og (lodA 2 v23 σ) fun v24 =>
        acall TP fn_laws_eqBlock [v20, v24] σ (onr (fun v25 σ =>
        (True) ∧
        og (aun .not v25) fun v26 =>
        apick v26 (
          aret (.val (.bool false)) σ R) (
          og (ibin .add y1.2.2.1 (.val (.int .i64 1))) fun v16 =>
          R1 (y1.1, y1.2.1, v16, ()) σ)) (fun v σ => apan v σ R))) (
        aret (.val (.bool true)) σ R)) (a0, a1, (.val (.int .i64 0)), ()) σ)
def x10 : Sx := .og (.lenS (.var 1)) (.og (.lenS (.var 1)) (.og (.ibin .neq (.var 1) (.var 0)) (.apick (.var 0) (.ret (.lit (.val (.bool false)))) (.lp [0, 1, 5] (.og (.lenS (.var 0)) (.og (.ibin .lss (.var 3) (.var 0)) (.apick (.var 0) (.ord [0, 1, 2, 3, 4, 5, 6, 7, 8, 9] [0, 0, 3, 7, 0, 0, 48, 112, 255, 511] (.og (.idx 2 (.var 2) (.var 4)) (.og (.lodA 2 (.var 0)) (.og (.idx 2 (.var 5) (.var 6)) (.og (.lodA 2 (.var 0)) (.call 25 [(.var 2), (.var 0)] (.wat [] (.og (.aun .not (.var 0)) (.apick (.var 0) (.ret (.lit (.val (.bool false)))) (.og (.ibin .add (.var 10) (.lit (.val (.int .i64 1)))) (.jump 0 [(.var 9), (.var 10), (.var 0)]))))))))))) (.ret (.lit (.val (.bool true))))))) [(.var 4), (.var 3), (.lit (.val (.int .i64 0)))]))))
set_option maxRecDepth 1000000 in
theorem x10_ok : okF TT Tryz.f10 2 x10 = true := by decide +kernel
set_option maxRecDepth 1000000 in
theorem s_laws_eqBlockS_ok {a0 a1 : AV} {σ : AH} {R : AEnd → AH → Prop} (h : s_laws_eqBlockS a0 a1 σ R) : acall TP fn_laws_eqBlockS [a0, a1] σ R :=
  acall_okF (ρ := [a1, a0]) TT_ok Tryz.func10 rfl x10 x10_ok rfl h

/-- loop.example/g00349/laws.markBlockS -/
def s_laws_markBlockS (a0 a1 : AV) (σ : AH) (R : AEnd → AH → Prop) : Prop :=
  lp (X := Tup [0, 1, 5]) (fun R1 y1 σ =>
    og (lenS y1.1) fun v8 =>
    og (ibin .lss y1.2.2.1 v8) fun v9 =>
    apick v9 (
      og (idx 2 y1.1 y1.2.2.1 σ) fun v15 =>
      og (fldA 0 v15) fun v16 =>
      sto 1 v16 y1.2.1 σ fun σ =>
      og (ibin .add y1.2.1 (.val (.int .i64 1))) fun v18 =>
      og (idx 2 y1.1 y1.2.2.1 σ) fun v21 =>
      og (fldA 1 v21) fun v22 =>
      og (lod v22 σ) fun v23 =>
      acall TP fn_laws_markOpS [v23, v18] σ (onr (fun v25 σ =>
      og (ibin .add y1.2.2.1 (.val (.int .i64 1))) fun v11 =>
      R1 (y1.1, v25, v11, ()) σ) (fun v σ => apan v σ R))) (
      aret y1.2.1 σ R)) (a0, a1, (.val (.int .i64 0)), ()) σ
def x11 : Sx := .lp [0, 1, 5] (.og (.lenS (.var 0)) (.og (.ibin .lss (.var 3) (.var 0)) (.apick (.var 0) (.og (.idx 2 (.var 2) (.var 4)) (.og (.fldA 0 (.var 0)) (.sto 1 (.var 0) (.var 5) (.og (.ibin .add (.var 5) (.lit (.val (.int .i64 1)))) (.og (.idx 2 (.var 5) (.var 7)) (.og (.fldA 1 (.var 0)) (.og (.lod (.var 0)) (.call 26 [(.var 0), (.var 3)] (.og (.ibin .add (.var 11) (.lit (.val (.int .i64 1)))) (.jump 0 [(.var 10), (.var 1), (.var 0)])))))))))) (.ret (.var 3))))) [(.var 1), (.var 0), (.lit (.val (.int .i64 0)))]
set_option maxRecDepth 1000000 in
theorem x11_ok : okF TT Tryz.f11 2 x11 = true := by decide +kernel
set_option maxRecDepth 1000000 in
theorem s_laws_markBlockS_ok {a0 a1 : AV} {σ : AH} {R : AEnd → AH → Prop} (h : s_laws_markBlockS a0 a1 σ R) : acall TP fn_laws_markBlockS [a0, a1] σ R :=
  acall_okF (ρ := [a1, a0]) TT_ok Tryz.func11 rfl x11 x11_ok rfl h

/-- loop.example/g00349/laws.markCodeResult -/
def s_laws_markCodeResult (a0 a1 : AV) (σ : AH) (R : AEnd → AH → Prop) : Prop :=
  abox a0 σ fun v2 σ =>
  frz v2 σ fun f2 σ =>
  og (fldA 1 f2) fun v5 =>
  og (lod v5 σ) fun v6 =>
  acall TP fn_laws_markBlockS [v6, a1] σ (onr (fun v8 σ =>
  aret v8 σ R) (fun v σ => apan v σ R))
def x12 : Sx := .box (.var 1) (.frz 2 (.var 0) (.og (.fldA 1 (.var 0)) (.og (.lod (.var 0)) (.call 11 [(.var 0), (.var 4)] (.ret (.var 0))))))
set_option maxRecDepth 1000000 in
theorem x12_ok : okF TT Tryz.f12 2 x12 = true := by decide +kernel
set_option maxRecDepth 1000000 in
theorem s_laws_markCodeResult_ok {a0 a1 : AV} {σ : AH} {R : AEnd → AH → Prop} (h : s_laws_markCodeResult a0 a1 σ R) : acall TP fn_laws_markCodeResult [a0, a1] σ R :=
  acall_okF (ρ := [a1, a0]) TT_ok Tryz.func12 rfl x12 x12_ok rfl h

/-- loop.example/g00349/laws.heldCodeResult -/
def s_laws_heldCodeResult (a0 a1 : AV) (σ : AH) (R : AEnd → AH → Prop) : Prop :=
  abox a0 σ fun v2 σ =>
  frz v2 σ fun f2 σ =>
  og (fldA 1 f2) fun v5 =>
  og (lod v5 σ) fun v6 =>
  acall TP fn_laws_heldBlockS [v6, a1] σ (onr (fun v8 σ =>
  og (ibin .lss v8 (.val (.int .i64 0))) fun v10 =>
  apick v10 (
    aret (.val (.int .i64 (-1))) σ R) (
    aret v8 σ R)) (fun v σ => apan v σ R))
def x13 : Sx := .box (.var 1) (.frz 2 (.var 0) (.og (.fldA 1 (.var 0)) (.og (.lod (.var 0)) (.call 27 [(.var 0), (.var 4)] (.og (.ibin .lss (.var 0) (.lit (.val (.int .i64 0)))) (.apick (.var 0) (.ret (.lit (.val (.int .i64 (-1))))) (.ret (.var 1))))))))
set_option maxRecDepth 1000000 in
theorem x13_ok : okF TT Tryz.f13 2 x13 = true := by decide +kernel
set_option maxRecDepth 1000000 in
theorem s_laws_heldCodeResult_ok {a0 a1 : AV} {σ : AH} {R : AEnd → AH → Prop} (h : s_laws_heldCodeResult a0 a1 σ R) : acall TP fn_laws_heldCodeResult [a0, a1] σ R :=
  acall_okF (ρ := [a1, a0]) TT_ok Tryz.func13 rfl x13 x13_ok rfl h

/-- loop.example/g00349/spec.FuseCode -/
def s_spec_FuseCode (a0 a1 : AV) (σ : AH) (R : AEnd → AH → Prop) : Prop :=
  new [(.val (.int .i64 0)), (.val (.slice none 0 0))] σ fun v4 σ =>
  acall TP fn_spec_l10Fault [a0] σ (onr (fun v9 σ =>
  og (aext v9 0) fun v10 =>
  og (aext v9 1) fun v11 =>
  og (ibin .neq v11 (.val (.int .i64 0))) fun v13 =>
  apick v13 (
    og (bld [(.val (.int .i64 0)), (.val (.slice none 0 0))] [(0, 1), (1, 1)] [(0, v11)]) fun v15 =>
    sto 2 v4 v15 σ fun σ =>
    og (lodA 2 v4 σ) fun r4 =>
    aret r4 σ R) (
    acall TP fn_spec_l11Table [a1] σ (onr (fun v17 σ =>
    og (aun .not v17) fun v18 =>
    apick v18 (
      og (bld [(.val (.int .i64 0)), (.val (.slice none 0 0))] [(0, 1), (1, 1)] [(0, (.val (.int .i64 3)))]) fun v19 =>
      sto 2 v4 v19 σ fun σ =>
      og (lodA 2 v4 σ) fun r4 =>
      aret r4 σ R) (
      acall TP fn_spec_l11FuseAll [a0, a1] σ (onr (fun v22 σ =>
      og (bld [(.val (.int .i64 0)), (.val (.slice none 0 0))] [(0, 1), (1, 1)] [(1, v22)]) fun v23 =>
      sto 2 v4 v23 σ fun σ =>
      og (lodA 2 v4 σ) fun r4 =>
      aret r4 σ R) (fun v σ => apan v σ R)))) (fun v σ => apan v σ R)))) (fun v σ => apan v σ R))
def x14 : Sx := .new [(.val (.int .i64 0)), (.val (.slice none 0 0))] (.call 17 [(.var 2)] (.og (.aext (.var 0) 0) (.og (.aext (.var 1) 1) (.og (.ibin .neq (.var 0) (.lit (.val (.int .i64 0)))) (.apick (.var 0) (.og (.bld [(.val (.int .i64 0)), (.val (.slice none 0 0))] [(0, 1), (1, 1)] [(0, (.var 1))]) (.sto 2 (.var 5) (.var 0) (.og (.lodA 2 (.var 5)) (.ret (.var 0))))) (.call 28 [(.var 5)] (.og (.aun .not (.var 0)) (.apick (.var 0) (.og (.bld [(.val (.int .i64 0)), (.val (.slice none 0 0))] [(0, 1), (1, 1)] [(0, (.lit (.val (.int .i64 3))))]) (.sto 2 (.var 7) (.var 0) (.og (.lodA 2 (.var 7)) (.ret (.var 0))))) (.call 29 [(.var 8), (.var 7)] (.og (.bld [(.val (.int .i64 0)), (.val (.slice none 0 0))] [(0, 1), (1, 1)] [(1, (.var 0))]) (.sto 2 (.var 8) (.var 0) (.og (.lodA 2 (.var 8)) (.ret (.var 0))))))))))))))
set_option maxRecDepth 1000000 in
theorem x14_ok : okF TT Tryz.f14 2 x14 = true := by decide +kernel
set_option maxRecDepth 1000000 in
theorem s_spec_FuseCode_ok {a0 a1 : AV} {σ : AH} {R : AEnd → AH → Prop} (h : s_spec_FuseCode a0 a1 σ R) : acall TP fn_spec_FuseCode [a0, a1] σ R :=
  acall_okF (ρ := [a1, a0]) TT_ok Tryz.func14 rfl x14 x14_ok rfl h

/-- loop.example/g00349/impl.FuseCode -/
def s_impl_FuseCode (a0 a1 : AV) (σ : AH) (R : AEnd → AH → Prop) : Prop :=
  new [(.val (.int .i64 0)), (.val (.slice none 0 0))] σ fun v4 σ =>
  acall TP fn_impl_CodeFault [a0] σ (onr (fun v8 σ =>
  og (ibin .neq v8 (.val (.int .i64 0))) fun v10 =>
  apick v10 (
    og (bld [(.val (.int .i64 0)), (.val (.slice none 0 0))] [(0, 1), (1, 1)] [(0, v8)]) fun v12 =>
    sto 2 v4 v12 σ fun σ =>
    og (lodA 2 v4 σ) fun r4 =>
    aret r4 σ R) (
    acall TP fn_impl_TableFault [a1] σ (onr (fun v14 σ =>
    og (ibin .neq v14 (.val (.int .i64 0))) fun v16 =>
    apick v16 (
      og (bld [(.val (.int .i64 0)), (.val (.slice none 0 0))] [(0, 1), (1, 1)] [(0, v14)]) fun v18 =>
      sto 2 v4 v18 σ fun σ =>
      og (lodA 2 v4 σ) fun r4 =>
      aret r4 σ R) (
      acall TP fn_impl_fused [a0, a1] σ (onr (fun v21 σ =>
      og (bld [(.val (.int .i64 0)), (.val (.slice none 0 0))] [(0, 1), (1, 1)] [(1, v21)]) fun v22 =>
      sto 2 v4 v22 σ fun σ =>
      og (lodA 2 v4 σ) fun r4 =>
      aret r4 σ R) (fun v σ => apan v σ R)))) (fun v σ => apan v σ R)))) (fun v σ => apan v σ R))
def x15 : Sx := .new [(.val (.int .i64 0)), (.val (.slice none 0 0))] (.call 21 [(.var 2)] (.og (.ibin .neq (.var 0) (.lit (.val (.int .i64 0)))) (.apick (.var 0) (.og (.bld [(.val (.int .i64 0)), (.val (.slice none 0 0))] [(0, 1), (1, 1)] [(0, (.var 1))]) (.sto 2 (.var 3) (.var 0) (.og (.lodA 2 (.var 3)) (.ret (.var 0))))) (.call 30 [(.var 3)] (.og (.ibin .neq (.var 0) (.lit (.val (.int .i64 0)))) (.apick (.var 0) (.og (.bld [(.val (.int .i64 0)), (.val (.slice none 0 0))] [(0, 1), (1, 1)] [(0, (.var 1))]) (.sto 2 (.var 5) (.var 0) (.og (.lodA 2 (.var 5)) (.ret (.var 0))))) (.call 31 [(.var 6), (.var 5)] (.og (.bld [(.val (.int .i64 0)), (.val (.slice none 0 0))] [(0, 1), (1, 1)] [(1, (.var 0))]) (.sto 2 (.var 6) (.var 0) (.og (.lodA 2 (.var 6)) (.ret (.var 0))))))))))))
set_option maxRecDepth 1000000 in
theorem x15_ok : okF TT Tryz.f15 2 x15 = true := by decide +kernel
set_option maxRecDepth 1000000 in
theorem s_impl_FuseCode_ok {a0 a1 : AV} {σ : AH} {R : AEnd → AH → Prop} (h : s_impl_FuseCode a0 a1 σ R) : acall TP fn_impl_FuseCode [a0, a1] σ R :=
  acall_okF (ρ := [a1, a0]) TT_ok Tryz.func15 rfl x15 x15_ok rfl h

/-- loop.example/g00349/laws.szBlock -/
def s_laws_szBlock (a0 a1 : AV) (σ : AH) (R : AEnd → AH → Prop) : Prop :=
  abox a0 σ fun v2 σ =>
  frz v2 σ fun f2 σ =>
  og (fldA 1 f2) fun v5 =>
  og (lod v5 σ) fun v6 =>
  acall TP fn_laws_szOpS [v6, a1] σ (onr (fun v8 σ =>
  og (ibin .lss v8 (.val (.int .i64 0))) fun v10 =>
  apick v10 (
    aret (.val (.int .i64 (-1))) σ R) (
    aret v8 σ R)) (fun v σ => apan v σ R))
def x16 : Sx := .box (.var 1) (.frz 2 (.var 0) (.og (.fldA 1 (.var 0)) (.og (.lod (.var 0)) (.call 32 [(.var 0), (.var 4)] (.og (.ibin .lss (.var 0) (.lit (.val (.int .i64 0)))) (.apick (.var 0) (.ret (.lit (.val (.int .i64 (-1))))) (.ret (.var 1))))))))
set_option maxRecDepth 1000000 in
theorem x16_ok : okF TT Tryz.f16 2 x16 = true := by decide +kernel
set_option maxRecDepth 1000000 in
theorem s_laws_szBlock_ok {a0 a1 : AV} {σ : AH} {R : AEnd → AH → Prop} (h : s_laws_szBlock a0 a1 σ R) : acall TP fn_laws_szBlock [a0, a1] σ R :=
  acall_okF (ρ := [a1, a0]) TT_ok Tryz.func16 rfl x16 x16_ok rfl h

/-- loop.example/g00349/spec.l10Fault -/
def s_spec_l10Fault (a0 : AV) (σ : AH) (R : AEnd → AH → Prop) : Prop :=
  acall TP fn_spec_l9Fault [a0] σ (onr (fun v10 σ =>
  og (ibin .neq v10 (.val (.int .i64 0))) fun v12 =>
  apick v12 (
    aret (.tup [(.val (.slice none 0 0)), v10]) σ R) (
    og (lenS a0) fun v15 =>
    og (ibin .eql v15 (.val (.int .i64 0))) fun v16 =>
    og (gval v16 false false (some a0)) fun v18 =>
    og (gval v16 false false (idx 2 v18 (.val (.int .i64 0)) σ)) fun v19 =>
    og (gval v16 false false (fldA 0 v19)) fun v20 =>
    og (gval v16 false false (lod v20 σ)) fun v21 =>
    og (gval v16 false false (ibin .neq v21 (.val (.int .i64 0)))) fun v22 =>
    og (pickV v16 (.val (.bool true)) v22) fun v23 =>
    apick v23 (
      aret (.tup [(.val (.slice none 0 0)), (.val (.int .i64 1))]) σ R) (
      acall TP fn_spec_l10Around [a0] σ (onr (fun v26 σ =>
      og (aext v26 0) fun v27 =>
      og (aext v26 1) fun v28 =>
      og (ibin .neq v28 (.val (.int .i64 0))) fun v30 =>
      apick v30 (
        aret (.tup [(.val (.slice none 0 0)), v28]) σ R) (
        lp (X := Tup [0, 5, 7]) (fun R1 y1 σ =>
          og (lenS y1.1) fun v34 =>
          og (ibin .lss y1.2.2.1 v34) fun v35 =>
          apick v35 (
            acall TP fn_spec_l10Locals [y1.1, y1.2.1, y1.2.2.1] σ (onr (fun v41 σ =>
            og (ibin .neq v41 (.val (.int .i64 0))) fun v43 =>
            apick v43 (
              aret (.tup [(.val (.slice none 0 0)), v41]) σ R) (
              og (ibin .add y1.2.2.1 (.val (.int .i64 1))) fun v37 =>
              R1 (y1.1, y1.2.1, v37, ()) σ)) (fun v σ => apan v σ R))) (
            aret (.tup [y1.2.1, (.val (.int .i64 0))]) σ R)) (a0, v27, (.val (.int .i64 0)), ()) σ)) (fun v σ => apan v σ R))))) (fun v σ => apan v σ R))
def x17 : Sx := .call 33 [(.var 0)] (.og (.ibin .neq (.var 0) (.lit (.val (.int .i64 0)))) (.apick (.var 0) (.rets [(.lit (.val (.slice none 0 0))), (.var 1)]) (.og (.lenS (.var 2)) (.og (.ibin .eql (.var 0) (.lit (.val (.int .i64 0)))) (.gog (.var 0) false false (.ret (.var 4)) (.gog (.var 1) false false (.idx 2 (.var 0) (.lit (.val (.int .i64 0)))) (.gog (.var 2) false false (.fldA 0 (.var 0)) (.gog (.var 3) false false (.lod (.var 0)) (.gog (.var 4) false false (.ibin .neq (.var 0) (.lit (.val (.int .i64 0)))) (.og (.pickV (.var 5) (.lit (.val (.bool true))) (.var 0)) (.apick (.var 0) (.rets [(.lit (.val (.slice none 0 0))), (.lit (.val (.int .i64 1)))]) (.call 34 [(.var 10)] (.og (.aext (.var 0) 0) (.og (.aext (.var 1) 1) (.og (.ibin .neq (.var 0) (.lit (.val (.int .i64 0)))) (.apick (.var 0) (.rets [(.lit (.val (.slice none 0 0))), (.var 1)]) (.lp [0, 5, 7] (.og (.lenS (.var 0)) (.og (.ibin .lss (.var 3) (.var 0)) (.apick (.var 0) (.call 35 [(.var 2), (.var 3), (.var 4)] (.og (.ibin .neq (.var 0) (.lit (.val (.int .i64 0)))) (.apick (.var 0) (.rets [(.lit (.val (.slice none 0 0))), (.var 1)]) (.og (.ibin .add (.var 6) (.lit (.val (.int .i64 1)))) (.jump 0 [(.var 5), (.var 6), (.var 0)]))))) (.rets [(.var 3), (.lit (.val (.int .i64 0)))])))) [(.var 14), (.var 2), (.lit (.val (.int .i64 0)))])))))))))))))))))
set_option maxRecDepth 1000000 in
theorem x17_ok : okF TT Tryz.f17 1 x17 = true := by decide +kernel
set_option maxRecDepth 1000000 in
theorem s_spec_l10Fault_ok {a0 : AV} {σ : AH} {R : AEnd → AH → Prop} (h : s_spec_l10Fault a0 σ R) : acall TP fn_spec_l10Fault [a0] σ R :=
  acall_okF (ρ := [a0]) TT_ok Tryz.func17 rfl x17 x17_ok rfl h

/-- loop.example/g00349/spec.l9Copy -/
def s_spec_l9Copy (a0 : AV) (σ : AH) (R : AEnd → AH → Prop) : Prop :=
  bsl 2 [(.val (.int .i64 0)), (.val (.slice none 0 0))] 0 [] σ fun v8 σ =>
  lp (X := Tup [0, 3, 4]) (fun R1 y1 σ =>
    og (lenS y1.1) fun v11 =>
    og (ibin .lss y1.2.2.1 v11) fun v12 =>
    apick v12 (
      og (idx 2 y1.1 y1.2.2.1 σ) fun v17 =>
      og (fldA 0 v17) fun v18 =>
      og (lod v18 σ) fun v19 =>
      og (bld [(.val (.int .i64 0)), (.val (.slice none 0 0))] [(0, 1), (1, 1)] [(0, v19)]) fun v20 =>
      new [(.val (.int .i64 0)), (.val (.slice none 0 0))] σ fun v5 σ =>
      sto 2 v5 v20 σ fun σ =>
      lp (X := Tup [0, 3, 4, 5, 6]) (fun R2 y2 σ =>
        og (idx 2 y2.1 y2.2.2.1 σ) fun v24 =>
        og (fldA 1 v24) fun v25 =>
        og (lod v25 σ) fun v26 =>
        og (lenS v26) fun v27 =>
        og (ibin .lss y2.2.2.2.2.1 v27) fun v28 =>
        apick v28 (
          og (idx 2 y2.1 y2.2.2.1 σ) fun v33 =>
          og (fldA 1 v33) fun v34 =>
          og (lod v34 σ) fun v35 =>
          og (idx 7 v35 y2.2.2.2.2.1 σ) fun v37 =>
          og (lodA 7 v37 σ) fun v38 =>
          new [(.val (.int .i64 0)), (.val (.int .i64 0)), (.val (.int .i64 0)), (.val (.int .i64 0)), (.val (.int .i64 0)), (.val (.string ⟨#[]⟩)), (.val (.slice none 0 0))] σ fun v7 σ =>
          sto 7 v7 v38 σ fun σ =>
          bsl 4 [(.val (.int .i64 0)), (.val (.int .i64 0)), (.val (.int .i64 0)), (.val (.string ⟨#[]⟩))] 0 [] σ fun v39 σ =>
          og (fldA 6 v7) fun v40 =>
          og (lod v40 σ) fun v41 =>
          app 4 v39 v41 σ fun v42 σ =>
          og (fldA 6 v7) fun v43 =>
          sto 1 v43 v42 σ fun σ =>
          frz v7 σ fun f7 σ =>
          og (fldA 1 y2.2.2.2.1) fun v44 =>
          og (lod v44 σ) fun v45 =>
          og (lodA 7 f7 σ) fun v46 =>
          bsl 7 [(.val (.int .i64 0)), (.val (.int .i64 0)), (.val (.int .i64 0)), (.val (.int .i64 0)), (.val (.int .i64 0)), (.val (.string ⟨#[]⟩)), (.val (.slice none 0 0))] 1 [(0, v46)] σ fun v47 σ =>
          app 7 v45 v47 σ fun v48 σ =>
          og (fldA 1 y2.2.2.2.1) fun v49 =>
          sto 1 v49 v48 σ fun σ =>
          og (ibin .add y2.2.2.2.2.1 (.val (.int .i64 1))) fun v30 =>
          R2 (y2.1, y2.2.1, y2.2.2.1, y2.2.2.2.1, v30, ()) σ) (
          og (lodA 2 y2.2.2.2.1 σ) fun v51 =>
          bsl 2 [(.val (.int .i64 0)), (.val (.slice none 0 0))] 1 [(0, v51)] σ fun v52 σ =>
          app 2 y2.2.1 v52 σ fun v53 σ =>
          og (ibin .add y2.2.2.1 (.val (.int .i64 1))) fun v14 =>
          R1 (y2.1, v53, v14, ()) σ)) (y1.1, y1.2.1, y1.2.2.1, v5, (.val (.int .i64 0)), ()) σ) (
      aret y1.2.1 σ R)) (a0, v8, (.val (.int .i64 0)), ()) σ
def x18 : Sx := .bsl 2 [(.val (.int .i64 0)), (.val (.slice none 0 0))] 0 [] (.lp [0, 3, 4] (.og (.lenS (.var 0)) (.og (.ibin .lss (.var 3) (.var 0)) (.apick (.var 0) (.og (.idx 2 (.var 2) (.var 4)) (.og (.fldA 0 (.var 0)) (.og (.lod (.var 0)) (.og (.bld [(.val (.int .i64 0)), (.val (.slice none 0 0))] [(0, 1), (1, 1)] [(0, (.var 0))]) (.new [(.val (.int .i64 0)), (.val (.slice none 0 0))] (.sto 2 (.var 0) (.var 1) (.lp [0, 3, 4, 5, 6] (.og (.idx 2 (.var 0) (.var 2)) (.og (.fldA 1 (.var 0)) (.og (.lod (.var 0)) (.og (.lenS (.var 0)) (.og (.ibin .lss (.var 8) (.var 0)) (.apick (.var 0) (.og (.idx 2 (.var 5) (.var 7)) (.og (.fldA 1 (.var 0)) (.og (.lod (.var 0)) (.og (.idx 7 (.var 0) (.var 12)) (.og (.lodA 7 (.var 0)) (.new [(.val (.int .i64 0)), (.val (.int .i64 0)), (.val (.int .i64 0)), (.val (.int .i64 0)), (.val (.int .i64 0)), (.val (.string ⟨#[]⟩)), (.val (.slice none 0 0))] (.sto 7 (.var 0) (.var 1) (.bsl 4 [(.val (.int .i64 0)), (.val (.int .i64 0)), (.val (.int .i64 0)), (.val (.string ⟨#[]⟩))] 0 [] (.og (.fldA 6 (.var 1)) (.og (.lod (.var 0)) (.app 4 (.var 2) (.var 0) (.og (.fldA 6 (.var 4)) (.sto 1 (.var 0) (.var 1) (.frz 15 (.var 5) (.og (.fldA 1 (.var 20)) (.og (.lod (.var 0)) (.og (.lodA 7 (.var 2)) (.bsl 7 [(.val (.int .i64 0)), (.val (.int .i64 0)), (.val (.int .i64 0)), (.val (.int .i64 0)), (.val (.int .i64 0)), (.val (.string ⟨#[]⟩)), (.val (.slice none 0 0))] 1 [(0, (.var 0))] (.app 7 (.var 2) (.var 0) (.og (.fldA 1 (.var 25)) (.sto 1 (.var 0) (.var 1) (.og (.ibin .add (.var 27) (.lit (.val (.int .i64 1)))) (.jump 0 [(.var 24), (.var 25), (.var 26), (.var 27), (.var 0)]))))))))))))))))))))))) (.og (.lodA 2 (.var 8)) (.bsl 2 [(.val (.int .i64 0)), (.val (.slice none 0 0))] 1 [(0, (.var 0))] (.app 2 (.var 8) (.var 0) (.og (.ibin .add (.var 10) (.lit (.val (.int .i64 1)))) (.jump 1 [(.var 9), (.var 1), (.var 0)]))))))))))) [(.var 7), (.var 8), (.var 9), (.var 0), (.lit (.val (.int .i64 0)))]))))))) (.ret (.var 3))))) [(.var 1), (.var 0), (.lit (.val (.int .i64 0)))])
set_option maxRecDepth 1000000 in
theorem x18_ok : okF TT Tryz.f18 1 x18 = true := by decide +kernel
set_option maxRecDepth 1000000 in
theorem s_spec_l9Copy_ok {a0 : AV} {σ : AH} {R : AEnd → AH → Prop} (h : s_spec_l9Copy a0 σ R) : acall TP fn_spec_l9Copy [a0] σ R :=
  acall_okF (ρ := [a0]) TT_ok Tryz.func18 rfl x18 x18_ok rfl h

/-- loop.example/g00349/laws.toBlock -/
def s_laws_toBlock (a0 : AV) (σ : AH) (R : AEnd → AH → Prop) : Prop :=
  abox a0 σ fun v1 σ =>
  new [(.val (.int .i64 0)), (.val (.slice none 0 0))] σ fun v2 σ =>
  frz v1 σ fun f1 σ =>
  new [(.val (.int .i64 0)), (.val (.slice none 0 0))] σ fun v3 σ =>
  og (fldA 0 f1) fun v4 =>
  og (lod v4 σ) fun v5 =>
  og (fldA 0 v3) fun v6 =>
  sto 1 v6 v5 σ fun σ =>
  og (fldA 1 f1) fun v7 =>
  og (lod v7 σ) fun v8 =>
  acall TP fn_laws_toOpS [v8] σ (onr (fun v9 σ =>
  og (fldA 1 v3) fun v10 =>
  sto 1 v10 v9 σ fun σ =>
  frz v3 σ fun f3 σ =>
  og (lodA 2 f3 σ) fun v11 =>
  sto 2 v2 v11 σ fun σ =>
  og (lodA 2 v2 σ) fun r2 =>
  aret r2 σ R) (fun v σ => apan v σ R))
def x20 : Sx := .box (.var 0) (.new [(.val (.int .i64 0)), (.val (.slice none 0 0))] (.frz 1 (.var 1) (.new [(.val (.int .i64 0)), (.val (.slice none 0 0))] (.og (.fldA 0 (.var 1)) (.og (.lod (.var 0)) (.og (.fldA 0 (.var 2)) (.sto 1 (.var 0) (.var 1) (.og (.fldA 1 (.var 4)) (.og (.lod (.var 0)) (.call 38 [(.var 0)] (.og (.fldA 1 (.var 6)) (.sto 1 (.var 0) (.var 1) (.frz 4 (.var 7) (.og (.lodA 2 (.var 0)) (.sto 2 (.var 11) (.var 0) (.og (.lodA 2 (.var 11)) (.ret (.var 0))))))))))))))))))
set_option maxRecDepth 1000000 in
theorem x20_ok : okF TT Tryz.f20 1 x20 = true := by decide +kernel
set_option maxRecDepth 1000000 in
theorem s_laws_toBlock_ok {a0 : AV} {σ : AH} {R : AEnd → AH → Prop} (h : s_laws_toBlock a0 σ R) : acall TP fn_laws_toBlock [a0] σ R :=
  acall_okF (ρ := [a0]) TT_ok Tryz.func20 rfl x20 x20_ok rfl h

/-- loop.example/g00349/impl.CodeFault -/
def s_impl_CodeFault (a0 : AV) (σ : AH) (R : AEnd → AH → Prop) : Prop :=
  acall TP fn_impl_opsFault [a0] σ (onr (fun v17 σ =>
  og (ibin .neq v17 (.val (.int .i64 0))) fun v19 =>
  apick v19 (
    aret v17 σ R) (
    og (lenS a0) fun v22 =>
    og (ibin .eql v22 (.val (.int .i64 0))) fun v23 =>
    og (gval v23 false false (some a0)) fun v25 =>
    og (gval v23 false false (idx 2 v25 (.val (.int .i64 0)) σ)) fun v26 =>
    og (gval v23 false false (fldA 0 v26)) fun v27 =>
    og (gval v23 false false (lod v27 σ)) fun v28 =>
    og (gval v23 false false (ibin .neq v28 (.val (.int .i64 0)))) fun v29 =>
    og (pickV v23 (.val (.bool true)) v29) fun v30 =>
    apick v30 (
      aret (.val (.int .i64 1)) σ R) (
      og (lenS a0) fun v32 =>
      lp (X := Tup [0, 31, 32, 33]) (fun R1 y1 σ =>
        og (ibin .lss y1.2.2.2.1 y1.2.2.1) fun v34 =>
        apick v34 (
          og (idx 2 y1.2.1 y1.2.2.2.1 σ) fun v35 =>
          og (lodA 2 v35 σ) fun v36 =>
          new [(.val (.int .i64 0)), (.val (.slice none 0 0))] σ fun v5 σ =>
          sto 2 v5 v36 σ fun σ =>
          frz v5 σ fun f5 σ =>
          og (lodA 2 f5 σ) fun v38 =>
          acall TP fn_impl_heightsOf [v38] σ (onr (fun v39 σ =>
          og (aext v39 0) fun v40 =>
          og (aext v39 1) fun v41 =>
          og (aun .not v41) fun v43 =>
          apick v43 (
            aret (.val (.int .i64 1)) σ R) (
            og (ibin .add y1.2.2.2.1 (.val (.int .i64 1))) fun v44 =>
            R1 (y1.1, y1.2.1, y1.2.2.1, v44, ()) σ)) (fun v σ => apan v σ R))) (
          acall TP fn_impl_around [y1.1] σ (onr (fun v47 σ =>
          og (aext v47 0) fun v48 =>
          og (aext v47 1) fun v49 =>
          og (aun .not v49) fun v51 =>
          apick v51 (
            aret (.val (.int .i64 1)) σ R) (
            og (lenS y1.1) fun v53 =>
            lp (X := Tup [0, 8, 52, 53, 54]) (fun R2 y2 σ =>
              og (ibin .lss y2.2.2.2.2.1 y2.2.2.2.1) fun v55 =>
              apick v55 (
                og (idx 2 y2.2.2.1 y2.2.2.2.2.1 σ) fun v57 =>
                og (lodA 2 v57 σ) fun v58 =>
                new [(.val (.int .i64 0)), (.val (.slice none 0 0))] σ fun v11 σ =>
                sto 2 v11 v58 σ fun σ =>
                frz v11 σ fun f11 σ =>
                og (fldA 1 f11) fun v59 =>
                og (lod v59 σ) fun v60 =>
                og (lenS v60) fun v61 =>
                lp (X := Tup [0, 8, 10, 52, 53, 54, 60, 61, 62]) (fun R3 y3 σ =>
                  og (ibin .lss y3.2.2.2.2.2.2.2.2.1 y3.2.2.2.2.2.2.2.1) fun v63 =>
                  apick v63 (
                    og (idx 7 y3.2.2.2.2.2.2.1 y3.2.2.2.2.2.2.2.2.1 σ) fun v64 =>
                    og (lodA 7 v64 σ) fun v65 =>
                    new [(.val (.int .i64 0)), (.val (.int .i64 0)), (.val (.int .i64 0)), (.val (.int .i64 0)), (.val (.int .i64 0)), (.val (.string ⟨#[]⟩)), (.val (.slice none 0 0))] σ fun v13 σ =>
                    sto 7 v13 v65 σ fun σ =>
                    frz v13 σ fun f13 σ =>
                    og (lodA 7 f13 σ) fun v66 =>
                    acall TP fn_impl_Op_localsIn [v66] σ (onr (fun v67 σ =>
                    og (lenS v67) fun v68 =>
                    lp (X := Tup [0, 8, 10, 13, 52, 53, 54, 60, 61, 62, 67, 68, 69]) (fun R4 y4 σ =>
                      og (ibin .lss y4.2.2.2.2.2.2.2.2.2.2.2.2.1 y4.2.2.2.2.2.2.2.2.2.2.2.1) fun v70 =>
                      apick v70 (
                        og (idx 2 y4.2.2.2.2.2.2.2.2.2.2.1 y4.2.2.2.2.2.2.2.2.2.2.2.2.1 σ) fun v71 =>
                        og (lodA 2 v71 σ) fun v72 =>
                        new [(.val (.int .i64 0)), (.val (.int .i64 0))] σ fun v15 σ =>
                        sto 2 v15 v72 σ fun σ =>
                        frz v15 σ fun f15 σ =>
                        og (idxArr 2 1 f15 (.val (.int .i64 0))) fun v76 =>
                        og (lod v76 σ) fun v77 =>
                        og (idxArr 2 1 f15 (.val (.int .i64 1))) fun v78 =>
                        og (lod v78 σ) fun v79 =>
                        acall TP fn_impl_isLocal [y4.1, y4.2.1, y4.2.2.1, v77, v79] σ (onr (fun v80 σ =>
                        og (aun .not v80) fun v81 =>
                        apick v81 (
                          aret (.val (.int .i64 3)) σ R) (
                          og (ibin .add y4.2.2.2.2.2.2.2.2.2.2.2.2.1 (.val (.int .i64 1))) fun v82 =>
                          R4 (y4.1, y4.2.1, y4.2.2.1, y4.2.2.2.1, y4.2.2.2.2.1, y4.2.2.2.2.2.1, y4.2.2.2.2.2.2.1, y4.2.2.2.2.2.2.2.1, y4.2.2.2.2.2.2.2.2.1, y4.2.2.2.2.2.2.2.2.2.1, y4.2.2.2.2.2.2.2.2.2.2.1, y4.2.2.2.2.2.2.2.2.2.2.2.1, v82, ()) σ)) (fun v σ => apan v σ R))) (
                        og (fldA 0 y4.2.2.2.1) fun v83 =>
                        og (lod v83 σ) fun v84 =>
                        og (ibin .eql v84 (.val (.int .i64 9))) fun v85 =>
                        og (gval v85 true false (some y4.2.2.1)) fun v87 =>
                        og (gval v85 true false (ibin .gtr v87 (.val (.int .i64 0)))) fun v88 =>
                        og (pickV v85 v88 (.val (.bool false))) fun v89 =>
                        apick v89 (
                          aret (.val (.int .i64 1)) σ R) (
                          og (ibin .add y4.2.2.2.2.2.2.2.2.2.1 (.val (.int .i64 1))) fun v90 =>
                          R3 (y4.1, y4.2.1, y4.2.2.1, y4.2.2.2.2.1, y4.2.2.2.2.2.1, y4.2.2.2.2.2.2.1, y4.2.2.2.2.2.2.2.1, y4.2.2.2.2.2.2.2.2.1, v90, ()) σ))) (y3.1, y3.2.1, y3.2.2.1, f13, y3.2.2.2.1, y3.2.2.2.2.1, y3.2.2.2.2.2.1, y3.2.2.2.2.2.2.1, y3.2.2.2.2.2.2.2.1, y3.2.2.2.2.2.2.2.2.1, v67, v68, (.val (.int .i64 0)), ()) σ) (fun v σ => apan v σ R))) (
                    og (ibin .add y3.2.2.2.2.2.1 (.val (.int .i64 1))) fun v91 =>
                    R2 (y3.1, y3.2.1, y3.2.2.2.1, y3.2.2.2.2.1, v91, ()) σ)) (y2.1, y2.2.1, y2.2.2.2.2.1, y2.2.2.1, y2.2.2.2.1, y2.2.2.2.2.1, v60, v61, (.val (.int .i64 0)), ()) σ) (
                aret (.val (.int .i64 0)) σ R)) (y1.1, v48, y1.1, v53, (.val (.int .i64 0)), ()) σ)) (fun v σ => apan v σ R)))) (a0, a0, v32, (.val (.int .i64 0)), ()) σ))) (fun v σ => apan v σ R))
def x21 : Sx := .call 39 [(.var 0)] (.og (.ibin .neq (.var 0) (.lit (.val (.int .i64 0)))) (.apick (.var 0) (.ret (.var 1)) (.og (.lenS (.var 2)) (.og (.ibin .eql (.var 0) (.lit (.val (.int .i64 0)))) (.gog (.var 0) false false (.ret (.var 4)) (.gog (.var 1) false false (.idx 2 (.var 0) (.lit (.val (.int .i64 0)))) (.gog (.var 2) false false (.fldA 0 (.var 0)) (.gog (.var 3) false false (.lod (.var 0)) (.gog (.var 4) false false (.ibin .neq (.var 0) (.lit (.val (.int .i64 0)))) (.og (.pickV (.var 5) (.lit (.val (.bool true))) (.var 0)) (.apick (.var 0) (.ret (.lit (.val (.int .i64 1)))) (.og (.lenS (.var 10)) (.lp [0, 31, 32, 33] (.og (.ibin .lss (.var 3) (.var 2)) (.apick (.var 0) (.og (.idx 2 (.var 2) (.var 4)) (.og (.lodA 2 (.var 0)) (.new [(.val (.int .i64 0)), (.val (.slice none 0 0))] (.sto 2 (.var 0) (.var 1) (.frz 7 (.var 0) (.og (.lodA 2 (.var 0)) (.call 40 [(.var 0)] (.og (.aext (.var 0) 0) (.og (.aext (.var 1) 1) (.og (.aun .not (.var 0)) (.apick (.var 0) (.ret (.lit (.val (.int .i64 1)))) (.og (.ibin .add (.var 13) (.lit (.val (.int .i64 1)))) (.jump 0 [(.var 11), (.var 12), (.var 13), (.var 0)]))))))))))))) (.call 41 [(.var 1)] (.og (.aext (.var 0) 0) (.og (.aext (.var 1) 1) (.og (.aun .not (.var 0)) (.apick (.var 0) (.ret (.lit (.val (.int .i64 1)))) (.og (.lenS (.var 5)) (.lp [0, 8, 52, 53, 54] (.og (.ibin .lss (.var 4) (.var 3)) (.apick (.var 0) (.og (.idx 2 (.var 3) (.var 5)) (.og (.lodA 2 (.var 0)) (.new [(.val (.int .i64 0)), (.val (.slice none 0 0))] (.sto 2 (.var 0) (.var 1) (.frz 8 (.var 0) (.og (.fldA 1 (.var 0)) (.og (.lod (.var 0)) (.og (.lenS (.var 0)) (.lp [0, 8, 10, 52, 53, 54, 60, 61, 62] (.og (.ibin .lss (.var 8) (.var 7)) (.apick (.var 0) (.og (.idx 7 (.var 7) (.var 9)) (.og (.lodA 7 (.var 0)) (.new [(.val (.int .i64 0)), (.val (.int .i64 0)), (.val (.int .i64 0)), (.val (.int .i64 0)), (.val (.int .i64 0)), (.val (.string ⟨#[]⟩)), (.val (.slice none 0 0))] (.sto 7 (.var 0) (.var 1) (.frz 12 (.var 0) (.og (.lodA 7 (.var 0)) (.call 42 [(.var 0)] (.og (.lenS (.var 0)) (.lp [0, 8, 10, 13, 52, 53, 54, 60, 61, 62, 67, 68, 69] (.og (.ibin .lss (.var 12) (.var 11)) (.apick (.var 0) (.og (.idx 2 (.var 11) (.var 13)) (.og (.lodA 2 (.var 0)) (.new [(.val (.int .i64 0)), (.val (.int .i64 0))] (.sto 2 (.var 0) (.var 1) (.frz 16 (.var 0) (.og (.idxArr 2 1 (.var 0) (.lit (.val (.int .i64 0)))) (.og (.lod (.var 0)) (.og (.idxArr 2 1 (.var 2) (.lit (.val (.int .i64 1)))) (.og (.lod (.var 0)) (.call 43 [(.var 9), (.var 10), (.var 11), (.var 2), (.var 0)] (.og (.aun .not (.var 0)) (.apick (.var 0) (.ret (.lit (.val (.int .i64 3)))) (.og (.ibin .add (.var 23) (.lit (.val (.int .i64 1)))) (.jump 0 [(.var 12), (.var 13), (.var 14), (.var 15), (.var 16), (.var 17), (.var 18), (.var 19), (.var 20), (.var 21), (.var 22), (.var 23), (.var 0)])))))))))))))) (.og (.fldA 0 (.var 4)) (.og (.lod (.var 0)) (.og (.ibin .eql (.var 0) (.lit (.val (.int .i64 9)))) (.gog (.var 0) true false (.ret (.var 6)) (.gog (.var 1) true false (.ibin .gtr (.var 0) (.lit (.val (.int .i64 0)))) (.og (.pickV (.var 2) (.var 0) (.lit (.val (.bool false)))) (.apick (.var 0) (.ret (.lit (.val (.int .i64 1)))) (.og (.ibin .add (.var 16) (.lit (.val (.int .i64 1)))) (.jump 1 [(.var 8), (.var 9), (.var 10), (.var 12), (.var 13), (.var 14), (.var 15), (.var 16), (.var 0)]))))))))))) [(.var 8), (.var 9), (.var 10), (.var 3), (.var 11), (.var 12), (.var 13), (.var 14), (.var 15), (.var 16), (.var 1), (.var 0), (.lit (.val (.int .i64 0)))]))))))))) (.og (.ibin .add (.var 6) (.lit (.val (.int .i64 1)))) (.jump 1 [(.var 2), (.var 3), (.var 5), (.var 6), (.var 0)])))) [(.var 8), (.var 9), (.var 12), (.var 10), (.var 11), (.var 12), (.var 1), (.var 0), (.lit (.val (.int .i64 0)))]))))))))) (.ret (.lit (.val (.int .i64 0)))))) [(.var 6), (.var 3), (.var 6), (.var 0), (.lit (.val (.int .i64 0)))]))))))))) [(.var 11), (.var 11), (.var 0), (.lit (.val (.int .i64 0)))])))))))))))))
set_option maxRecDepth 1000000 in
theorem x21_ok : okF TT Tryz.f21 1 x21 = true := by decide +kernel
set_option maxRecDepth 1000000 in
theorem s_impl_CodeFault_ok {a0 : AV} {σ : AH} {R : AEnd → AH → Prop} (h : s_impl_CodeFault a0 σ R) : acall TP fn_impl_CodeFault [a0] σ R :=
  acall_okF (ρ := [a0]) TT_ok Tryz.func21 rfl x21 x21_ok rfl h

/-- loop.example/g00349/impl.copiedCode -/
def s_impl_copiedCode (a0 : AV) (σ : AH) (R : AEnd → AH → Prop) : Prop :=
  bsl 2 [(.val (.int .i64 0)), (.val (.slice none 0 0))] 0 [] σ fun v9 σ =>
  og (lenS a0) fun v11 =>
  lp (X := Tup [3, 10, 11, 12]) (fun R1 y1 σ =>
    og (ibin .lss y1.2.2.2.1 y1.2.2.1) fun v13 =>
    apick v13 (
      og (idx 2 y1.2.1 y1.2.2.2.1 σ) fun v14 =>
      og (lodA 2 v14 σ) fun v15 =>
      new [(.val (.int .i64 0)), (.val (.slice none 0 0))] σ fun v5 σ =>
      sto 2 v5 v15 σ fun σ =>
      frz v5 σ fun f5 σ =>
      bsl 7 [(.val (.int .i64 0)), (.val (.int .i64 0)), (.val (.int .i64 0)), (.val (.int .i64 0)), (.val (.int .i64 0)), (.val (.string ⟨#[]⟩)), (.val (.slice none 0 0))] 0 [] σ fun v16 σ =>
      og (fldA 1 f5) fun v17 =>
      og (lod v17 σ) fun v18 =>
      og (lenS v18) fun v19 =>
      lp (X := Tup [3, 5, 6, 10, 11, 12, 18, 19, 20]) (fun R2 y2 σ =>
        og (ibin .lss y2.2.2.2.2.2.2.2.2.1 y2.2.2.2.2.2.2.2.1) fun v21 =>
        apick v21 (
          og (idx 7 y2.2.2.2.2.2.2.1 y2.2.2.2.2.2.2.2.2.1 σ) fun v22 =>
          og (lodA 7 v22 σ) fun v23 =>
          new [(.val (.int .i64 0)), (.val (.int .i64 0)), (.val (.int .i64 0)), (.val (.int .i64 0)), (.val (.int .i64 0)), (.val (.string ⟨#[]⟩)), (.val (.slice none 0 0))] σ fun v8 σ =>
          sto 7 v8 v23 σ fun σ =>
          og (fldA 6 v8) fun v24 =>
          og (lod v24 σ) fun v25 =>
          acall TP fn_slices_Clone [v25] σ (onr (fun v26 σ =>
          og (fldA 6 v8) fun v27 =>
          sto 1 v27 v26 σ fun σ =>
          frz v8 σ fun f8 σ =>
          og (lodA 7 f8 σ) fun v29 =>
          bsl 7 [(.val (.int .i64 0)), (.val (.int .i64 0)), (.val (.int .i64 0)), (.val (.int .i64 0)), (.val (.int .i64 0)), (.val (.string ⟨#[]⟩)), (.val (.slice none 0 0))] 1 [(0, v29)] σ fun v30 σ =>
          app 7 y2.2.2.1 v30 σ fun v31 σ =>
          og (ibin .add y2.2.2.2.2.2.2.2.2.1 (.val (.int .i64 1))) fun v32 =>
          R2 (y2.1, y2.2.1, v31, y2.2.2.2.1, y2.2.2.2.2.1, y2.2.2.2.2.2.1, y2.2.2.2.2.2.2.1, y2.2.2.2.2.2.2.2.1, v32, ()) σ) (fun v σ => apan v σ R))) (
          og (fldA 0 y2.2.1) fun v34 =>
          og (lod v34 σ) fun v35 =>
          og (bld [(.val (.int .i64 0)), (.val (.slice none 0 0))] [(0, 1), (1, 1)] [(0, v35), (1, y2.2.2.1)]) fun v37 =>
          bsl 2 [(.val (.int .i64 0)), (.val (.slice none 0 0))] 1 [(0, v37)] σ fun v38 σ =>
          app 2 y2.1 v38 σ fun v39 σ =>
          og (ibin .add y2.2.2.2.2.2.1 (.val (.int .i64 1))) fun v40 =>
          R1 (v39, y2.2.2.2.1, y2.2.2.2.2.1, v40, ()) σ)) (y1.1, f5, v16, y1.2.1, y1.2.2.1, y1.2.2.2.1, v18, v19, (.val (.int .i64 0)), ()) σ) (
      aret y1.1 σ R)) (v9, a0, v11, (.val (.int .i64 0)), ()) σ
def x22 : Sx := .bsl 2 [(.val (.int .i64 0)), (.val (.slice none 0 0))] 0 [] (.og (.lenS (.var 1)) (.lp [3, 10, 11, 12] (.og (.ibin .lss (.var 3) (.var 2)) (.apick (.var 0) (.og (.idx 2 (.var 2) (.var 4)) (.og (.lodA 2 (.var 0)) (.new [(.val (.int .i64 0)), (.val (.slice none 0 0))] (.sto 2 (.var 0) (.var 1) (.frz 7 (.var 0) (.bsl 7 [(.val (.int .i64 0)), (.val (.int .i64 0)), (.val (.int .i64 0)), (.val (.int .i64 0)), (.val (.int .i64 0)), (.val (.string ⟨#[]⟩)), (.val (.slice none 0 0))] 0 [] (.og (.fldA 1 (.var 1)) (.og (.lod (.var 0)) (.og (.lenS (.var 0)) (.lp [3, 5, 6, 10, 11, 12, 18, 19, 20] (.og (.ibin .lss (.var 8) (.var 7)) (.apick (.var 0) (.og (.idx 7 (.var 7) (.var 9)) (.og (.lodA 7 (.var 0)) (.new [(.val (.int .i64 0)), (.val (.int .i64 0)), (.val (.int .i64 0)), (.val (.int .i64 0)), (.val (.int .i64 0)), (.val (.string ⟨#[]⟩)), (.val (.slice none 0 0))] (.sto 7 (.var 0) (.var 1) (.og (.fldA 6 (.var 0)) (.og (.lod (.var 0)) (.call 44 [(.var 0)] (.og (.fldA 6 (.var 3)) (.sto 1 (.var 0) (.var 1) (.frz 12 (.var 4) (.og (.lodA 7 (.var 0)) (.bsl 7 [(.val (.int .i64 0)), (.val (.int .i64 0)), (.val (.int .i64 0)), (.val (.int .i64 0)), (.val (.int .i64 0)), (.val (.string ⟨#[]⟩)), (.val (.slice none 0 0))] 1 [(0, (.var 0))] (.app 7 (.var 13) (.var 0) (.og (.ibin .add (.var 20) (.lit (.val (.int .i64 1)))) (.jump 0 [(.var 13), (.var 14), (.var 1), (.var 16), (.var 17), (.var 18), (.var 19), (.var 20), (.var 0)]))))))))))))))) (.og (.fldA 0 (.var 2)) (.og (.lod (.var 0)) (.og (.bld [(.val (.int .i64 0)), (.val (.slice none 0 0))] [(0, 1), (1, 1)] [(0, (.var 0)), (1, (.var 5))]) (.bsl 2 [(.val (.int .i64 0)), (.val (.slice none 0 0))] 1 [(0, (.var 0))] (.app 2 (.var 5) (.var 0) (.og (.ibin .add (.var 11) (.lit (.val (.int .i64 1)))) (.jump 1 [(.var 1), (.var 10), (.var 11), (.var 0)]))))))))) [(.var 9), (.var 4), (.var 3), (.var 10), (.var 11), (.var 12), (.var 1), (.var 0), (.lit (.val (.int .i64 0)))])))))))))) (.ret (.var 1)))) [(.var 1), (.var 2), (.var 0), (.lit (.val (.int .i64 0)))]))
set_option maxRecDepth 1000000 in
theorem x22_ok : okF TT Tryz.f22 1 x22 = true := by decide +kernel
set_option maxRecDepth 1000000 in
theorem s_impl_copiedCode_ok {a0 : AV} {σ : AH} {R : AEnd → AH → Prop} (h : s_impl_copiedCode a0 σ R) : acall TP fn_impl_copiedCode [a0] σ R :=
  acall_okF (ρ := [a0]) TT_ok Tryz.func22 rfl x22 x22_ok rfl h

/-- loop.example/g00349/impl.moved -/
def s_impl_moved (a0 a1 : AV) (σ : AH) (R : AEnd → AH → Prop) : Prop :=
  og (lenS a0) fun v7 =>
  lp (X := Tup [0, 1, 7, 8]) (fun R1 y1 σ =>
    og (ibin .lss y1.2.2.2.1 y1.2.2.1) fun v9 =>
    apick v9 (
      jn (X := Tup [0, 1, 7, 8]) (fun x2 σ =>
          og (ibin .add x2.2.2.2.1 (.val (.int .i64 1))) fun v25 =>
          R1 (x2.1, x2.2.1, x2.2.2.1, v25, ()) σ) fun k2 =>
        og (idx 7 y1.1 y1.2.2.2.1 σ) fun v13 =>
        acall TP fn_impl_Op_target [v13] σ (onr (fun v14 σ =>
        abin TT .neq ty_pointer77 v14 (.val (.pointer none)) fun v16 =>
        apick v16 (
          og (anil v14) fun v20 =>
          og (lod v20 σ) fun v21 =>
          og (idx 1 y1.2.1 v21 σ) fun v22 =>
          og (lod v22 σ) fun v23 =>
          og (anil v14) fun v24 =>
          sto 1 v24 v23 σ fun σ =>
          k2 (y1.1, y1.2.1, y1.2.2.1, y1.2.2.2.1, ()) σ) (
          k2 (y1.1, y1.2.1, y1.2.2.1, y1.2.2.2.1, ()) σ)) (fun v σ => apan v σ R))) (
      aret (.tup []) σ R)) (a0, a1, v7, (.val (.int .i64 0)), ()) σ
def x24 : Sx := .og (.lenS (.var 1)) (.lp [0, 1, 7, 8] (.og (.ibin .lss (.var 3) (.var 2)) (.apick (.var 0) (.jn 103 [0, 1, 7, 8] (.og (.ibin .add (.var 3) (.lit (.val (.int .i64 1)))) (.jump 0 [(.var 1), (.var 2), (.var 3), (.var 0)])) (.og (.idx 7 (.var 1) (.var 4)) (.call 45 [(.var 0)] (.cmp .neq 77 (.var 0) (.lit (.val (.pointer none))) (.apick (.var 0) (.og (.anil (.var 1)) (.og (.lod (.var 0)) (.og (.idx 1 (.var 7) (.var 0)) (.og (.lod (.var 0)) (.og (.anil (.var 5)) (.sto 1 (.var 0) (.var 1) (.jump 0 [(.var 9), (.var 10), (.var 11), (.var 12)]))))))) (.jump 0 [(.var 4), (.var 5), (.var 6), (.var 7)])))))) (.rets []))) [(.var 2), (.var 1), (.var 0), (.lit (.val (.int .i64 0)))])
set_option maxRecDepth 1000000 in
theorem x24_ok : okF TT Tryz.f24 2 x24 = true := by decide +kernel
set_option maxRecDepth 1000000 in
theorem s_impl_moved_ok {a0 a1 : AV} {σ : AH} {R : AEnd → AH → Prop} (h : s_impl_moved a0 a1 σ R) : acall TP fn_impl_moved [a0, a1] σ R :=
  acall_okF (ρ := [a1, a0]) TT_ok Tryz.func24 rfl x24 x24_ok rfl h

/-- loop.example/g00349/laws.eqBlock -/
def s_laws_eqBlock (a0 a1 : AV) (σ : AH) (R : AEnd → AH → Prop) : Prop :=
  abox a0 σ fun v2 σ =>
  abox a1 σ fun v3 σ =>
  frz v2 σ fun f2 σ =>
  frz v3 σ fun f3 σ =>
  og (fldA 0 f2) fun v5 =>
  og (lod v5 σ) fun v6 =>
  og (fldA 0 f3) fun v7 =>
  og (lod v7 σ) fun v8 =>
  og (ibin .neq v6 v8) fun v9 =>
  apick v9 (
    aret (.val (.bool false)) σ R) (
    og (fldA 1 f2) fun v10 =>
    og (lod v10 σ) fun v11 =>
    og (fldA 1 f3) fun v12 =>
    og (lod v12 σ) fun v13 =>
    acall TP fn_laws_eqOpS [v11, v13] σ (onr (fun v14 σ =>
    og (aun .not v14) fun v15 =>
    apick v15 (
      aret (.val (.bool false)) σ R) (
      aret (.val (.bool true)) σ R)) (fun v σ => apan v σ R)))
def x25 : Sx := .box (.var 1) (.box (.var 1) (.frz 2 (.var 1) (.frz 3 (.var 1) (.og (.fldA 0 (.var 1)) (.og (.lod (.var 0)) (.og (.fldA 0 (.var 2)) (.og (.lod (.var 0)) (.og (.ibin .neq (.var 2) (.var 0)) (.apick (.var 0) (.ret (.lit (.val (.bool false)))) (.og (.fldA 1 (.var 6)) (.og (.lod (.var 0)) (.og (.fldA 1 (.var 7)) (.og (.lod (.var 0)) (.call 46 [(.var 2), (.var 0)] (.og (.aun .not (.var 0)) (.apick (.var 0) (.ret (.lit (.val (.bool false)))) (.ret (.lit (.val (.bool true))))))))))))))))))))
set_option maxRecDepth 1000000 in
theorem x25_ok : okF TT Tryz.f25 2 x25 = true := by decide +kernel
set_option maxRecDepth 1000000 in
theorem s_laws_eqBlock_ok {a0 a1 : AV} {σ : AH} {R : AEnd → AH → Prop} (h : s_laws_eqBlock a0 a1 σ R) : acall TP fn_laws_eqBlock [a0, a1] σ R :=
  acall_okF (ρ := [a1, a0]) TT_ok Tryz.func25 rfl x25 x25_ok rfl h

/-- loop.example/g00349/laws.markOpS -/
def s_laws_markOpS (a0 a1 : AV) (σ : AH) (R : AEnd → AH → Prop) : Prop :=
  lp (X := Tup [0, 1, 5]) (fun R1 y1 σ =>
    og (lenS y1.1) fun v8 =>
    og (ibin .lss y1.2.2.1 v8) fun v9 =>
    apick v9 (
      og (idx 7 y1.1 y1.2.2.1 σ) fun v15 =>
      og (fldA 0 v15) fun v16 =>
      sto 1 v16 y1.2.1 σ fun σ =>
      og (ibin .add y1.2.1 (.val (.int .i64 1))) fun v18 =>
      og (idx 7 y1.1 y1.2.2.1 σ) fun v22 =>
      og (fldA 1 v22) fun v23 =>
      sto 1 v23 v18 σ fun σ =>
      og (ibin .add v18 (.val (.int .i64 1))) fun v25 =>
      og (idx 7 y1.1 y1.2.2.1 σ) fun v29 =>
      og (fldA 2 v29) fun v30 =>
      sto 1 v30 v25 σ fun σ =>
      og (ibin .add v25 (.val (.int .i64 1))) fun v32 =>
      og (idx 7 y1.1 y1.2.2.1 σ) fun v36 =>
      og (fldA 3 v36) fun v37 =>
      sto 1 v37 v32 σ fun σ =>
      og (ibin .add v32 (.val (.int .i64 1))) fun v39 =>
      og (idx 7 y1.1 y1.2.2.1 σ) fun v43 =>
      og (fldA 4 v43) fun v44 =>
      sto 1 v44 v39 σ fun σ =>
      og (ibin .add v39 (.val (.int .i64 1))) fun v46 =>
      acall TP fn_laws_markText [v46] σ (onr (fun v50 σ =>
      og (idx 7 y1.1 y1.2.2.1 σ) fun v51 =>
      og (fldA 5 v51) fun v52 =>
      sto 1 v52 v50 σ fun σ =>
      og (ibin .add v46 (.val (.int .i64 1))) fun v54 =>
      og (idx 7 y1.1 y1.2.2.1 σ) fun v57 =>
      og (fldA 6 v57) fun v58 =>
      og (lod v58 σ) fun v59 =>
      acall TP fn_laws_markDatumS [v59, v54] σ (onr (fun v61 σ =>
      og (ibin .add y1.2.2.1 (.val (.int .i64 1))) fun v11 =>
      R1 (y1.1, v61, v11, ()) σ) (fun v σ => apan v σ R))) (fun v σ => apan v σ R))) (
      aret y1.2.1 σ R)) (a0, a1, (.val (.int .i64 0)), ()) σ
def x26 : Sx := .lp [0, 1, 5] (.og (.lenS (.var 0)) (.og (.ibin .lss (.var 3) (.var 0)) (.apick (.var 0) (.og (.idx 7 (.var 2) (.var 4)) (.og (.fldA 0 (.var 0)) (.sto 1 (.var 0) (.var 5) (.og (.ibin .add (.var 5) (.lit (.val (.int .i64 1)))) (.og (.idx 7 (.var 5) (.var 7)) (.og (.fldA 1 (.var 0)) (.sto 1 (.var 0) (.var 2) (.og (.ibin .add (.var 2) (.lit (.val (.int .i64 1)))) (.og (.idx 7 (.var 8) (.var 10)) (.og (.fldA 2 (.var 0)) (.sto 1 (.var 0) (.var 2) (.og (.ibin .add (.var 2) (.lit (.val (.int .i64 1)))) (.og (.idx 7 (.var 11) (.var 13)) (.og (.fldA 3 (.var 0)) (.sto 1 (.var 0) (.var 2) (.og (.ibin .add (.var 2) (.lit (.val (.int .i64 1)))) (.og (.idx 7 (.var 14) (.var 16)) (.og (.fldA 4 (.var 0)) (.sto 1 (.var 0) (.var 2) (.og (.ibin .add (.var 2) (.lit (.val (.int .i64 1)))) (.call 47 [(.var 0)] (.og (.idx 7 (.var 18) (.var 20)) (.og (.fldA 5 (.var 0)) (.sto 1 (.var 0) (.var 2) (.og (.ibin .add (.var 3) (.lit (.val (.int .i64 1)))) (.og (.idx 7 (.var 21) (.var 23)) (.og (.fldA 6 (.var 0)) (.og (.lod (.var 0)) (.call 48 [(.var 0), (.var 3)] (.og (.ibin .add (.var 27) (.lit (.val (.int .i64 1)))) (.jump 0 [(.var 26), (.var 1), (.var 0)]))))))))))))))))))))))))))))))) (.ret (.var 3))))) [(.var 1), (.var 0), (.lit (.val (.int .i64 0)))]
set_option maxRecDepth 1000000 in
theorem x26_ok : okF TT Tryz.f26 2 x26 = true := by decide +kernel
set_option maxRecDepth 1000000 in
theorem s_laws_markOpS_ok {a0 a1 : AV} {σ : AH} {R : AEnd → AH → Prop} (h : s_laws_markOpS a0 a1 σ R) : acall TP fn_laws_markOpS [a0, a1] σ R :=
  acall_okF (ρ := [a1, a0]) TT_ok Tryz.func26 rfl x26 x26_ok rfl h

/-- loop.example/g00349/laws.heldBlockS -/
def s_laws_heldBlockS (a0 a1 : AV) (σ : AH) (R : AEnd → AH → Prop) : Prop :=
  lp (X := Tup [0, 1, 5]) (fun R1 y1 σ =>
    og (lenS y1.1) fun v8 =>
    og (ibin .lss y1.2.2.1 v8) fun v9 =>
    apick v9 (
      og (idx 2 y1.1 y1.2.2.1 σ) fun v14 =>
      og (fldA 0 v14) fun v15 =>
      og (lod v15 σ) fun v16 =>
      og (ibin .neq v16 y1.2.1) fun v18 =>
      apick v18 (
        aret (.val (.int .i64 (-1))) σ R) (
        og (ibin .add y1.2.1 (.val (.int .i64 1))) fun v20 =>
        og (idx 2 y1.1 y1.2.2.1 σ) fun v23 =>
        og (fldA 1 v23) fun v24 =>
        og (lod v24 σ) fun v25 =>
        acall TP fn_laws_heldOpS [v25, v20] σ (onr (fun v27 σ =>
        og (ibin .lss v27 (.val (.int .i64 0))) fun v29 =>
        apick v29 (
          aret (.val (.int .i64 (-1))) σ R) (
          og (ibin .add y1.2.2.1 (.val (.int .i64 1))) fun v11 =>
          R1 (y1.1, v27, v11, ()) σ)) (fun v σ => apan v σ R)))) (
      aret y1.2.1 σ R)) (a0, a1, (.val (.int .i64 0)), ()) σ
def x27 : Sx := .lp [0, 1, 5] (.og (.lenS (.var 0)) (.og (.ibin .lss (.var 3) (.var 0)) (.apick (.var 0) (.og (.idx 2 (.var 2) (.var 4)) (.og (.fldA 0 (.var 0)) (.og (.lod (.var 0)) (.og (.ibin .neq (.var 0) (.var 6)) (.apick (.var 0) (.ret (.lit (.val (.int .i64 (-1))))) (.og (.ibin .add (.var 7) (.lit (.val (.int .i64 1)))) (.og (.idx 2 (.var 7) (.var 9)) (.og (.fldA 1 (.var 0)) (.og (.lod (.var 0)) (.call 49 [(.var 0), (.var 3)] (.og (.ibin .lss (.var 0) (.lit (.val (.int .i64 0)))) (.apick (.var 0) (.ret (.lit (.val (.int .i64 (-1))))) (.og (.ibin .add (.var 14) (.lit (.val (.int .i64 1)))) (.jump 0 [(.var 13), (.var 2), (.var 0)])))))))))))))) (.ret (.var 3))))) [(.var 1), (.var 0), (.lit (.val (.int .i64 0)))]
set_option maxRecDepth 1000000 in
theorem x27_ok : okF TT Tryz.f27 2 x27 = true := by decide +kernel
set_option maxRecDepth 1000000 in
theorem s_laws_heldBlockS_ok {a0 a1 : AV} {σ : AH} {R : AEnd → AH → Prop} (h : s_laws_heldBlockS a0 a1 σ R) : acall TP fn_laws_heldBlockS [a0, a1] σ R :=
  acall_okF (ρ := [a1, a0]) TT_ok Tryz.func27 rfl x27 x27_ok rfl h

/-- loop.example/g00349/spec.l11Table -/
def s_spec_l11Table (a0 : AV) (σ : AH) (R : AEnd → AH → Prop) : Prop :=
  acall TP fn_spec_l1In [a0, (.val (.int .i64 0)), (.val (.int .i64 15))] σ (onr (fun v4 σ =>
  aret v4 σ R) (fun v σ => apan v σ R))
def x28 : Sx := .call 50 [(.var 0), (.lit (.val (.int .i64 0))), (.lit (.val (.int .i64 15)))] (.ret (.var 0))
set_option maxRecDepth 1000000 in
theorem x28_ok : okF TT Tryz.f28 1 x28 = true := by decide +kernel
set_option maxRecDepth 1000000 in
theorem s_spec_l11Table_ok {a0 : AV} {σ : AH} {R : AEnd → AH → Prop} (h : s_spec_l11Table a0 σ R) : acall TP fn_spec_l11Table [a0] σ R :=
  acall_okF (ρ := [a0]) TT_ok Tryz.func28 rfl x28 x28_ok rfl h

/-- loop.example/g00349/spec.l11FuseAll -/
def s_spec_l11FuseAll (a0 a1 : AV) (σ : AH) (R : AEnd → AH → Prop) : Prop :=
  acall TP fn_spec_l9Copy [a0] σ (onr (fun v9 σ =>
  lp (X := Tup [1, 5, 6]) (fun R1 y1 σ =>
    og (lenS y1.2.1) fun v12 =>
    og (ibin .lss y1.2.2.1 v12) fun v13 =>
    apick v13 (
      og (idx 2 y1.2.1 y1.2.2.1 σ) fun v18 =>
      acall TP fn_spec_l11Fuse [v18, y1.1] σ (onr (fun v20 σ =>
      og (idx 2 y1.2.1 y1.2.2.1 σ) fun v24 =>
      og (fldA 1 v24) fun v25 =>
      sto 1 v25 v20 σ fun σ =>
      og (ibin .add y1.2.2.1 (.val (.int .i64 1))) fun v15 =>
      R1 (y1.1, y1.2.1, v15, ()) σ) (fun v σ => apan v σ R))) (
      aret y1.2.1 σ R)) (a1, v9, (.val (.int .i64 0)), ()) σ) (fun v σ => apan v σ R))
def x29 : Sx := .call 18 [(.var 1)] (.lp [1, 5, 6] (.og (.lenS (.var 1)) (.og (.ibin .lss (.var 3) (.var 0)) (.apick (.var 0) (.og (.idx 2 (.var 3) (.var 4)) (.call 51 [(.var 0), (.var 3)] (.og (.idx 2 (.var 5) (.var 6)) (.og (.fldA 1 (.var 0)) (.sto 1 (.var 0) (.var 2) (.og (.ibin .add (.var 8) (.lit (.val (.int .i64 1)))) (.jump 0 [(.var 7), (.var 8), (.var 0)]))))))) (.ret (.var 3))))) [(.var 1), (.var 0), (.lit (.val (.int .i64 0)))])
set_option maxRecDepth 1000000 in
theorem x29_ok : okF TT Tryz.f29 2 x29 = true := by decide +kernel
set_option maxRecDepth 1000000 in
theorem s_spec_l11FuseAll_ok {a0 a1 : AV} {σ : AH} {R : AEnd → AH → Prop} (h : s_spec_l11FuseAll a0 a1 σ R) : acall TP fn_spec_l11FuseAll [a0, a1] σ R :=
  acall_okF (ρ := [a1, a0]) TT_ok Tryz.func29 rfl x29 x29_ok rfl h

/-- loop.example/g00349/impl.TableFault -/
def s_impl_TableFault (a0 : AV) (σ : AH) (R : AEnd → AH → Prop) : Prop :=
  acall TP fn_impl_in [a0, (.val (.int .i64 0)), (.val (.int .i64 15))] σ (onr (fun v4 σ =>
  og (aun .not v4) fun v5 =>
  apick v5 (
    aret (.val (.int .i64 3)) σ R) (
    aret (.val (.int .i64 0)) σ R)) (fun v σ => apan v σ R))
def x30 : Sx := .call 52 [(.var 0), (.lit (.val (.int .i64 0))), (.lit (.val (.int .i64 15)))] (.og (.aun .not (.var 0)) (.apick (.var 0) (.ret (.lit (.val (.int .i64 3)))) (.ret (.lit (.val (.int .i64 0))))))
set_option maxRecDepth 1000000 in
theorem x30_ok : okF TT Tryz.f30 1 x30 = true := by decide +kernel
set_option maxRecDepth 1000000 in
theorem s_impl_TableFault_ok {a0 : AV} {σ : AH} {R : AEnd → AH → Prop} (h : s_impl_TableFault a0 σ R) : acall TP fn_impl_TableFault [a0] σ R :=
  acall_okF (ρ := [a0]) TT_ok Tryz.func30 rfl x30 x30_ok rfl h

/-- loop.example/g00349/impl.fused -/
def s_impl_fused (a0 a1 : AV) (σ : AH) (R : AEnd → AH → Prop) : Prop :=
  acall TP fn_impl_copiedCode [a0] σ (onr (fun v16 σ =>
  og (lenS v16) fun v18 =>
  lp (X := Tup [1, 5, 17, 18, 19]) (fun R1 y1 σ =>
    og (ibin .lss y1.2.2.2.2.1 y1.2.2.2.1) fun v20 =>
    apick v20 (
      og (idx 2 y1.2.2.1 y1.2.2.2.2.1 σ) fun v22 =>
      og (lodA 2 v22 σ) fun v23 =>
      new [(.val (.int .i64 0)), (.val (.slice none 0 0))] σ fun v7 σ =>
      sto 2 v7 v23 σ fun σ =>
      jn (X := Tup [1, 5, 6, 7, 8, 9, 10, 17, 18, 19]) (fun x2 σ =>
          lp (X := Tup [1, 5, 6, 7, 8, 9, 10, 11, 17, 18, 19]) (fun R3 y3 σ =>
            og (fldA 1 y3.2.2.2.1) fun v32 =>
            og (lod v32 σ) fun v33 =>
            og (lenS v33) fun v34 =>
            og (ibin .lss y3.2.2.2.2.2.2.2.1 v34) fun v35 =>
            apick v35 (
              og (fldA 1 y3.2.2.2.1) fun v38 =>
              og (lod v38 σ) fun v39 =>
              og (idx 7 v39 y3.2.2.2.2.2.2.2.1 σ) fun v41 =>
              og (lodA 7 v41 σ) fun v42 =>
              new [(.val (.int .i64 0)), (.val (.int .i64 0)), (.val (.int .i64 0)), (.val (.int .i64 0)), (.val (.int .i64 0)), (.val (.string ⟨#[]⟩)), (.val (.slice none 0 0))] σ fun v12 σ =>
              sto 7 v12 v42 σ fun σ =>
              og (lenS y3.2.2.2.2.2.1) fun v46 =>
              og (idx 1 y3.2.2.2.2.2.2.1 y3.2.2.2.2.2.2.2.1 σ) fun v47 =>
              sto 1 v47 v46 σ fun σ =>
              jn (X := Tup [1, 5, 6, 7, 8, 9, 10, 11, 12, 17, 18, 19]) (fun x4 σ =>
                  frz x4.2.2.2.2.2.2.2.2.1 σ fun f12 σ =>
                  og (lodA 7 f12 σ) fun v78 =>
                  bsl 7 [(.val (.int .i64 0)), (.val (.int .i64 0)), (.val (.int .i64 0)), (.val (.int .i64 0)), (.val (.int .i64 0)), (.val (.string ⟨#[]⟩)), (.val (.slice none 0 0))] 1 [(0, v78)] σ fun v79 σ =>
                  app 7 x4.2.2.2.2.2.1 v79 σ fun v80 σ =>
                  og (ibin .add x4.2.2.2.2.2.2.2.1 (.val (.int .i64 1))) fun v37 =>
                  R3 (x4.1, x4.2.1, x4.2.2.1, x4.2.2.2.1, x4.2.2.2.2.1, v80, x4.2.2.2.2.2.2.1, v37, x4.2.2.2.2.2.2.2.2.2.1, x4.2.2.2.2.2.2.2.2.2.2.1, x4.2.2.2.2.2.2.2.2.2.2.2.1, ()) σ) fun k4 =>
                jn (X := Tup [1, 5, 6, 7, 8, 9, 10, 11, 12, 17, 18, 19, 60]) (fun x5 σ =>
                    apick x5.2.2.2.2.2.2.2.2.2.2.2.2.1 (
                      og (lodA 7 x5.2.2.2.2.2.2.2.2.1 σ) fun v62 =>
                      og (fldA 1 x5.2.2.2.1) fun v63 =>
                      og (lod v63 σ) fun v64 =>
                      og (ibin .add x5.2.2.2.2.2.2.2.1 (.val (.int .i64 1))) fun v66 =>
                      og (idx 7 v64 v66 σ) fun v67 =>
                      og (lodA 7 v67 σ) fun v68 =>
                      acall TP fn_impl_both [v62, v68, x5.1] σ (onr (fun v70 σ =>
                      (True) ∧
                      og (aext v70 0) fun v71 =>
                      og (aext v70 1) fun v72 =>
                      new [(.val (.int .i64 0)), (.val (.int .i64 0)), (.val (.int .i64 0)), (.val (.int .i64 0)), (.val (.int .i64 0)), (.val (.string ⟨#[]⟩)), (.val (.slice none 0 0))] σ fun v13 σ =>
                      (True) ∧
                      sto 7 v13 v71 σ fun σ =>
                      (True) ∧
                      frz v13 σ fun f13 σ =>
                      apick v72 (
                        og (lodA 7 f13 σ) fun v74 =>
                        sto 7 x5.2.2.2.2.2.2.2.2.1 v74 σ fun σ =>
                        frz x5.2.2.2.2.2.2.2.2.1 σ fun f12 σ =>
                        og (ibin .add x5.2.2.2.2.2.2.2.1 (.val (.int .i64 1))) fun v76 =>
                        k4 (x5.1, x5.2.1, x5.2.2.1, x5.2.2.2.1, x5.2.2.2.2.1, x5.2.2.2.2.2.1, x5.2.2.2.2.2.2.1, v76, f12, x5.2.2.2.2.2.2.2.2.2.1, x5.2.2.2.2.2.2.2.2.2.2.1, x5.2.2.2.2.2.2.2.2.2.2.2.1, ()) σ) (
                        k4 (x5.1, x5.2.1, x5.2.2.1, x5.2.2.2.1, x5.2.2.2.2.1, x5.2.2.2.2.2.1, x5.2.2.2.2.2.2.1, x5.2.2.2.2.2.2.2.1, x5.2.2.2.2.2.2.2.2.1, x5.2.2.2.2.2.2.2.2.2.1, x5.2.2.2.2.2.2.2.2.2.2.1, x5.2.2.2.2.2.2.2.2.2.2.2.1, ()) σ)) (fun v σ => apan v σ R))) (
                      k4 (x5.1, x5.2.1, x5.2.2.1, x5.2.2.2.1, x5.2.2.2.2.1, x5.2.2.2.2.2.1, x5.2.2.2.2.2.2.1, x5.2.2.2.2.2.2.2.1, x5.2.2.2.2.2.2.2.2.1, x5.2.2.2.2.2.2.2.2.2.1, x5.2.2.2.2.2.2.2.2.2.2.1, x5.2.2.2.2.2.2.2.2.2.2.2.1, ()) σ)) fun k5 =>
                  og (ibin .add y3.2.2.2.2.2.2.2.1 (.val (.int .i64 1))) fun v49 =>
                  og (fldA 1 y3.2.2.2.1) fun v50 =>
                  og (lod v50 σ) fun v51 =>
                  og (lenS v51) fun v52 =>
                  og (ibin .lss v49 v52) fun v53 =>
                  og (gval v53 true false (some y3.2.2.2.2.1)) fun v55 =>
                  og (gval v53 true false (some y3.2.2.2.2.2.2.2.1)) fun v56 =>
                  og (gval v53 true false (ibin .add v56 (.val (.int .i64 1)))) fun v57 =>
                  gpick v53 (
                    acall TP fn_slices_Contains [v55, v57] σ (onr (fun v58 σ =>
                    og (aun .not v58) fun v59 =>
                    k5 (y3.1, y3.2.1, y3.2.2.1, y3.2.2.2.1, y3.2.2.2.2.1, y3.2.2.2.2.2.1, y3.2.2.2.2.2.2.1, y3.2.2.2.2.2.2.2.1, v12, y3.2.2.2.2.2.2.2.2.1, y3.2.2.2.2.2.2.2.2.2.1, y3.2.2.2.2.2.2.2.2.2.2.1, v59, ()) σ) (fun v σ => apan v σ R))) (
                    k5 (y3.1, y3.2.1, y3.2.2.1, y3.2.2.2.1, y3.2.2.2.2.1, y3.2.2.2.2.2.1, y3.2.2.2.2.2.2.1, y3.2.2.2.2.2.2.2.1, v12, y3.2.2.2.2.2.2.2.2.1, y3.2.2.2.2.2.2.2.2.2.1, y3.2.2.2.2.2.2.2.2.2.2.1, (.val (.bool false)), ()) σ) (False)) (
              acall TP fn_impl_moved [y3.2.2.2.2.2.1, y3.2.2.2.2.2.2.1] σ (onr (fun v83 σ =>
              og (idx 2 y3.2.1 y3.2.2.1 σ) fun v87 =>
              og (fldA 1 v87) fun v88 =>
              sto 1 v88 y3.2.2.2.2.2.1 σ fun σ =>
              og (ibin .add y3.2.2.2.2.2.2.2.2.2.2.1 (.val (.int .i64 1))) fun v89 =>
              R1 (y3.1, y3.2.1, y3.2.2.2.2.2.2.2.2.1, y3.2.2.2.2.2.2.2.2.2.1, v89, ()) σ) (fun v σ => apan v σ R)))) (x2.1, x2.2.1, x2.2.2.1, x2.2.2.2.1, x2.2.2.2.2.1, x2.2.2.2.2.2.1, x2.2.2.2.2.2.2.1, (.val (.int .i64 0)), x2.2.2.2.2.2.2.2.1, x2.2.2.2.2.2.2.2.2.1, x2.2.2.2.2.2.2.2.2.2.1, ()) σ) fun k2 =>
        frz v7 σ fun f7 σ =>
        (
          og (lodA 2 f7 σ) fun v24 =>
          og (bslR 7 [(.val (.int .i64 0)), (.val (.int .i64 0)), (.val (.int .i64 0)), (.val (.int .i64 0)), (.val (.int .i64 0)), (.val (.string ⟨#[]⟩)), (.val (.slice none 0 0))] 0 []) fun v26 =>
          og (fldA 1 f7) fun v27 =>
          og (lod v27 σ) fun v28 =>
          og (lenS v28) fun v29 =>
          acall TP fn_impl_targets [v24] σ (onr (fun v25 σ =>
          (lod v27 σ = some v28 ∧ True) ∧
          amake TT ty_Li v29 v29 σ fun v30 σ =>
          (lodA 2 f7 σ = some v24 ∧ True) ∧
          k2 (y1.1, y1.2.1, y1.2.2.2.2.1, f7, v25, v26, v30, y1.2.2.1, y1.2.2.2.1, y1.2.2.2.2.1, ()) σ) (fun v σ => apan v σ R))) ∧ (
          og (lodA 2 f7 σ) fun v24 =>
          og (bslR 7 [(.val (.int .i64 0)), (.val (.int .i64 0)), (.val (.int .i64 0)), (.val (.int .i64 0)), (.val (.int .i64 0)), (.val (.string ⟨#[]⟩)), (.val (.slice none 0 0))] 0 []) fun v26 =>
          og (fldA 1 f7) fun v27 =>
          og (lod v27 σ) fun v28 =>
          og (lenS v28) fun v29 =>
          amake TT ty_Li v29 v29 σ fun v30 σ =>
          (lodA 2 f7 σ = some v24 ∧ True) ∧
          acall TP fn_impl_targets [v24] σ (onr (fun v25 σ =>
          (lod v27 σ = some v28 ∧ True) ∧
          k2 (y1.1, y1.2.1, y1.2.2.2.2.1, f7, v25, v26, v30, y1.2.2.1, y1.2.2.2.1, y1.2.2.2.2.1, ()) σ) (fun v σ => apan v σ R)))) (
      aret y1.2.1 σ R)) (a1, v16, v16, v18, (.val (.int .i64 0)), ()) σ) (fun v σ => apan v σ R))
def x31 : Sx := .call 22 [(.var 1)] (.og (.lenS (.var 0)) (.lp [1, 5, 17, 18, 19] (.og (.ibin .lss (.var 4) (.var 3)) (.apick (.var 0) (.og (.idx 2 (.var 3) (.var 5)) (.og (.lodA 2 (.var 0)) (.new [(.val (.int .i64 0)), (.val (.slice none 0 0))] (.sto 2 (.var 0) (.var 1) (.jn 7475 [1, 5, 6, 7, 8, 9, 10, 17, 18, 19] (.lp [1, 5, 6, 7, 8, 9, 10, 11, 17, 18, 19] (.og (.fldA 1 (.var 3)) (.og (.lod (.var 0)) (.og (.lenS (.var 0)) (.og (.ibin .lss (.var 10) (.var 0)) (.apick (.var 0) (.og (.fldA 1 (.var 7)) (.og (.lod (.var 0)) (.og (.idx 7 (.var 0) (.var 13)) (.og (.lodA 7 (.var 0)) (.new [(.val (.int .i64 0)), (.val (.int .i64 0)), (.val (.int .i64 0)), (.val (.int .i64 0)), (.val (.int .i64 0)), (.val (.string ⟨#[]⟩)), (.val (.slice none 0 0))] (.sto 7 (.var 0) (.var 1) (.og (.lenS (.var 14)) (.og (.idx 1 (.var 16) (.var 17)) (.sto 1 (.var 0) (.var 1) (.jn 7654695 [1, 5, 6, 7, 8, 9, 10, 11, 12, 17, 18, 19] (.frz 3 (.var 8) (.og (.lodA 7 (.var 0)) (.bsl 7 [(.val (.int .i64 0)), (.val (.int .i64 0)), (.val (.int .i64 0)), (.val (.int .i64 0)), (.val (.int .i64 0)), (.val (.string ⟨#[]⟩)), (.val (.slice none 0 0))] 1 [(0, (.var 0))] (.app 7 (.var 8) (.var 0) (.og (.ibin .add (.var 11) (.lit (.val (.int .i64 1)))) (.jump 0 [(.var 5), (.var 6), (.var 7), (.var 8), (.var 9), (.var 1), (.var 11), (.var 0), (.var 14), (.var 15), (.var 16)])))))) (.jn 15309389 [1, 5, 6, 7, 8, 9, 10, 11, 12, 17, 18, 19, 60] (.apick (.var 12) (.ord [0, 1, 2, 3, 4, 5, 6, 7, 8, 9, 10, 11, 12, 13, 14] [0, 0, 2, 0, 8, 30, 62, 0, 255, 511, 1023, 1023, 0, 6143, 16383] (.og (.lodA 7 (.var 8)) (.og (.fldA 1 (.var 4)) (.og (.lod (.var 0)) (.og (.ibin .add (.var 10) (.lit (.val (.int .i64 1)))) (.og (.idx 7 (.var 1) (.var 0)) (.og (.lodA 7 (.var 0)) (.call 55 [(.var 5), (.var 0), (.var 6)] (.wat [] (.og (.aext (.var 0) 0) (.og (.aext (.var 1) 1) (.new [(.val (.int .i64 0)), (.val (.int .i64 0)), (.val (.int .i64 0)), (.val (.int .i64 0)), (.val (.int .i64 0)), (.val (.string ⟨#[]⟩)), (.val (.slice none 0 0))] (.wat [] (.sto 7 (.var 0) (.var 2) (.wat [] (.frz 22 (.var 0) (.apick (.var 2) (.og (.lodA 7 (.var 0)) (.sto 7 (.var 20) (.var 0) (.frz 4 (.var 20) (.og (.ibin .add (.var 20) (.lit (.val (.int .i64 1)))) (.jump 0 [(.var 14), (.var 15), (.var 16), (.var 17), (.var 18), (.var 19), (.var 20), (.var 0), (.var 1), (.var 23), (.var 24), (.var 25)]))))) (.jump 0 [(.var 11), (.var 12), (.var 13), (.var 14), (.var 15), (.var 16), (.var 17), (.var 18), (.var 19), (.var 20), (.var 21), (.var 22)])))))))))))))))))) (.jump 0 [(.var 0), (.var 1), (.var 2), (.var 3), (.var 4), (.var 5), (.var 6), (.var 7), (.var 8), (.var 9), (.var 10), (.var 11)])) (.og (.ibin .add (.var 18) (.lit (.val (.int .i64 1)))) (.og (.fldA 1 (.var 15)) (.og (.lod (.var 0)) (.og (.lenS (.var 0)) (.og (.ibin .lss (.var 3) (.var 0)) (.gog (.var 0) true false (.ret (.var 20)) (.gog (.var 1) true false (.ret (.var 24)) (.gog (.var 2) true false (.ibin .add (.var 0) (.lit (.val (.int .i64 1)))) (.gpick (.var 3) (.call 54 [(.var 2), (.var 0)] (.og (.aun .not (.var 0)) (.jump 0 [(.var 21), (.var 22), (.var 23), (.var 24), (.var 25), (.var 26), (.var 27), (.var 28), (.var 12), (.var 29), (.var 30), (.var 31), (.var 0)]))) (.jump 0 [(.var 19), (.var 20), (.var 21), (.var 22), (.var 23), (.var 24), (.var 25), (.var 26), (.var 10), (.var 27), (.var 28), (.var 29), (.lit (.val (.bool false)))]) (.no))))))))))))))))))))) (.call 24 [(.var 9), (.var 10)] (.og (.idx 2 (.var 6) (.var 7)) (.og (.fldA 1 (.var 0)) (.sto 1 (.var 0) (.var 12) (.og (.ibin .add (.var 17) (.lit (.val (.int .i64 1)))) (.jump 1 [(.var 8), (.var 9), (.var 16), (.var 17), (.var 0)]))))))))))) [(.var 0), (.var 1), (.var 2), (.var 3), (.var 4), (.var 5), (.var 6), (.lit (.val (.int .i64 0))), (.var 7), (.var 8), (.var 9)]) (.frz 8 (.var 0) (.both [0, 2, 3, 4, 5] 1 [7, 8, 6, 9] 6 [1, 7, 8, 9] [0, 1, 0, 0, 8, 24, 56, 3, 135, 511] (.og (.lodA 2 (.var 0)) (.og (.bslR 7 [(.val (.int .i64 0)), (.val (.int .i64 0)), (.val (.int .i64 0)), (.val (.int .i64 0)), (.val (.int .i64 0)), (.val (.string ⟨#[]⟩)), (.val (.slice none 0 0))] 0 []) (.og (.fldA 1 (.var 2)) (.og (.lod (.var 0)) (.og (.lenS (.var 0)) (.call 53 [(.var 4)] (.wat [⟨none, (.lod (.var 3)), (.var 2)⟩] (.mks 40 (.var 1) (.var 1) (.wat [⟨none, (.lodA 2 (.var 7)), (.var 6)⟩] (.jump 0 [(.var 12), (.var 13), (.var 16), (.var 7), (.var 1), (.var 5), (.var 0), (.var 14), (.var 15), (.var 16)])))))))))) (.og (.lodA 2 (.var 0)) (.og (.bslR 7 [(.val (.int .i64 0)), (.val (.int .i64 0)), (.val (.int .i64 0)), (.val (.int .i64 0)), (.val (.int .i64 0)), (.val (.string ⟨#[]⟩)), (.val (.slice none 0 0))] 0 []) (.og (.fldA 1 (.var 2)) (.og (.lod (.var 0)) (.og (.lenS (.var 0)) (.mks 40 (.var 0) (.var 0) (.wat [⟨none, (.lodA 2 (.var 6)), (.var 5)⟩] (.call 53 [(.var 5)] (.wat [⟨none, (.lod (.var 4)), (.var 3)⟩] (.jump 0 [(.var 12), (.var 13), (.var 16), (.var 7), (.var 0), (.var 5), (.var 1), (.var 14), (.var 15), (.var 16)]))))))))))))))))) (.ret (.var 2)))) [(.var 2), (.var 1), (.var 1), (.var 0), (.lit (.val (.int .i64 0)))]))
set_option maxRecDepth 1000000 in
theorem x31_ok : okF TT Tryz.f31 2 x31 = true := by decide +kernel
set_option maxRecDepth 1000000 in
theorem s_impl_fused_ok {a0 a1 : AV} {σ : AH} {R : AEnd → AH → Prop} (h : s_impl_fused a0 a1 σ R) : acall TP fn_impl_fused [a0, a1] σ R :=
  acall_okF (ρ := [a1, a0]) TT_ok Tryz.func31 rfl x31 x31_ok rfl h

/-- loop.example/g00349/laws.szOpS -/
def s_laws_szOpS (a0 a1 : AV) (σ : AH) (R : AEnd → AH → Prop) : Prop :=
  og (lenS a0) fun v8 =>
  og (ibin .sub a1 v8) fun v9 =>
  og (ibin .lss v9 (.val (.int .i64 0))) fun v11 =>
  apick v11 (
    aret (.val (.int .i64 (-1))) σ R) (
    lp (X := Tup [0, 1, 5]) (fun R1 y1 σ =>
      og (lenS y1.1) fun v14 =>
      og (ibin .lss y1.2.2.1 v14) fun v15 =>
      apick v15 (
        og (idx 7 y1.1 y1.2.2.1 σ) fun v20 =>
        og (lodA 7 v20 σ) fun v21 =>
        acall TP fn_laws_szOp [v21, y1.2.1] σ (onr (fun v23 σ =>
        og (ibin .lss v23 (.val (.int .i64 0))) fun v25 =>
        apick v25 (
          aret (.val (.int .i64 (-1))) σ R) (
          og (ibin .add y1.2.2.1 (.val (.int .i64 1))) fun v17 =>
          R1 (y1.1, v23, v17, ()) σ)) (fun v σ => apan v σ R))) (
        aret y1.2.1 σ R)) (a0, v9, (.val (.int .i64 0)), ()) σ)
def x32 : Sx := .og (.lenS (.var 1)) (.og (.ibin .sub (.var 1) (.var 0)) (.og (.ibin .lss (.var 0) (.lit (.val (.int .i64 0)))) (.apick (.var 0) (.ret (.lit (.val (.int .i64 (-1))))) (.lp [0, 1, 5] (.og (.lenS (.var 0)) (.og (.ibin .lss (.var 3) (.var 0)) (.apick (.var 0) (.og (.idx 7 (.var 2) (.var 4)) (.og (.lodA 7 (.var 0)) (.call 56 [(.var 0), (.var 5)] (.og (.ibin .lss (.var 0) (.lit (.val (.int .i64 0)))) (.apick (.var 0) (.ret (.lit (.val (.int .i64 (-1))))) (.og (.ibin .add (.var 8) (.lit (.val (.int .i64 1)))) (.jump 0 [(.var 7), (.var 2), (.var 0)]))))))) (.ret (.var 3))))) [(.var 4), (.var 1), (.lit (.val (.int .i64 0)))]))))
set_option maxRecDepth 1000000 in
theorem x32_ok : okF TT Tryz.f32 2 x32 = true := by decide +kernel
set_option maxRecDepth 1000000 in
theorem s_laws_szOpS_ok {a0 a1 : AV} {σ : AH} {R : AEnd → AH → Prop} (h : s_laws_szOpS a0 a1 σ R) : acall TP fn_laws_szOpS [a0, a1] σ R :=
  acall_okF (ρ := [a1, a0]) TT_ok Tryz.func32 rfl x32 x32_ok rfl h

/-- loop.example/g00349/spec.l9Fault -/
def s_spec_l9Fault (a0 : AV) (σ : AH) (R : AEnd → AH → Prop) : Prop :=
  og (lenS a0) fun v6 =>
  og (ibin .gtr v6 (.val (.int .i64 60))) fun v7 =>
  apick v7 (
    aret (.val (.int .i64 2)) σ R) (
    lp (X := Tup [0, 3]) (fun R1 y1 σ =>
      og (lenS y1.1) fun v10 =>
      og (ibin .lss y1.2.1 v10) fun v11 =>
      apick v11 (
        og (idx 2 y1.1 y1.2.1 σ) fun v16 =>
        acall TP fn_spec_l9Block [v16] σ (onr (fun v17 σ =>
        og (ibin .neq v17 (.val (.int .i64 0))) fun v19 =>
        apick v19 (
          aret v17 σ R) (
          og (ibin .add y1.2.1 (.val (.int .i64 1))) fun v13 =>
          R1 (y1.1, v13, ()) σ)) (fun v σ => apan v σ R))) (
        aret (.val (.int .i64 0)) σ R)) (a0, (.val (.int .i64 0)), ()) σ)
def x33 : Sx := .og (.lenS (.var 0)) (.og (.ibin .gtr (.var 0) (.lit (.val (.int .i64 60)))) (.apick (.var 0) (.ret (.lit (.val (.int .i64 2)))) (.lp [0, 3] (.og (.lenS (.var 0)) (.og (.ibin .lss (.var 2) (.var 0)) (.apick (.var 0) (.og (.idx 2 (.var 2) (.var 3)) (.call 57 [(.var 0)] (.og (.ibin .neq (.var 0) (.lit (.val (.int .i64 0)))) (.apick (.var 0) (.ret (.var 1)) (.og (.ibin .add (.var 6) (.lit (.val (.int .i64 1)))) (.jump 0 [(.var 6), (.var 0)])))))) (.ret (.lit (.val (.int .i64 0))))))) [(.var 2), (.lit (.val (.int .i64 0)))])))
set_option maxRecDepth 1000000 in
theorem x33_ok : okF TT Tryz.f33 1 x33 = true := by decide +kernel
set_option maxRecDepth 1000000 in
theorem s_spec_l9Fault_ok {a0 : AV} {σ : AH} {R : AEnd → AH → Prop} (h : s_spec_l9Fault a0 σ R) : acall TP fn_spec_l9Fault [a0] σ R :=
  acall_okF (ρ := [a0]) TT_ok Tryz.func33 rfl x33 x33_ok rfl h

/-- loop.example/g00349/spec.l10Around -/
def s_spec_l10Around (a0 : AV) (σ : AH) (R : AEnd → AH → Prop) : Prop :=
  bsl 1 [(.val (.int .i64 0))] 0 [] σ fun v12 σ =>
  lp (X := Tup [0, 4, 5]) (fun R1 y1 σ =>
    og (lenS y1.1) fun v15 =>
    og (ibin .lss y1.2.2.1 v15) fun v16 =>
    apick v16 (
      bsl 1 [(.val (.int .i64 0))] 1 [(0, (.val (.int .i64 (-1))))] σ fun v20 σ =>
      app 1 y1.2.1 v20 σ fun v21 σ =>
      og (ibin .add y1.2.2.1 (.val (.int .i64 1))) fun v18 =>
      R1 (y1.1, v21, v18, ()) σ) (
      lp (X := Tup [0, 4, 6]) (fun R2 y2 σ =>
        og (lenS y2.1) fun v24 =>
        og (ibin .lss y2.2.2.1 v24) fun v25 =>
        apick v25 (
          og (idx 2 y2.1 y2.2.2.1 σ) fun v31 =>
          acall TP fn_spec_l10Heights [v31] σ (onr (fun v32 σ =>
          og (aext v32 0) fun v33 =>
          og (aext v32 1) fun v34 =>
          og (ibin .neq v34 (.val (.int .i64 0))) fun v36 =>
          apick v36 (
            aret (.tup [(.val (.slice none 0 0)), v34]) σ R) (
            lp (X := Tup [0, 4, 6, 9]) (fun R3 y3 σ =>
              og (idx 2 y3.1 y3.2.2.1 σ) fun v41 =>
              og (fldA 1 v41) fun v42 =>
              og (lod v42 σ) fun v43 =>
              og (lenS v43) fun v44 =>
              og (ibin .lss y3.2.2.2.1 v44) fun v45 =>
              apick v45 (
                jn (X := Tup [0, 4, 6, 9]) (fun x4 σ =>
                    og (ibin .add x4.2.2.2.1 (.val (.int .i64 1))) fun v47 =>
                    R3 (x4.1, x4.2.1, x4.2.2.1, v47, ()) σ) fun k4 =>
                  og (idx 2 y3.1 y3.2.2.1 σ) fun v50 =>
                  og (fldA 1 v50) fun v51 =>
                  og (lod v51 σ) fun v52 =>
                  og (idx 7 v52 y3.2.2.2.1 σ) fun v54 =>
                  og (anil v54) fun v56 =>
                  og (fldA 0 v56) fun v57 =>
                  og (lod v57 σ) fun v58 =>
                  og (ibin .neq v58 (.val (.int .i64 4))) fun v59 =>
                  apick v59 (
                    k4 (y3.1, y3.2.1, y3.2.2.1, y3.2.2.2.1, ()) σ) (
                    og (anil v54) fun v61 =>
                    og (fldA 1 v61) fun v62 =>
                    og (lod v62 σ) fun v63 =>
                    og (ibin .leq v63 y3.2.2.1) fun v65 =>
                    og (gval v65 false false (some v54)) fun v67 =>
                    og (gval v65 false false (anil v67)) fun v68 =>
                    og (gval v65 false false (fldA 1 v68)) fun v69 =>
                    og (gval v65 false false (lod v69 σ)) fun v70 =>
                    og (gval v65 false false (some y3.1)) fun v71 =>
                    og (gval v65 false false (lenS v71)) fun v72 =>
                    og (gval v65 false false (ibin .geq v70 v72)) fun v73 =>
                    og (pickV v65 (.val (.bool true)) v73) fun v74 =>
                    og (gval v74 false false (some y3.2.1)) fun v76 =>
                    og (gval v74 false false (some v54)) fun v77 =>
                    og (gval v74 false false (anil v77)) fun v78 =>
                    og (gval v74 false false (fldA 1 v78)) fun v79 =>
                    og (gval v74 false false (lod v79 σ)) fun v80 =>
                    og (gval v74 false false (idx 1 v76 v80 σ)) fun v81 =>
                    og (gval v74 false false (lod v81 σ)) fun v82 =>
                    og (gval v74 false false (ibin .geq v82 (.val (.int .i64 0)))) fun v83 =>
                    og (pickV v74 (.val (.bool true)) v83) fun v84 =>
                    apick v84 (
                      aret (.tup [(.val (.slice none 0 0)), (.val (.int .i64 1))]) σ R) (
                      og (anil v54) fun v87 =>
                      og (fldA 1 v87) fun v88 =>
                      og (lod v88 σ) fun v89 =>
                      og (idx 1 y3.2.1 v89 σ) fun v91 =>
                      sto 1 v91 y3.2.2.1 σ fun σ =>
                      k4 (y3.1, y3.2.1, y3.2.2.1, y3.2.2.2.1, ()) σ))) (
                og (ibin .add y3.2.2.1 (.val (.int .i64 1))) fun v27 =>
                R2 (y3.1, y3.2.1, v27, ()) σ)) (y2.1, y2.2.1, y2.2.2.1, (.val (.int .i64 0)), ()) σ)) (fun v σ => apan v σ R))) (
          lp (X := Tup [0, 4, 11]) (fun R5 y5 σ =>
            og (lenS y5.1) fun v94 =>
            og (ibin .lss y5.2.2.1 v94) fun v95 =>
            apick v95 (
              og (idx 1 y5.2.1 y5.2.2.1 σ) fun v100 =>
              og (lod v100 σ) fun v101 =>
              og (ibin .lss v101 (.val (.int .i64 0))) fun v102 =>
              apick v102 (
                aret (.tup [(.val (.slice none 0 0)), (.val (.int .i64 1))]) σ R) (
                og (ibin .add y5.2.2.1 (.val (.int .i64 1))) fun v97 =>
                R5 (y5.1, y5.2.1, v97, ()) σ)) (
              aret (.tup [y5.2.1, (.val (.int .i64 0))]) σ R)) (y2.1, y2.2.1, (.val (.int .i64 1)), ()) σ)) (y1.1, y1.2.1, (.val (.int .i64 0)), ()) σ)) (a0, v12, (.val (.int .i64 0)), ()) σ
def x34 : Sx := .bsl 1 [(.val (.int .i64 0))] 0 [] (.lp [0, 4, 5] (.og (.lenS (.var 0)) (.og (.ibin .lss (.var 3) (.var 0)) (.apick (.var 0) (.bsl 1 [(.val (.int .i64 0))] 1 [(0, (.lit (.val (.int .i64 (-1)))))] (.app 1 (.var 4) (.var 0) (.og (.ibin .add (.var 6) (.lit (.val (.int .i64 1)))) (.jump 0 [(.var 5), (.var 1), (.var 0)])))) (.lp [0, 4, 6] (.og (.lenS (.var 0)) (.og (.ibin .lss (.var 3) (.var 0)) (.apick (.var 0) (.og (.idx 2 (.var 2) (.var 4)) (.call 58 [(.var 0)] (.og (.aext (.var 0) 0) (.og (.aext (.var 1) 1) (.og (.ibin .neq (.var 0) (.lit (.val (.int .i64 0)))) (.apick (.var 0) (.rets [(.lit (.val (.slice none 0 0))), (.var 1)]) (.lp [0, 4, 6, 9] (.og (.idx 2 (.var 0) (.var 2)) (.og (.fldA 1 (.var 0)) (.og (.lod (.var 0)) (.og (.lenS (.var 0)) (.og (.ibin .lss (.var 7) (.var 0)) (.apick (.var 0) (.jn 125235 [0, 4, 6, 9] (.og (.ibin .add (.var 3) (.lit (.val (.int .i64 1)))) (.jump 0 [(.var 1), (.var 2), (.var 3), (.var 0)])) (.og (.idx 2 (.var 5) (.var 7)) (.og (.fldA 1 (.var 0)) (.og (.lod (.var 0)) (.og (.idx 7 (.var 0) (.var 11)) (.og (.anil (.var 0)) (.og (.fldA 0 (.var 0)) (.og (.lod (.var 0)) (.og (.ibin .neq (.var 0) (.lit (.val (.int .i64 4)))) (.apick (.var 0) (.jump 0 [(.var 13), (.var 14), (.var 15), (.var 16)]) (.og (.anil (.var 4)) (.og (.fldA 1 (.var 0)) (.og (.lod (.var 0)) (.og (.ibin .leq (.var 0) (.var 18)) (.gog (.var 0) false false (.ret (.var 8)) (.gog (.var 1) false false (.anil (.var 0)) (.gog (.var 2) false false (.fldA 1 (.var 0)) (.gog (.var 3) false false (.lod (.var 0)) (.gog (.var 4) false false (.ret (.var 21)) (.gog (.var 5) false false (.lenS (.var 0)) (.gog (.var 6) false false (.ibin .geq (.var 2) (.var 0)) (.og (.pickV (.var 7) (.lit (.val (.bool true))) (.var 0)) (.gog (.var 0) false false (.ret (.var 26)) (.gog (.var 1) false false (.ret (.var 17)) (.gog (.var 2) false false (.anil (.var 0)) (.gog (.var 3) false false (.fldA 1 (.var 0)) (.gog (.var 4) false false (.lod (.var 0)) (.gog (.var 5) false false (.idx 1 (.var 4) (.var 0)) (.gog (.var 6) false false (.lod (.var 0)) (.gog (.var 7) false false (.ibin .geq (.var 0) (.lit (.val (.int .i64 0)))) (.og (.pickV (.var 8) (.lit (.val (.bool true))) (.var 0)) (.apick (.var 0) (.rets [(.lit (.val (.slice none 0 0))), (.lit (.val (.int .i64 1)))]) (.og (.anil (.var 25)) (.og (.fldA 1 (.var 0)) (.og (.lod (.var 0)) (.og (.idx 1 (.var 38) (.var 0)) (.sto 1 (.var 0) (.var 40) (.jump 0 [(.var 38), (.var 39), (.var 40), (.var 41)])))))))))))))))))))))))))))))))))))))) (.og (.ibin .add (.var 7) (.lit (.val (.int .i64 1)))) (.jump 1 [(.var 6), (.var 7), (.var 0)])))))))) [(.var 7), (.var 8), (.var 9), (.lit (.val (.int .i64 0)))]))))))) (.lp [0, 4, 11] (.og (.lenS (.var 0)) (.og (.ibin .lss (.var 3) (.var 0)) (.apick (.var 0) (.og (.idx 1 (.var 3) (.var 4)) (.og (.lod (.var 0)) (.og (.ibin .lss (.var 0) (.lit (.val (.int .i64 0)))) (.apick (.var 0) (.rets [(.lit (.val (.slice none 0 0))), (.lit (.val (.int .i64 1)))]) (.og (.ibin .add (.var 7) (.lit (.val (.int .i64 1)))) (.jump 0 [(.var 6), (.var 7), (.var 0)])))))) (.rets [(.var 3), (.lit (.val (.int .i64 0)))])))) [(.var 2), (.var 3), (.lit (.val (.int .i64 1)))])))) [(.var 2), (.var 3), (.lit (.val (.int .i64 0)))])))) [(.var 1), (.var 0), (.lit (.val (.int .i64 0)))])
set_option maxRecDepth 1000000 in
theorem x34_ok : okF TT Tryz.f34 1 x34 = true := by decide +kernel
set_option maxRecDepth 1000000 in
theorem s_spec_l10Around_ok {a0 : AV} {σ : AH} {R : AEnd → AH → Prop} (h : s_spec_l10Around a0 σ R) : acall TP fn_spec_l10Around [a0] σ R :=
  acall_okF (ρ := [a0]) TT_ok Tryz.func34 rfl x34 x34_ok rfl h

/-- loop.example/g00349/spec.l10Locals -/
def s_spec_l10Locals (a0 a1 a2 : AV) (σ : AH) (R : AEnd → AH → Prop) : Prop :=
  lp (X := Tup [0, 1, 2, 7]) (fun R1 y1 σ =>
    og (idx 2 y1.1 y1.2.2.1 σ) fun v13 =>
    og (fldA 1 v13) fun v14 =>
    og (lod v14 σ) fun v15 =>
    og (lenS v15) fun v16 =>
    og (ibin .lss y1.2.2.2.1 v16) fun v17 =>
    apick v17 (
      og (idx 2 y1.1 y1.2.2.1 σ) fun v22 =>
      og (fldA 1 v22) fun v23 =>
      og (lod v23 σ) fun v24 =>
      og (idx 7 v24 y1.2.2.2.1 σ) fun v26 =>
      jn (X := Tup [0, 1, 2, 7, 9]) (fun x2 σ =>
          og (aun .not x2.2.2.2.2.1) fun v80 =>
          apick v80 (
            aret (.val (.int .i64 3)) σ R) (
            og (ibin .add x2.2.2.2.1 (.val (.int .i64 1))) fun v19 =>
            R1 (x2.1, x2.2.1, x2.2.2.1, v19, ()) σ)) fun k2 =>
        og (anil v26) fun v28 =>
        og (fldA 0 v28) fun v29 =>
        og (lod v29 σ) fun v30 =>
        jn (X := Tup [0, 1, 2, 7, 8, 9, 30, 31]) (fun x3 σ =>
            apick x3.2.2.2.2.2.2.2.1 (
              og (anil x3.2.2.2.2.1) fun v39 =>
              og (fldA 1 v39) fun v40 =>
              og (lod v40 σ) fun v41 =>
              og (anil x3.2.2.2.2.1) fun v43 =>
              og (fldA 2 v43) fun v44 =>
              og (lod v44 σ) fun v45 =>
              acall TP fn_spec_l10Local [x3.1, x3.2.1, x3.2.2.1, v41, v45] σ (onr (fun v46 σ =>
              (True) ∧
              k2 (x3.1, x3.2.1, x3.2.2.1, x3.2.2.2.1, v46, ()) σ) (fun v σ => apan v σ R))) (
              og (ibin .eql x3.2.2.2.2.2.2.1 (.val (.int .i64 15))) fun v48 =>
              apick v48 (
                og (anil x3.2.2.2.2.1) fun v53 =>
                og (fldA 1 v53) fun v54 =>
                og (lod v54 σ) fun v55 =>
                og (anil x3.2.2.2.2.1) fun v57 =>
                og (fldA 2 v57) fun v58 =>
                og (lod v58 σ) fun v59 =>
                acall TP fn_spec_l10Local [x3.1, x3.2.1, x3.2.2.1, v55, v59] σ (onr (fun v60 σ =>
                (True) ∧
                og (gval v60 true false (some x3.1)) fun v62 =>
                og (gval v60 true false (some x3.2.1)) fun v63 =>
                og (gval v60 true false (some x3.2.2.1)) fun v64 =>
                og (gval v60 true false (some x3.2.2.2.2.1)) fun v65 =>
                og (gval v60 true false (anil v65)) fun v66 =>
                og (gval v60 true false (fldA 3 v66)) fun v67 =>
                og (gval v60 true false (lod v67 σ)) fun v68 =>
                og (gval v60 true false (some x3.2.2.2.2.1)) fun v69 =>
                og (gval v60 true false (anil v69)) fun v70 =>
                og (gval v60 true false (fldA 4 v70)) fun v71 =>
                og (gval v60 true false (lod v71 σ)) fun v72 =>
                gpick v60 (
                  acall TP fn_spec_l10Local [v62, v63, v64, v68, v72] σ (onr (fun v73 σ =>
                  (True) ∧
                  k2 (x3.1, x3.2.1, x3.2.2.1, x3.2.2.2.1, v73, ()) σ) (fun v σ => apan v σ R))) (
                  k2 (x3.1, x3.2.1, x3.2.2.1, x3.2.2.2.1, (.val (.bool false)), ()) σ) (False)) (fun v σ => apan v σ R))) (
                og (ibin .eql x3.2.2.2.2.2.2.1 (.val (.int .i64 9))) fun v76 =>
                apick v76 (
                  og (ibin .gtr x3.2.2.1 (.val (.int .i64 0))) fun v78 =>
                  apick v78 (
                    aret (.val (.int .i64 1)) σ R) (
                    k2 (x3.1, x3.2.1, x3.2.2.1, x3.2.2.2.1, x3.2.2.2.2.2.1, ()) σ)) (
                  k2 (x3.1, x3.2.1, x3.2.2.1, x3.2.2.2.1, x3.2.2.2.2.2.1, ()) σ)))) fun k3 =>
          og (ibin .eql v30 (.val (.int .i64 2))) fun v32 =>
          apick v32 (
            k3 (y1.1, y1.2.1, y1.2.2.1, y1.2.2.2.1, v26, (.val (.bool true)), v30, v32, ()) σ) (
            og (ibin .eql v30 (.val (.int .i64 14))) fun v33 =>
            apick v33 (
              k3 (y1.1, y1.2.1, y1.2.2.1, y1.2.2.2.1, v26, (.val (.bool true)), v30, v33, ()) σ) (
              og (ibin .eql v30 (.val (.int .i64 16))) fun v34 =>
              k3 (y1.1, y1.2.1, y1.2.2.1, y1.2.2.2.1, v26, (.val (.bool true)), v30, v34, ()) σ))) (
      aret (.val (.int .i64 0)) σ R)) (a0, a1, a2, (.val (.int .i64 0)), ()) σ
def x35 : Sx := .lp [0, 1, 2, 7] (.og (.idx 2 (.var 0) (.var 2)) (.og (.fldA 1 (.var 0)) (.og (.lod (.var 0)) (.og (.lenS (.var 0)) (.og (.ibin .lss (.var 7) (.var 0)) (.apick (.var 0) (.og (.idx 2 (.var 5) (.var 7)) (.og (.fldA 1 (.var 0)) (.og (.lod (.var 0)) (.og (.idx 7 (.var 0) (.var 11)) (.jn 3367 [0, 1, 2, 7, 9] (.og (.aun .not (.var 4)) (.apick (.var 0) (.ret (.lit (.val (.int .i64 3)))) (.og (.ibin .add (.var 4) (.lit (.val (.int .i64 1)))) (.jump 0 [(.var 2), (.var 3), (.var 4), (.var 0)])))) (.og (.anil (.var 0)) (.og (.fldA 0 (.var 0)) (.og (.lod (.var 0)) (.jn 26933 [0, 1, 2, 7, 8, 9, 30, 31] (.apick (.var 7) (.ord [0, 1, 2, 3, 4, 5, 6, 7, 8, 9, 10, 11, 12] [0, 0, 0, 0, 8, 24, 56, 0, 128, 384, 896, 2047, 4095] (.og (.anil (.var 4)) (.og (.fldA 1 (.var 0)) (.og (.lod (.var 0)) (.og (.anil (.var 7)) (.og (.fldA 2 (.var 0)) (.og (.lod (.var 0)) (.call 59 [(.var 6), (.var 7), (.var 8), (.var 3), (.var 0)] (.wat [] (.jump 0 [(.var 7), (.var 8), (.var 9), (.var 10), (.var 0)])))))))))) (.og (.ibin .eql (.var 6) (.lit (.val (.int .i64 15)))) (.apick (.var 0) (.ord [0, 1, 2, 3, 4, 5, 6, 7, 8, 9, 10, 11, 12, 13, 14, 15, 16, 17, 18, 19, 20, 21, 22, 23, 24, 25, 26] [0, 0, 0, 0, 8, 24, 56, 0, 128, 384, 896, 2047, 4095, 8191, 8191, 8191, 8191, 73727, 204799, 466943, 8191, 1056767, 3153919, 7348223, 16777215, 33554431, 67108863] (.og (.anil (.var 5)) (.og (.fldA 1 (.var 0)) (.og (.lod (.var 0)) (.og (.anil (.var 8)) (.og (.fldA 2 (.var 0)) (.og (.lod (.var 0)) (.call 59 [(.var 7), (.var 8), (.var 9), (.var 3), (.var 0)] (.wat [] (.gog (.var 0) true false (.ret (.var 8)) (.gog (.var 1) true false (.ret (.var 10)) (.gog (.var 2) true false (.ret (.var 12)) (.gog (.var 3) true false (.ret (.var 15)) (.gog (.var 4) true false (.anil (.var 0)) (.gog (.var 5) true false (.fldA 3 (.var 0)) (.gog (.var 6) true false (.lod (.var 0)) (.gog (.var 7) true false (.ret (.var 19)) (.gog (.var 8) true false (.anil (.var 0)) (.gog (.var 9) true false (.fldA 4 (.var 0)) (.gog (.var 10) true false (.lod (.var 0)) (.gpick (.var 11) (.call 59 [(.var 10), (.var 9), (.var 8), (.var 4), (.var 0)] (.wat [] (.jump 0 [(.var 20), (.var 21), (.var 22), (.var 23), (.var 0)]))) (.jump 0 [(.var 19), (.var 20), (.var 21), (.var 22), (.lit (.val (.bool false)))]) (.no)))))))))))))))))))))) (.og (.ibin .eql (.var 7) (.lit (.val (.int .i64 9)))) (.apick (.var 0) (.og (.ibin .gtr (.var 4) (.lit (.val (.int .i64 0)))) (.apick (.var 0) (.ret (.lit (.val (.int .i64 1)))) (.jump 0 [(.var 3), (.var 4), (.var 5), (.var 6), (.var 8)]))) (.jump 0 [(.var 2), (.var 3), (.var 4), (.var 5), (.var 7)])))))) (.og (.ibin .eql (.var 0) (.lit (.val (.int .i64 2)))) (.apick (.var 0) (.jump 0 [(.var 13), (.var 14), (.var 15), (.var 16), (.var 4), (.lit (.val (.bool true))), (.var 1), (.var 0)]) (.og (.ibin .eql (.var 1) (.lit (.val (.int .i64 14)))) (.apick (.var 0) (.jump 0 [(.var 14), (.var 15), (.var 16), (.var 17), (.var 5), (.lit (.val (.bool true))), (.var 2), (.var 0)]) (.og (.ibin .eql (.var 2) (.lit (.val (.int .i64 16)))) (.jump 0 [(.var 15), (.var 16), (.var 17), (.var 18), (.var 6), (.lit (.val (.bool true))), (.var 3), (.var 0)]))))))))))))))) (.ret (.lit (.val (.int .i64 0)))))))))) [(.var 2), (.var 1), (.var 0), (.lit (.val (.int .i64 0)))]
set_option maxRecDepth 1000000 in
theorem x35_ok : okF TT Tryz.f35 3 x35 = true := by decide +kernel
set_option maxRecDepth 1000000 in
theorem s_spec_l10Locals_ok {a0 a1 a2 : AV} {σ : AH} {R : AEnd → AH → Prop} (h : s_spec_l10Locals a0 a1 a2 σ R) : acall TP fn_spec_l10Locals [a0, a1, a2] σ R :=
  acall_okF (ρ := [a2, a1, a0]) TT_ok Tryz.func35 rfl x35 x35_ok rfl h

/-- loop.example/g00349/spec.l11Turn -/
def s_spec_l11Turn (a0 a1 : AV) (σ : AH) (R : AEnd → AH → Prop) : Prop :=
  lp (X := Tup [0, 1, 5]) (fun R1 y1 σ =>
    og (lenS y1.1) fun v8 =>
    og (ibin .lss y1.2.2.1 v8) fun v9 =>
    apick v9 (
      jn (X := Tup [0, 1, 5]) (fun x2 σ =>
          og (ibin .add x2.2.2.1 (.val (.int .i64 1))) fun v11 =>
          R1 (x2.1, x2.2.1, v11, ()) σ) fun k2 =>
        og (idx 7 y1.1 y1.2.2.1 σ) fun v14 =>
        og (fldA 0 v14) fun v15 =>
        og (lod v15 σ) fun v16 =>
        jn (X := Tup [0, 1, 5, 16, 17]) (fun x3 σ =>
            apick x3.2.2.2.2.1 (
              og (idx 7 x3.1 x3.2.2.1 σ) fun v25 =>
              og (fldA 1 v25) fun v26 =>
              og (lod v26 σ) fun v27 =>
              og (idx 1 x3.2.1 v27 σ) fun v28 =>
              og (lod v28 σ) fun v29 =>
              og (idx 7 x3.1 x3.2.2.1 σ) fun v30 =>
              og (fldA 1 v30) fun v31 =>
              sto 1 v31 v29 σ fun σ =>
              k2 (x3.1, x3.2.1, x3.2.2.1, ()) σ) (
              og (ibin .eql x3.2.2.2.1 (.val (.int .i64 16))) fun v33 =>
              apick v33 (
                og (idx 7 x3.1 x3.2.2.1 σ) fun v39 =>
                og (fldA 3 v39) fun v40 =>
                og (lod v40 σ) fun v41 =>
                og (idx 1 x3.2.1 v41 σ) fun v42 =>
                og (lod v42 σ) fun v43 =>
                og (idx 7 x3.1 x3.2.2.1 σ) fun v44 =>
                og (fldA 3 v44) fun v45 =>
                sto 1 v45 v43 σ fun σ =>
                k2 (x3.1, x3.2.1, x3.2.2.1, ()) σ) (
                k2 (x3.1, x3.2.1, x3.2.2.1, ()) σ))) fun k3 =>
          og (ibin .eql v16 (.val (.int .i64 5))) fun v18 =>
          apick v18 (
            k3 (y1.1, y1.2.1, y1.2.2.1, v16, v18, ()) σ) (
            og (ibin .eql v16 (.val (.int .i64 6))) fun v19 =>
            k3 (y1.1, y1.2.1, y1.2.2.1, v16, v19, ()) σ)) (
      aret y1.1 σ R)) (a0, a1, (.val (.int .i64 0)), ()) σ
def x37 : Sx := .lp [0, 1, 5] (.og (.lenS (.var 0)) (.og (.ibin .lss (.var 3) (.var 0)) (.apick (.var 0) (.jn 211 [0, 1, 5] (.og (.ibin .add (.var 2) (.lit (.val (.int .i64 1)))) (.jump 0 [(.var 1), (.var 2), (.var 0)])) (.og (.idx 7 (.var 2) (.var 4)) (.og (.fldA 0 (.var 0)) (.og (.lod (.var 0)) (.jn 3365 [0, 1, 5, 16, 17] (.apick (.var 4) (.og (.idx 7 (.var 0) (.var 2)) (.og (.fldA 1 (.var 0)) (.og (.lod (.var 0)) (.og (.idx 1 (.var 4) (.var 0)) (.og (.lod (.var 0)) (.og (.idx 7 (.var 5) (.var 7)) (.og (.fldA 1 (.var 0)) (.sto 1 (.var 0) (.var 2) (.jump 0 [(.var 7), (.var 8), (.var 9)]))))))))) (.og (.ibin .eql (.var 3) (.lit (.val (.int .i64 16)))) (.apick (.var 0) (.og (.idx 7 (.var 1) (.var 3)) (.og (.fldA 3 (.var 0)) (.og (.lod (.var 0)) (.og (.idx 1 (.var 5) (.var 0)) (.og (.lod (.var 0)) (.og (.idx 7 (.var 6) (.var 8)) (.og (.fldA 3 (.var 0)) (.sto 1 (.var 0) (.var 2) (.jump 0 [(.var 8), (.var 9), (.var 10)]))))))))) (.jump 0 [(.var 1), (.var 2), (.var 3)])))) (.og (.ibin .eql (.var 0) (.lit (.val (.int .i64 5)))) (.apick (.var 0) (.jump 0 [(.var 6), (.var 7), (.var 8), (.var 1), (.var 0)]) (.og (.ibin .eql (.var 1) (.lit (.val (.int .i64 6)))) (.jump 0 [(.var 7), (.var 8), (.var 9), (.var 2), (.var 0)]))))))))) (.ret (.var 2))))) [(.var 1), (.var 0), (.lit (.val (.int .i64 0)))]
set_option maxRecDepth 1000000 in
theorem x37_ok : okF TT Tryz.f37 2 x37 = true := by decide +kernel
set_option maxRecDepth 1000000 in
theorem s_spec_l11Turn_ok {a0 a1 : AV} {σ : AH} {R : AEnd → AH → Prop} (h : s_spec_l11Turn a0 a1 σ R) : acall TP fn_spec_l11Turn [a0, a1] σ R :=
  acall_okF (ρ := [a1, a0]) TT_ok Tryz.func37 rfl x37 x37_ok rfl h

/-- loop.example/g00349/laws.toOpS -/
def s_laws_toOpS (a0 : AV) (σ : AH) (R : AEnd → AH → Prop) : Prop :=
  og (lenS a0) fun v6 =>
  amake TT ty_LRiiiiisLRiiisEE v6 v6 σ fun v7 σ =>
  lp (X := Tup [0, 3, 4]) (fun R1 y1 σ =>
    og (lenS y1.1) fun v10 =>
    og (ibin .lss y1.2.2.1 v10) fun v11 =>
    apick v11 (
      og (idx 7 y1.1 y1.2.2.1 σ) fun v18 =>
      og (lodA 7 v18 σ) fun v19 =>
      acall TP fn_laws_toOp [v19] σ (onr (fun v20 σ =>
      og (idx 7 y1.2.1 y1.2.2.1 σ) fun v21 =>
      sto 7 v21 v20 σ fun σ =>
      og (ibin .add y1.2.2.1 (.val (.int .i64 1))) fun v13 =>
      R1 (y1.1, y1.2.1, v13, ()) σ) (fun v σ => apan v σ R))) (
      aret y1.2.1 σ R)) (a0, v7, (.val (.int .i64 0)), ()) σ
def x38 : Sx := .og (.lenS (.var 0)) (.mks 44 (.var 0) (.var 0) (.lp [0, 3, 4] (.og (.lenS (.var 0)) (.og (.ibin .lss (.var 3) (.var 0)) (.apick (.var 0) (.og (.idx 7 (.var 2) (.var 4)) (.og (.lodA 7 (.var 0)) (.call 60 [(.var 0)] (.og (.idx 7 (.var 6) (.var 7)) (.sto 7 (.var 0) (.var 1) (.og (.ibin .add (.var 8) (.lit (.val (.int .i64 1)))) (.jump 0 [(.var 7), (.var 8), (.var 0)]))))))) (.ret (.var 3))))) [(.var 2), (.var 0), (.lit (.val (.int .i64 0)))]))
set_option maxRecDepth 1000000 in
theorem x38_ok : okF TT Tryz.f38 1 x38 = true := by decide +kernel
set_option maxRecDepth 1000000 in
theorem s_laws_toOpS_ok {a0 : AV} {σ : AH} {R : AEnd → AH → Prop} (h : s_laws_toOpS a0 σ R) : acall TP fn_laws_toOpS [a0] σ R :=
  acall_okF (ρ := [a0]) TT_ok Tryz.func38 rfl x38 x38_ok rfl h

/-- loop.example/g00349/impl.opsFault -/
def s_impl_opsFault (a0 : AV) (σ : AH) (R : AEnd → AH → Prop) : Prop :=
  og (lenS a0) fun v7 =>
  og (ibin .gtr v7 (.val (.int .i64 60))) fun v8 =>
  apick v8 (
    aret (.val (.int .i64 2)) σ R) (
    og (lenS a0) fun v10 =>
    lp (X := Tup [9, 10, 11]) (fun R1 y1 σ =>
      og (ibin .lss y1.2.2.1 y1.2.1) fun v12 =>
      apick v12 (
        og (idx 2 y1.1 y1.2.2.1 σ) fun v13 =>
        og (lodA 2 v13 σ) fun v14 =>
        new [(.val (.int .i64 0)), (.val (.slice none 0 0))] σ fun v4 σ =>
        sto 2 v4 v14 σ fun σ =>
        frz v4 σ fun f4 σ =>
        og (lodA 2 f4 σ) fun v15 =>
        acall TP fn_impl_blockFault [v15] σ (onr (fun v16 σ =>
        og (ibin .neq v16 (.val (.int .i64 0))) fun v18 =>
        apick v18 (
          aret v16 σ R) (
          og (ibin .add y1.2.2.1 (.val (.int .i64 1))) fun v20 =>
          R1 (y1.1, y1.2.1, v20, ()) σ)) (fun v σ => apan v σ R))) (
        aret (.val (.int .i64 0)) σ R)) (a0, v10, (.val (.int .i64 0)), ()) σ)
def x39 : Sx := .og (.lenS (.var 0)) (.og (.ibin .gtr (.var 0) (.lit (.val (.int .i64 60)))) (.apick (.var 0) (.ret (.lit (.val (.int .i64 2)))) (.og (.lenS (.var 2)) (.lp [9, 10, 11] (.og (.ibin .lss (.var 2) (.var 1)) (.apick (.var 0) (.og (.idx 2 (.var 1) (.var 3)) (.og (.lodA 2 (.var 0)) (.new [(.val (.int .i64 0)), (.val (.slice none 0 0))] (.sto 2 (.var 0) (.var 1) (.frz 6 (.var 0) (.og (.lodA 2 (.var 0)) (.call 61 [(.var 0)] (.og (.ibin .neq (.var 0) (.lit (.val (.int .i64 0)))) (.apick (.var 0) (.ret (.var 1)) (.og (.ibin .add (.var 10) (.lit (.val (.int .i64 1)))) (.jump 0 [(.var 9), (.var 10), (.var 0)]))))))))))) (.ret (.lit (.val (.int .i64 0)))))) [(.var 3), (.var 0), (.lit (.val (.int .i64 0)))]))))
set_option maxRecDepth 1000000 in
theorem x39_ok : okF TT Tryz.f39 1 x39 = true := by decide +kernel
set_option maxRecDepth 1000000 in
theorem s_impl_opsFault_ok {a0 : AV} {σ : AH} {R : AEnd → AH → Prop} (h : s_impl_opsFault a0 σ R) : acall TP fn_impl_opsFault [a0] σ R :=
  acall_okF (ρ := [a0]) TT_ok Tryz.func39 rfl x39 x39_ok rfl h

/-- loop.example/g00349/impl.heightsOf -/
def s_impl_heightsOf (a0 : AV) (σ : AH) (R : AEnd → AH → Prop) : Prop :=
  abox a0 σ fun v1 σ =>
  frz v1 σ fun f1 σ =>
  og (fldA 1 f1) fun v17 =>
  og (lod v17 σ) fun v18 =>
  og (lenS v18) fun v19 =>
  og (ibin .eql v19 (.val (.int .i64 0))) fun v21 =>
  apick v21 (
    aret (.tup [(.val (.slice none 0 0)), (.val (.bool false))]) σ R) (
    og (lodA 2 f1 σ) fun v22 =>
    acall TP fn_impl_targets [v22] σ (onr (fun v23 σ =>
    og (lenS v23) fun v24 =>
    lp (X := Tup [1, 4, 23, 24, 25]) (fun R1 y1 σ =>
      og (ibin .lss y1.2.2.2.2.1 y1.2.2.2.1) fun v26 =>
      apick v26 (
        og (idx 1 y1.2.2.1 y1.2.2.2.2.1 σ) fun v27 =>
        og (lod v27 σ) fun v28 =>
        og (ibin .geq v28 y1.2.1) fun v31 =>
        apick v31 (
          aret (.tup [(.val (.slice none 0 0)), (.val (.bool false))]) σ R) (
          og (ibin .add y1.2.2.2.2.1 (.val (.int .i64 1))) fun v32 =>
          R1 (y1.1, y1.2.1, y1.2.2.1, y1.2.2.2.1, v32, ()) σ)) (
        amake TT ty_Li y1.2.1 y1.2.1 σ fun v34 σ =>
        og (lenS v34) fun v36 =>
        lp (X := Tup [1, 4, 7, 36, 37]) (fun R2 y2 σ =>
          og (ibin .lss y2.2.2.2.2.1 y2.2.2.2.1) fun v38 =>
          apick v38 (
            og (idx 1 y2.2.2.1 y2.2.2.2.2.1 σ) fun v42 =>
            sto 1 v42 (.val (.int .i64 (-1))) σ fun σ =>
            og (ibin .add y2.2.2.2.2.1 (.val (.int .i64 1))) fun v43 =>
            R2 (y2.1, y2.2.1, y2.2.2.1, y2.2.2.2.1, v43, ()) σ) (
            og (idx 1 y2.2.2.1 (.val (.int .i64 0)) σ) fun v45 =>
            sto 1 v45 (.val (.int .i64 0)) σ fun σ =>
            bsl 1 [(.val (.int .i64 0))] 1 [(0, (.val (.int .i64 0)))] σ fun v46 σ =>
            lp (X := Tup [1, 4, 7, 9]) (fun R3 y3 σ =>
              og (lenS y3.2.2.2.1) fun v48 =>
              og (ibin .gtr v48 (.val (.int .i64 0))) fun v49 =>
              apick v49 (
                og (idx 1 y3.2.2.2.1 (.val (.int .i64 0)) σ) fun v51 =>
                og (lod v51 σ) fun v52 =>
                og (slc 1 y3.2.2.2.1 (some (.val (.int .i64 1))) none none σ) fun v54 =>
                og (fldA 1 y3.1) fun v55 =>
                og (lod v55 σ) fun v56 =>
                og (idx 7 v56 v52 σ) fun v58 =>
                og (lodA 7 v58 σ) fun v59 =>
                new [(.val (.int .i64 0)), (.val (.int .i64 0)), (.val (.int .i64 0)), (.val (.int .i64 0)), (.val (.int .i64 0)), (.val (.string ⟨#[]⟩)), (.val (.slice none 0 0))] σ fun v11 σ =>
                sto 7 v11 v59 σ fun σ =>
                frz v11 σ fun f11 σ =>
                og (idx 1 y3.2.2.1 v52 σ) fun v62 =>
                og (lod v62 σ) fun v63 =>
                og (lodA 7 f11 σ) fun v64 =>
                og (lodA 7 f11 σ) fun v67 =>
                og (bslR 1 [(.val (.int .i64 0))] 0 []) fun v70 =>
                acall TP fn_impl_Op_takes [v64] σ (onr (fun v65 σ =>
                (lodA 7 f11 σ = some v67 ∧ lod v62 σ = some v63 ∧ idx 1 y3.2.2.1 v52 σ = some v62 ∧ True) ∧
                og (ibin .sub v63 v65) fun v66 =>
                acall TP fn_impl_Op_puts [v67] σ (onr (fun v68 σ =>
                (lod v62 σ = some v63 ∧ idx 1 y3.2.2.1 v52 σ = some v62 ∧ True) ∧
                og (ibin .add v66 v68) fun v69 =>
                jn (X := Tup [1, 4, 7, 9, 10, 11, 12, 13, 86]) (fun x4 σ =>
                    apick x4.2.2.2.2.2.2.2.2.1 (
                      aret (.tup [(.val (.slice none 0 0)), (.val (.bool false))]) σ R) (
                      jn (X := Tup [1, 4, 7, 9, 11, 12, 13]) (fun x5 σ =>
                          jn (X := Tup [1, 4, 7, 9, 12, 13]) (fun x6 σ =>
                              og (lenS x6.2.2.2.2.2.1) fun v104 =>
                              lp (X := Tup [1, 4, 7, 9, 12, 103, 104, 105]) (fun R7 y7 σ =>
                                og (ibin .lss y7.2.2.2.2.2.2.2.1 y7.2.2.2.2.2.2.1) fun v106 =>
                                apick v106 (
                                  jn (X := Tup [1, 4, 7, 9, 12, 103, 104, 105]) (fun x8 σ =>
                                      og (ibin .add x8.2.2.2.2.2.2.2.1 (.val (.int .i64 1))) fun v142 =>
                                      R7 (x8.1, x8.2.1, x8.2.2.1, x8.2.2.2.1, x8.2.2.2.2.1, x8.2.2.2.2.2.1, x8.2.2.2.2.2.2.1, v142, ()) σ) fun k8 =>
                                    og (idx 1 y7.2.2.2.2.2.1 y7.2.2.2.2.2.2.2.1 σ) fun v107 =>
                                    og (lod v107 σ) fun v108 =>
                                    og (ibin .geq v108 y7.2.1) fun v112 =>
                                    og (gval v112 false false (some y7.2.2.1)) fun v114 =>
                                    og (gval v112 false false (some v108)) fun v115 =>
                                    og (gval v112 false false (idx 1 v114 v115 σ)) fun v116 =>
                                    og (gval v112 false false (lod v116 σ)) fun v117 =>
                                    og (gval v112 false false (ibin .geq v117 (.val (.int .i64 0)))) fun v118 =>
                                    og (gval v112 false false (some v118)) fun v119 =>
                                    og (gval v119 true true (some y7.2.2.1)) fun v120 =>
                                    og (gval v119 true true (some v108)) fun v121 =>
                                    og (gval v119 true true (idx 1 v120 v121 σ)) fun v122 =>
                                    og (gval v119 true true (lod v122 σ)) fun v123 =>
                                    og (gval v119 true true (some y7.2.2.2.2.1)) fun v124 =>
                                    og (gval v119 true true (ibin .neq v123 v124)) fun v125 =>
                                    og (gval v112 false false (pickV v119 v125 (.val (.bool false)))) fun v126 =>
                                    og (pickV v112 (.val (.bool true)) v126) fun v127 =>
                                    apick v127 (
                                      aret (.tup [(.val (.slice none 0 0)), (.val (.bool false))]) σ R) (
                                      og (idx 1 y7.2.2.1 v108 σ) fun v131 =>
                                      og (lod v131 σ) fun v132 =>
                                      og (ibin .lss v132 (.val (.int .i64 0))) fun v133 =>
                                      apick v133 (
                                        bsl 1 [(.val (.int .i64 0))] 1 [(0, v108)] σ fun v139 σ =>
                                        app 1 y7.2.2.2.1 v139 σ fun v140 σ =>
                                        og (idx 1 y7.2.2.1 v108 σ) fun v141 =>
                                        sto 1 v141 y7.2.2.2.2.1 σ fun σ =>
                                        k8 (y7.1, y7.2.1, y7.2.2.1, v140, y7.2.2.2.2.1, y7.2.2.2.2.2.1, y7.2.2.2.2.2.2.1, y7.2.2.2.2.2.2.2.1, ()) σ) (
                                        k8 (y7.1, y7.2.1, y7.2.2.1, y7.2.2.2.1, y7.2.2.2.2.1, y7.2.2.2.2.2.1, y7.2.2.2.2.2.2.1, y7.2.2.2.2.2.2.2.1, ()) σ))) (
                                  R3 (y7.1, y7.2.1, y7.2.2.1, y7.2.2.2.1, ()) σ)) (x6.1, x6.2.1, x6.2.2.1, x6.2.2.2.1, x6.2.2.2.2.1, x6.2.2.2.2.2.1, v104, (.val (.int .i64 0)), ()) σ) fun k6 =>
                            acall TP fn_impl_Op_target [x5.2.2.2.2.1] σ (onr (fun v94 σ =>
                            abin TT .neq ty_pointer77 v94 (.val (.pointer none)) fun v96 =>
                            apick v96 (
                              og (anil v94) fun v99 =>
                              og (lod v99 σ) fun v100 =>
                              bsl 1 [(.val (.int .i64 0))] 1 [(0, v100)] σ fun v101 σ =>
                              app 1 x5.2.2.2.2.2.2.1 v101 σ fun v102 σ =>
                              k6 (x5.1, x5.2.1, x5.2.2.1, x5.2.2.2.1, x5.2.2.2.2.2.1, v102, ()) σ) (
                              k6 (x5.1, x5.2.1, x5.2.2.1, x5.2.2.2.1, x5.2.2.2.2.2.1, x5.2.2.2.2.2.2.1, ()) σ)) (fun v σ => apan v σ R))) fun k5 =>
                        og (lodA 7 x4.2.2.2.2.2.1 σ) fun v87 =>
                        acall TP fn_impl_Op_goesOn [v87] σ (onr (fun v88 σ =>
                        apick v88 (
                          og (ibin .add x4.2.2.2.2.1 (.val (.int .i64 1))) fun v91 =>
                          bsl 1 [(.val (.int .i64 0))] 1 [(0, v91)] σ fun v92 σ =>
                          app 1 x4.2.2.2.2.2.2.2.1 v92 σ fun v93 σ =>
                          k5 (x4.1, x4.2.1, x4.2.2.1, x4.2.2.2.1, x4.2.2.2.2.2.1, x4.2.2.2.2.2.2.1, v93, ()) σ) (
                          k5 (x4.1, x4.2.1, x4.2.2.1, x4.2.2.2.1, x4.2.2.2.2.2.1, x4.2.2.2.2.2.2.1, x4.2.2.2.2.2.2.2.1, ()) σ)) (fun v σ => apan v σ R)))) fun k4 =>
                  og (idx 1 y3.2.2.1 v52 σ) fun v73 =>
                  og (lod v73 σ) fun v74 =>
                  og (lodA 7 f11 σ) fun v75 =>
                  acall TP fn_impl_Op_takes [v75] σ (onr (fun v76 σ =>
                  (lod v73 σ = some v74 ∧ idx 1 y3.2.2.1 v52 σ = some v73 ∧ True) ∧
                  og (ibin .lss v74 v76) fun v77 =>
                  og (gval v77 false false (lodA 7 f11 σ)) fun v79 =>
                  og (gval v77 false false (some y3.2.2.1)) fun v80 =>
                  og (gval v77 false false (some v52)) fun v81 =>
                  og (gval v77 false false (idx 1 v80 v81 σ)) fun v82 =>
                  og (gval v77 false false (lod v82 σ)) fun v83 =>
                  gpick v77 (
                    k4 (y3.1, y3.2.1, y3.2.2.1, v54, v52, f11, v69, v70, (.val (.bool true)), ()) σ) (
                    acall TP fn_impl_Op_ends [v79, v83] σ (onr (fun v84 σ =>
                    (True) ∧
                    og (aun .not v84) fun v85 =>
                    k4 (y3.1, y3.2.1, y3.2.2.1, v54, v52, f11, v69, v70, v85, ()) σ) (fun v σ => apan v σ R))) (False)) (fun v σ => apan v σ R))) (fun v σ => apan v σ R))) (fun v σ => apan v σ R))) (
                aret (.tup [y3.2.2.1, (.val (.bool true))]) σ R)) (y2.1, y2.2.1, y2.2.2.1, v46, ()) σ)) (y1.1, y1.2.1, v34, v36, (.val (.int .i64 0)), ()) σ)) (f1, v19, v23, v24, (.val (.int .i64 0)), ()) σ) (fun v σ => apan v σ R)))
def x40 : Sx := .box (.var 0) (.frz 1 (.var 0) (.og (.fldA 1 (.var 0)) (.og (.lod (.var 0)) (.og (.lenS (.var 0)) (.og (.ibin .eql (.var 0) (.lit (.val (.int .i64 0)))) (.apick (.var 0) (.rets [(.lit (.val (.slice none 0 0))), (.lit (.val (.bool false)))]) (.og (.lodA 2 (.var 4)) (.call 53 [(.var 0)] (.og (.lenS (.var 0)) (.lp [1, 4, 23, 24, 25] (.og (.ibin .lss (.var 4) (.var 3)) (.apick (.var 0) (.og (.idx 1 (.var 3) (.var 5)) (.og (.lod (.var 0)) (.og (.ibin .geq (.var 0) (.var 4)) (.apick (.var 0) (.rets [(.lit (.val (.slice none 0 0))), (.lit (.val (.bool false)))]) (.og (.ibin .add (.var 8) (.lit (.val (.int .i64 1)))) (.jump 0 [(.var 5), (.var 6), (.var 7), (.var 8), (.var 0)])))))) (.mks 40 (.var 2) (.var 2) (.og (.lenS (.var 0)) (.lp [1, 4, 7, 36, 37] (.og (.ibin .lss (.var 4) (.var 3)) (.apick (.var 0) (.og (.idx 1 (.var 3) (.var 5)) (.sto 1 (.var 0) (.lit (.val (.int .i64 (-1)))) (.og (.ibin .add (.var 6) (.lit (.val (.int .i64 1)))) (.jump 0 [(.var 3), (.var 4), (.var 5), (.var 6), (.var 0)])))) (.og (.idx 1 (.var 3) (.lit (.val (.int .i64 0)))) (.sto 1 (.var 0) (.lit (.val (.int .i64 0))) (.bsl 1 [(.val (.int .i64 0))] 1 [(0, (.lit (.val (.int .i64 0))))] (.lp [1, 4, 7, 9] (.og (.lenS (.var 3)) (.og (.ibin .gtr (.var 0) (.lit (.val (.int .i64 0)))) (.apick (.var 0) (.og (.idx 1 (.var 5) (.lit (.val (.int .i64 0)))) (.og (.lod (.var 0)) (.og (.slc 1 (.var 7) (some (.lit (.val (.int .i64 1)))) none none) (.og (.fldA 1 (.var 5)) (.og (.lod (.var 0)) (.og (.idx 7 (.var 0) (.var 3)) (.og (.lodA 7 (.var 0)) (.new [(.val (.int .i64 0)), (.val (.int .i64 0)), (.val (.int .i64 0)), (.val (.int .i64 0)), (.val (.int .i64 0)), (.val (.string ⟨#[]⟩)), (.val (.slice none 0 0))] (.sto 7 (.var 0) (.var 1) (.frz 13 (.var 0) (.ord [0, 1, 2, 3, 4, 7, 10, 5, 6, 8, 9, 11, 12] [0, 0, 3, 7, 0, 16, 63, 0, 176, 511, 0, 1023, 4095] (.og (.idx 1 (.var 13) (.var 7)) (.og (.lod (.var 0)) (.og (.lodA 7 (.var 2)) (.og (.lodA 7 (.var 3)) (.og (.bslR 1 [(.val (.int .i64 0))] 0 []) (.call 62 [(.var 2)] (.wat [⟨none, (.lodA 7 (.var 6)), (.var 2)⟩, ⟨none, (.lod (.var 5)), (.var 4)⟩, ⟨none, (.idx 1 (.var 19) (.var 13)), (.var 5)⟩] (.og (.ibin .sub (.var 4) (.var 0)) (.call 63 [(.var 3)] (.wat [⟨none, (.lod (.var 7)), (.var 6)⟩, ⟨none, (.idx 1 (.var 21) (.var 15)), (.var 7)⟩] (.og (.ibin .add (.var 1) (.var 0)) (.jn 1045693 [1, 4, 7, 9, 10, 11, 12, 13, 86] (.apick (.var 8) (.rets [(.lit (.val (.slice none 0 0))), (.lit (.val (.bool false)))]) (.jn 1045695 [1, 4, 7, 9, 11, 12, 13] (.jn 2091391 [1, 4, 7, 9, 12, 13] (.og (.lenS (.var 5)) (.lp [1, 4, 7, 9, 12, 103, 104, 105] (.og (.ibin .lss (.var 7) (.var 6)) (.apick (.var 0) (.jn 133849063 [1, 4, 7, 9, 12, 103, 104, 105] (.og (.ibin .add (.var 7) (.lit (.val (.int .i64 1)))) (.jump 0 [(.var 1), (.var 2), (.var 3), (.var 4), (.var 5), (.var 6), (.var 7), (.var 0)])) (.og (.idx 1 (.var 6) (.var 8)) (.og (.lod (.var 0)) (.og (.ibin .geq (.var 0) (.var 4)) (.gog (.var 0) false false (.ret (.var 6)) (.gog (.var 1) false false (.ret (.var 2)) (.gog (.var 2) false false (.idx 1 (.var 1) (.var 0)) (.gog (.var 3) false false (.lod (.var 0)) (.gog (.var 4) false false (.ibin .geq (.var 0) (.lit (.val (.int .i64 0)))) (.gog (.var 5) false false (.ret (.var 0)) (.gog (.var 0) true true (.ret (.var 12)) (.gog (.var 1) true true (.ret (.var 8)) (.gog (.var 2) true true (.idx 1 (.var 1) (.var 0)) (.gog (.var 3) true true (.lod (.var 0)) (.gog (.var 4) true true (.ret (.var 18)) (.gog (.var 5) true true (.ibin .neq (.var 1) (.var 0)) (.gog (.var 12) false false (.pickV (.var 6) (.var 0) (.lit (.val (.bool false)))) (.og (.pickV (.var 13) (.lit (.val (.bool true))) (.var 0)) (.apick (.var 0) (.rets [(.lit (.val (.slice none 0 0))), (.lit (.val (.bool false)))]) (.og (.idx 1 (.var 20) (.var 15)) (.og (.lod (.var 0)) (.og (.ibin .lss (.var 0) (.lit (.val (.int .i64 0)))) (.apick (.var 0) (.bsl 1 [(.val (.int .i64 0))] 1 [(0, (.var 18))] (.app 1 (.var 25) (.var 0) (.og (.idx 1 (.var 25) (.var 20)) (.sto 1 (.var 0) (.var 28) (.jump 0 [(.var 24), (.var 25), (.var 26), (.var 1), (.var 28), (.var 29), (.var 30), (.var 31)]))))) (.jump 0 [(.var 21), (.var 22), (.var 23), (.var 24), (.var 25), (.var 26), (.var 27), (.var 28)])))))))))))))))))))))))) (.jump 1 [(.var 1), (.var 2), (.var 3), (.var 4)]))) [(.var 1), (.var 2), (.var 3), (.var 4), (.var 5), (.var 6), (.var 0), (.lit (.val (.int .i64 0)))])) (.call 45 [(.var 4)] (.cmp .neq 77 (.var 0) (.lit (.val (.pointer none))) (.apick (.var 0) (.og (.anil (.var 1)) (.og (.lod (.var 0)) (.bsl 1 [(.val (.int .i64 0))] 1 [(0, (.var 0))] (.app 1 (.var 11) (.var 0) (.jump 0 [(.var 6), (.var 7), (.var 8), (.var 9), (.var 11), (.var 0)]))))) (.jump 0 [(.var 2), (.var 3), (.var 4), (.var 5), (.var 7), (.var 8)]))))) (.og (.lodA 7 (.var 5)) (.call 65 [(.var 0)] (.apick (.var 0) (.og (.ibin .add (.var 6) (.lit (.val (.int .i64 1)))) (.bsl 1 [(.val (.int .i64 0))] 1 [(0, (.var 0))] (.app 1 (.var 11) (.var 0) (.jump 0 [(.var 5), (.var 6), (.var 7), (.var 8), (.var 10), (.var 11), (.var 0)])))) (.jump 0 [(.var 2), (.var 3), (.var 4), (.var 5), (.var 7), (.var 8), (.var 9)])))))) (.ord [0, 1, 2, 3, 4, 5, 6, 7, 8, 9, 10, 11, 12, 13, 14, 15] [0, 0, 3, 7, 0, 16, 63, 127, 255, 255, 255, 1791, 3839, 8191, 16383, 32767] (.og (.idx 1 (.var 22) (.var 16)) (.og (.lod (.var 0)) (.og (.lodA 7 (.var 11)) (.call 62 [(.var 0)] (.wat [⟨none, (.lod (.var 3)), (.var 2)⟩, ⟨none, (.idx 1 (.var 26) (.var 20)), (.var 3)⟩] (.og (.ibin .lss (.var 2) (.var 0)) (.gog (.var 0) false false (.lodA 7 (.var 14)) (.gog (.var 1) false false (.ret (.var 28)) (.gog (.var 2) false false (.ret (.var 23)) (.gog (.var 3) false false (.idx 1 (.var 1) (.var 0)) (.gog (.var 4) false false (.lod (.var 0)) (.gpick (.var 5) (.jump 0 [(.var 30), (.var 31), (.var 32), (.var 25), (.var 26), (.var 19), (.var 10), (.var 14), (.lit (.val (.bool true)))]) (.call 64 [(.var 4), (.var 0)] (.wat [] (.og (.aun .not (.var 0)) (.jump 0 [(.var 32), (.var 33), (.var 34), (.var 27), (.var 28), (.var 21), (.var 12), (.var 16), (.var 0)])))) (.no))))))))))))))))))))))))))))))))))))) (.rets [(.var 4), (.lit (.val (.bool true)))])))) [(.var 3), (.var 4), (.var 5), (.var 0)])))))) [(.var 3), (.var 4), (.var 1), (.var 0), (.lit (.val (.int .i64 0)))]))))) [(.var 7), (.var 4), (.var 1), (.var 0), (.lit (.val (.int .i64 0)))]))))))))))
set_option maxRecDepth 1000000 in
theorem x40_ok : okF TT Tryz.f40 1 x40 = true := by decide +kernel
set_option maxRecDepth 1000000 in
theorem s_impl_heightsOf_ok {a0 : AV} {σ : AH} {R : AEnd → AH → Prop} (h : s_impl_heightsOf a0 σ R) : acall TP fn_impl_heightsOf [a0] σ R :=
  acall_okF (ρ := [a0]) TT_ok Tryz.func40 rfl x40 x40_ok rfl h

/-- loop.example/g00349/impl.around -/
def s_impl_around (a0 : AV) (σ : AH) (R : AEnd → AH → Prop) : Prop :=
  og (lenS a0) fun v13 =>
  amake TT ty_Li v13 v13 σ fun v14 σ =>
  og (lenS v14) fun v16 =>
  lp (X := Tup [0, 4, 16, 17]) (fun R1 y1 σ =>
    og (ibin .lss y1.2.2.2.1 y1.2.2.1) fun v18 =>
    apick v18 (
      og (idx 1 y1.2.1 y1.2.2.2.1 σ) fun v22 =>
      sto 1 v22 (.val (.int .i64 (-1))) σ fun σ =>
      og (ibin .add y1.2.2.2.1 (.val (.int .i64 1))) fun v23 =>
      R1 (y1.1, y1.2.1, y1.2.2.1, v23, ()) σ) (
      og (lenS y1.1) fun v25 =>
      lp (X := Tup [0, 4, 24, 25, 26]) (fun R2 y2 σ =>
        og (ibin .lss y2.2.2.2.2.1 y2.2.2.2.1) fun v27 =>
        apick v27 (
          og (idx 2 y2.2.2.1 y2.2.2.2.2.1 σ) fun v29 =>
          og (lodA 2 v29 σ) fun v30 =>
          new [(.val (.int .i64 0)), (.val (.slice none 0 0))] σ fun v7 σ =>
          sto 2 v7 v30 σ fun σ =>
          frz v7 σ fun f7 σ =>
          og (fldA 1 f7) fun v31 =>
          og (lod v31 σ) fun v32 =>
          og (lenS v32) fun v33 =>
          lp (X := Tup [0, 4, 6, 24, 25, 26, 32, 33, 34]) (fun R3 y3 σ =>
            og (ibin .lss y3.2.2.2.2.2.2.2.2.1 y3.2.2.2.2.2.2.2.1) fun v35 =>
            apick v35 (
              jn (X := Tup [0, 4, 6, 24, 25, 26, 32, 33, 34]) (fun x4 σ =>
                  og (ibin .add x4.2.2.2.2.2.2.2.2.1 (.val (.int .i64 1))) fun v65 =>
                  R3 (x4.1, x4.2.1, x4.2.2.1, x4.2.2.2.1, x4.2.2.2.2.1, x4.2.2.2.2.2.1, x4.2.2.2.2.2.2.1, x4.2.2.2.2.2.2.2.1, v65, ()) σ) fun k4 =>
                og (idx 7 y3.2.2.2.2.2.2.1 y3.2.2.2.2.2.2.2.2.1 σ) fun v36 =>
                og (lodA 7 v36 σ) fun v37 =>
                new [(.val (.int .i64 0)), (.val (.int .i64 0)), (.val (.int .i64 0)), (.val (.int .i64 0)), (.val (.int .i64 0)), (.val (.string ⟨#[]⟩)), (.val (.slice none 0 0))] σ fun v9 σ =>
                sto 7 v9 v37 σ fun σ =>
                frz v9 σ fun f9 σ =>
                og (fldA 0 f9) fun v38 =>
                og (lod v38 σ) fun v39 =>
                og (ibin .neq v39 (.val (.int .i64 4))) fun v40 =>
                apick v40 (
                  k4 (y3.1, y3.2.1, y3.2.2.1, y3.2.2.2.1, y3.2.2.2.2.1, y3.2.2.2.2.2.1, y3.2.2.2.2.2.2.1, y3.2.2.2.2.2.2.2.1, y3.2.2.2.2.2.2.2.2.1, ()) σ) (
                  og (fldA 1 f9) fun v41 =>
                  og (lod v41 σ) fun v42 =>
                  og (ibin .leq v42 y3.2.2.1) fun v44 =>
                  og (gval v44 false false (fldA 1 f9)) fun v46 =>
                  og (gval v44 false false (lod v46 σ)) fun v47 =>
                  og (gval v44 false false (some y3.1)) fun v48 =>
                  og (gval v44 false false (lenS v48)) fun v49 =>
                  og (gval v44 false false (ibin .geq v47 v49)) fun v50 =>
                  og (pickV v44 (.val (.bool true)) v50) fun v51 =>
                  og (gval v51 false false (some y3.2.1)) fun v53 =>
                  og (gval v51 false false (fldA 1 f9)) fun v54 =>
                  og (gval v51 false false (lod v54 σ)) fun v55 =>
                  og (gval v51 false false (idx 1 v53 v55 σ)) fun v56 =>
                  og (gval v51 false false (lod v56 σ)) fun v57 =>
                  og (gval v51 false false (ibin .geq v57 (.val (.int .i64 0)))) fun v58 =>
                  og (pickV v51 (.val (.bool true)) v58) fun v59 =>
                  apick v59 (
                    aret (.tup [(.val (.slice none 0 0)), (.val (.bool false))]) σ R) (
                    og (fldA 1 f9) fun v61 =>
                    og (lod v61 σ) fun v62 =>
                    og (idx 1 y3.2.1 v62 σ) fun v64 =>
                    sto 1 v64 y3.2.2.1 σ fun σ =>
                    k4 (y3.1, y3.2.1, y3.2.2.1, y3.2.2.2.1, y3.2.2.2.2.1, y3.2.2.2.2.2.1, y3.2.2.2.2.2.2.1, y3.2.2.2.2.2.2.2.1, y3.2.2.2.2.2.2.2.2.1, ()) σ))) (
              og (ibin .add y3.2.2.2.2.2.1 (.val (.int .i64 1))) fun v66 =>
              R2 (y3.1, y3.2.1, y3.2.2.2.1, y3.2.2.2.2.1, v66, ()) σ)) (y2.1, y2.2.1, y2.2.2.2.2.1, y2.2.2.1, y2.2.2.2.1, y2.2.2.2.2.1, v32, v33, (.val (.int .i64 0)), ()) σ) (
          og (slc 1 y2.2.1 (some (.val (.int .i64 1))) none none σ) fun v68 =>
          og (lenS v68) fun v69 =>
          lp (X := Tup [4, 68, 69, 70]) (fun R5 y5 σ =>
            og (ibin .lss y5.2.2.2.1 y5.2.2.1) fun v71 =>
            apick v71 (
              og (idx 1 y5.2.1 y5.2.2.2.1 σ) fun v72 =>
              og (lod v72 σ) fun v73 =>
              og (ibin .lss v73 (.val (.int .i64 0))) fun v75 =>
              apick v75 (
                aret (.tup [(.val (.slice none 0 0)), (.val (.bool false))]) σ R) (
                og (ibin .add y5.2.2.2.1 (.val (.int .i64 1))) fun v76 =>
                R5 (y5.1, y5.2.1, y5.2.2.1, v76, ()) σ)) (
              aret (.tup [y5.1, (.val (.bool true))]) σ R)) (y2.2.1, v68, v69, (.val (.int .i64 0)), ()) σ)) (y1.1, y1.2.1, y1.1, v25, (.val (.int .i64 0)), ()) σ)) (a0, v14, v16, (.val (.int .i64 0)), ()) σ
def x41 : Sx := .og (.lenS (.var 0)) (.mks 40 (.var 0) (.var 0) (.og (.lenS (.var 0)) (.lp [0, 4, 16, 17] (.og (.ibin .lss (.var 3) (.var 2)) (.apick (.var 0) (.og (.idx 1 (.var 2) (.var 4)) (.sto 1 (.var 0) (.lit (.val (.int .i64 (-1)))) (.og (.ibin .add (.var 5) (.lit (.val (.int .i64 1)))) (.jump 0 [(.var 3), (.var 4), (.var 5), (.var 0)])))) (.og (.lenS (.var 1)) (.lp [0, 4, 24, 25, 26] (.og (.ibin .lss (.var 4) (.var 3)) (.apick (.var 0) (.og (.idx 2 (.var 3) (.var 5)) (.og (.lodA 2 (.var 0)) (.new [(.val (.int .i64 0)), (.val (.slice none 0 0))] (.sto 2 (.var 0) (.var 1) (.frz 8 (.var 0) (.og (.fldA 1 (.var 0)) (.og (.lod (.var 0)) (.og (.lenS (.var 0)) (.lp [0, 4, 6, 24, 25, 26, 32, 33, 34] (.og (.ibin .lss (.var 8) (.var 7)) (.apick (.var 0) (.jn 501351 [0, 4, 6, 24, 25, 26, 32, 33, 34] (.og (.ibin .add (.var 8) (.lit (.val (.int .i64 1)))) (.jump 0 [(.var 1), (.var 2), (.var 3), (.var 4), (.var 5), (.var 6), (.var 7), (.var 8), (.var 0)])) (.og (.idx 7 (.var 7) (.var 9)) (.og (.lodA 7 (.var 0)) (.new [(.val (.int .i64 0)), (.val (.int .i64 0)), (.val (.int .i64 0)), (.val (.int .i64 0)), (.val (.int .i64 0)), (.val (.string ⟨#[]⟩)), (.val (.slice none 0 0))] (.sto 7 (.var 0) (.var 1) (.frz 12 (.var 0) (.og (.fldA 0 (.var 0)) (.og (.lod (.var 0)) (.og (.ibin .neq (.var 0) (.lit (.val (.int .i64 4)))) (.apick (.var 0) (.jump 0 [(.var 8), (.var 9), (.var 10), (.var 11), (.var 12), (.var 13), (.var 14), (.var 15), (.var 16)]) (.og (.fldA 1 (.var 3)) (.og (.lod (.var 0)) (.og (.ibin .leq (.var 0) (.var 12)) (.gog (.var 0) false false (.fldA 1 (.var 6)) (.gog (.var 1) false false (.lod (.var 0)) (.gog (.var 2) false false (.ret (.var 13)) (.gog (.var 3) false false (.lenS (.var 0)) (.gog (.var 4) false false (.ibin .geq (.var 2) (.var 0)) (.og (.pickV (.var 5) (.lit (.val (.bool true))) (.var 0)) (.gog (.var 0) false false (.ret (.var 18)) (.gog (.var 1) false false (.fldA 1 (.var 13)) (.gog (.var 2) false false (.lod (.var 0)) (.gog (.var 3) false false (.idx 1 (.var 2) (.var 0)) (.gog (.var 4) false false (.lod (.var 0)) (.gog (.var 5) false false (.ibin .geq (.var 0) (.lit (.val (.int .i64 0)))) (.og (.pickV (.var 6) (.lit (.val (.bool true))) (.var 0)) (.apick (.var 0) (.rets [(.lit (.val (.slice none 0 0))), (.lit (.val (.bool false)))]) (.og (.fldA 1 (.var 19)) (.og (.lod (.var 0)) (.og (.idx 1 (.var 27) (.var 0)) (.sto 1 (.var 0) (.var 29) (.jump 0 [(.var 27), (.var 28), (.var 29), (.var 30), (.var 31), (.var 32), (.var 33), (.var 34), (.var 35)])))))))))))))))))))))))))))))))) (.og (.ibin .add (.var 6) (.lit (.val (.int .i64 1)))) (.jump 1 [(.var 2), (.var 3), (.var 5), (.var 6), (.var 0)])))) [(.var 8), (.var 9), (.var 12), (.var 10), (.var 11), (.var 12), (.var 1), (.var 0), (.lit (.val (.int .i64 0)))]))))))))) (.og (.slc 1 (.var 2) (some (.lit (.val (.int .i64 1)))) none none) (.og (.lenS (.var 0)) (.lp [4, 68, 69, 70] (.og (.ibin .lss (.var 3) (.var 2)) (.apick (.var 0) (.og (.idx 1 (.var 2) (.var 4)) (.og (.lod (.var 0)) (.og (.ibin .lss (.var 0) (.lit (.val (.int .i64 0)))) (.apick (.var 0) (.rets [(.lit (.val (.slice none 0 0))), (.lit (.val (.bool false)))]) (.og (.ibin .add (.var 7) (.lit (.val (.int .i64 1)))) (.jump 0 [(.var 5), (.var 6), (.var 7), (.var 0)])))))) (.rets [(.var 1), (.lit (.val (.bool true)))]))) [(.var 4), (.var 1), (.var 0), (.lit (.val (.int .i64 0)))]))))) [(.var 2), (.var 3), (.var 2), (.var 0), (.lit (.val (.int .i64 0)))])))) [(.var 3), (.var 1), (.var 0), (.lit (.val (.int .i64 0)))])))
set_option maxRecDepth 1000000 in
theorem x41_ok : okF TT Tryz.f41 1 x41 = true := by decide +kernel
set_option maxRecDepth 1000000 in
theorem s_impl_around_ok {a0 : AV} {σ : AH} {R : AEnd → AH → Prop} (h : s_impl_around a0 σ R) : acall TP fn_impl_around [a0] σ R :=
  acall_okF (ρ := [a0]) TT_ok Tryz.func41 rfl x41 x41_ok rfl h

/-- (loop.example/g00349/impl.Op).localsIn -/
def s_impl_Op_localsIn (a0 : AV) (σ : AH) (R : AEnd → AH → Prop) : Prop :=
  abox a0 σ fun v1 σ =>
  frz v1 σ fun f1 σ =>
  og (fldA 0 f1) fun v3 =>
  og (lod v3 σ) fun v4 =>
  jn (X := Tup [1, 4, 5]) (fun x1 σ =>
      apick x1.2.2.1 (
        og (fldA 1 x1.1) fun v9 =>
        og (lod v9 σ) fun v10 =>
        og (fldA 2 x1.1) fun v11 =>
        og (lod v11 σ) fun v12 =>
        og (bld [(.val (.int .i64 0)), (.val (.int .i64 0))] [(0, 1), (1, 1)] [(0, v10), (1, v12)]) fun v13 =>
        bsl 2 [(.val (.int .i64 0)), (.val (.int .i64 0))] 1 [(0, v13)] σ fun v14 σ =>
        aret v14 σ R) (
        og (ibin .eql x1.2.1 (.val (.int .i64 15))) fun v16 =>
        apick v16 (
          og (fldA 1 x1.1) fun v17 =>
          og (lod v17 σ) fun v18 =>
          og (fldA 2 x1.1) fun v19 =>
          og (lod v19 σ) fun v20 =>
          og (bld [(.val (.int .i64 0)), (.val (.int .i64 0))] [(0, 1), (1, 1)] [(0, v18), (1, v20)]) fun v21 =>
          og (fldA 3 x1.1) fun v22 =>
          og (lod v22 σ) fun v23 =>
          og (fldA 4 x1.1) fun v24 =>
          og (lod v24 σ) fun v25 =>
          og (bld [(.val (.int .i64 0)), (.val (.int .i64 0))] [(0, 1), (1, 1)] [(0, v23), (1, v25)]) fun v26 =>
          bsl 2 [(.val (.int .i64 0)), (.val (.int .i64 0))] 2 [(0, v21), (1, v26)] σ fun v27 σ =>
          aret v27 σ R) (
          aret (.val (.slice none 0 0)) σ R))) fun k1 =>
    og (ibin .eql v4 (.val (.int .i64 2))) fun v6 =>
    apick v6 (
      k1 (f1, v4, v6, ()) σ) (
      og (ibin .eql v4 (.val (.int .i64 14))) fun v7 =>
      apick v7 (
        k1 (f1, v4, v7, ()) σ) (
        og (ibin .eql v4 (.val (.int .i64 16))) fun v8 =>
        k1 (f1, v4, v8, ()) σ))
def x42 : Sx := .box (.var 0) (.frz 1 (.var 0) (.og (.fldA 0 (.var 0)) (.og (.lod (.var 0)) (.jn 53 [1, 4, 5] (.apick (.var 2) (.og (.fldA 1 (.var 0)) (.og (.lod (.var 0)) (.og (.fldA 2 (.var 2)) (.og (.lod (.var 0)) (.og (.bld [(.val (.int .i64 0)), (.val (.int .i64 0))] [(0, 1), (1, 1)] [(0, (.var 2)), (1, (.var 0))]) (.bsl 2 [(.val (.int .i64 0)), (.val (.int .i64 0))] 1 [(0, (.var 0))] (.ret (.var 0)))))))) (.og (.ibin .eql (.var 1) (.lit (.val (.int .i64 15)))) (.apick (.var 0) (.og (.fldA 1 (.var 1)) (.og (.lod (.var 0)) (.og (.fldA 2 (.var 3)) (.og (.lod (.var 0)) (.og (.bld [(.val (.int .i64 0)), (.val (.int .i64 0))] [(0, 1), (1, 1)] [(0, (.var 2)), (1, (.var 0))]) (.og (.fldA 3 (.var 6)) (.og (.lod (.var 0)) (.og (.fldA 4 (.var 8)) (.og (.lod (.var 0)) (.og (.bld [(.val (.int .i64 0)), (.val (.int .i64 0))] [(0, 1), (1, 1)] [(0, (.var 2)), (1, (.var 0))]) (.bsl 2 [(.val (.int .i64 0)), (.val (.int .i64 0))] 2 [(0, (.var 5)), (1, (.var 0))] (.ret (.var 0))))))))))))) (.ret (.lit (.val (.slice none 0 0))))))) (.og (.ibin .eql (.var 0) (.lit (.val (.int .i64 2)))) (.apick (.var 0) (.jump 0 [(.var 3), (.var 1), (.var 0)]) (.og (.ibin .eql (.var 1) (.lit (.val (.int .i64 14)))) (.apick (.var 0) (.jump 0 [(.var 4), (.var 2), (.var 0)]) (.og (.ibin .eql (.var 2) (.lit (.val (.int .i64 16)))) (.jump 0 [(.var 5), (.var 3), (.var 0)]))))))))))
set_option maxRecDepth 1000000 in
theorem x42_ok : okF TT Tryz.f42 1 x42 = true := by decide +kernel
set_option maxRecDepth 1000000 in
theorem s_impl_Op_localsIn_ok {a0 : AV} {σ : AH} {R : AEnd → AH → Prop} (h : s_impl_Op_localsIn a0 σ R) : acall TP fn_impl_Op_localsIn [a0] σ R :=
  acall_okF (ρ := [a0]) TT_ok Tryz.func42 rfl x42 x42_ok rfl h

/-- loop.example/g00349/impl.isLocal -/
def s_impl_isLocal (a0 a1 a2 a3 a4 : AV) (σ : AH) (R : AEnd → AH → Prop) : Prop :=
  lp (X := Tup [0, 1, 3, 4, 11]) (fun R1 y1 σ =>
    og (ibin .gtr y1.2.2.1 (.val (.int .i64 0))) fun v14 =>
    og (gval v14 true false (some y1.2.2.2.2.1)) fun v16 =>
    og (gval v14 true false (ibin .gtr v16 (.val (.int .i64 0)))) fun v17 =>
    og (pickV v14 v17 (.val (.bool false))) fun v18 =>
    apick v18 (
      og (idx 1 y1.2.1 y1.2.2.2.2.1 σ) fun v23 =>
      og (lod v23 σ) fun v24 =>
      og (ibin .sub y1.2.2.1 (.val (.int .i64 1))) fun v20 =>
      R1 (y1.1, y1.2.1, v20, y1.2.2.2.1, v24, ()) σ) (
      og (ibin .gtr y1.2.2.2.2.1 (.val (.int .i64 0))) fun v26 =>
      og (gval v26 true false (some y1.2.2.2.1)) fun v28 =>
      og (gval v26 true false (some y1.1)) fun v29 =>
      og (gval v26 true false (some y1.2.2.2.2.1)) fun v30 =>
      og (gval v26 true false (idx 2 v29 v30 σ)) fun v31 =>
      og (gval v26 true false (fldA 0 v31)) fun v32 =>
      og (gval v26 true false (lod v32 σ)) fun v33 =>
      og (gval v26 true false (ibin .lss v28 v33)) fun v34 =>
      og (pickV v26 v34 (.val (.bool false))) fun v35 =>
      aret v35 σ R)) (a0, a1, a3, a4, a2, ()) σ
def x43 : Sx := .lp [0, 1, 3, 4, 11] (.og (.ibin .gtr (.var 2) (.lit (.val (.int .i64 0)))) (.gog (.var 0) true false (.ret (.var 5)) (.gog (.var 1) true false (.ibin .gtr (.var 0) (.lit (.val (.int .i64 0)))) (.og (.pickV (.var 2) (.var 0) (.lit (.val (.bool false)))) (.apick (.var 0) (.og (.idx 1 (.var 5) (.var 8)) (.og (.lod (.var 0)) (.og (.ibin .sub (.var 8) (.lit (.val (.int .i64 1)))) (.jump 0 [(.var 7), (.var 8), (.var 0), (.var 10), (.var 1)])))) (.og (.ibin .gtr (.var 8) (.lit (.val (.int .i64 0)))) (.gog (.var 0) true false (.ret (.var 8)) (.gog (.var 1) true false (.ret (.var 6)) (.gog (.var 2) true false (.ret (.var 11)) (.gog (.var 3) true false (.idx 2 (.var 1) (.var 0)) (.gog (.var 4) true false (.fldA 0 (.var 0)) (.gog (.var 5) true false (.lod (.var 0)) (.gog (.var 6) true false (.ibin .lss (.var 5) (.var 0)) (.og (.pickV (.var 7) (.var 0) (.lit (.val (.bool false)))) (.ret (.var 0)))))))))))))))) [(.var 4), (.var 3), (.var 1), (.var 0), (.var 2)]
set_option maxRecDepth 1000000 in
theorem x43_ok : okF TT Tryz.f43 5 x43 = true := by decide +kernel
set_option maxRecDepth 1000000 in
theorem s_impl_isLocal_ok {a0 a1 a2 a3 a4 : AV} {σ : AH} {R : AEnd → AH → Prop} (h : s_impl_isLocal a0 a1 a2 a3 a4 σ R) : acall TP fn_impl_isLocal [a0, a1, a2, a3, a4] σ R :=
  acall_okF (ρ := [a4, a3, a2, a1, a0]) TT_ok Tryz.func43 rfl x43 x43_ok rfl h

/-- slices.Clone[[]loop.example/g00349/impl.Datum,loop.example/g00349/impl.Datum] -/
def s_slices_Clone (a0 : AV) (σ : AH) (R : AEnd → AH → Prop) : Prop :=
  abin TT .eql ty_LRiiisE a0 (.val (.slice none 0 0)) fun v4 =>
  apick v4 (
    aret (.val (.slice none 0 0)) σ R) (
    bsl 4 [(.val (.int .i64 0)), (.val (.int .i64 0)), (.val (.int .i64 0)), (.val (.string ⟨#[]⟩))] 0 [] σ fun v5 σ =>
    app 4 v5 a0 σ fun v7 σ =>
    aret v7 σ R)
def x44 : Sx := .cmp .eql 51 (.var 0) (.lit (.val (.slice none 0 0))) (.apick (.var 0) (.ret (.lit (.val (.slice none 0 0)))) (.bsl 4 [(.val (.int .i64 0)), (.val (.int .i64 0)), (.val (.int .i64 0)), (.val (.string ⟨#[]⟩))] 0 [] (.app 4 (.var 0) (.var 2) (.ret (.var 0)))))
set_option maxRecDepth 1000000 in
theorem x44_ok : okF TT Tryz.f44 1 x44 = true := by decide +kernel
set_option maxRecDepth 1000000 in
theorem s_slices_Clone_ok {a0 : AV} {σ : AH} {R : AEnd → AH → Prop} (h : s_slices_Clone a0 σ R) : acall TP fn_slices_Clone [a0] σ R :=
  acall_okF (ρ := [a0]) TT_ok Tryz.func44 rfl x44 x44_ok rfl h

/-- (*loop.example/g00349/impl.Op).target -/
def s_impl_Op_target (a0 : AV) (σ : AH) (R : AEnd → AH → Prop) : Prop :=
  og (anil a0) fun v4 =>
  og (fldA 0 v4) fun v5 =>
  og (lod v5 σ) fun v6 =>
  jn (X := Tup [0, 6, 7]) (fun x1 σ =>
      apick x1.2.2.1 (
        og (anil x1.1) fun v11 =>
        og (fldA 1 v11) fun v12 =>
        aret v12 σ R) (
        og (ibin .eql x1.2.1 (.val (.int .i64 16))) fun v14 =>
        apick v14 (
          og (anil x1.1) fun v16 =>
          og (fldA 3 v16) fun v17 =>
          aret v17 σ R) (
          aret (.val (.pointer none)) σ R))) fun k1 =>
    og (ibin .eql v6 (.val (.int .i64 5))) fun v8 =>
    apick v8 (
      k1 (a0, v6, v8, ()) σ) (
      og (ibin .eql v6 (.val (.int .i64 6))) fun v9 =>
      k1 (a0, v6, v9, ()) σ)
def x45 : Sx := .og (.anil (.var 0)) (.og (.fldA 0 (.var 0)) (.og (.lod (.var 0)) (.jn 53 [0, 6, 7] (.apick (.var 2) (.og (.anil (.var 0)) (.og (.fldA 1 (.var 0)) (.ret (.var 0)))) (.og (.ibin .eql (.var 1) (.lit (.val (.int .i64 16)))) (.apick (.var 0) (.og (.anil (.var 1)) (.og (.fldA 3 (.var 0)) (.ret (.var 0)))) (.ret (.lit (.val (.pointer none))))))) (.og (.ibin .eql (.var 0) (.lit (.val (.int .i64 5)))) (.apick (.var 0) (.jump 0 [(.var 4), (.var 1), (.var 0)]) (.og (.ibin .eql (.var 1) (.lit (.val (.int .i64 6)))) (.jump 0 [(.var 5), (.var 2), (.var 0)])))))))
set_option maxRecDepth 1000000 in
theorem x45_ok : okF TT Tryz.f45 1 x45 = true := by decide +kernel
set_option maxRecDepth 1000000 in
theorem s_impl_Op_target_ok {a0 : AV} {σ : AH} {R : AEnd → AH → Prop} (h : s_impl_Op_target a0 σ R) : acall TP fn_impl_Op_target [a0] σ R :=
  acall_okF (ρ := [a0]) TT_ok Tryz.func45 rfl x45 x45_ok rfl h

/-- loop.example/g00349/laws.eqOpS -/
def s_laws_eqOpS (a0 a1 : AV) (σ : AH) (R : AEnd → AH → Prop) : Prop :=
  og (lenS a0) fun v7 =>
  og (lenS a1) fun v9 =>
  og (ibin .neq v7 v9) fun v10 =>
  apick v10 (
    aret (.val (.bool false)) σ R) (
    lp (X := Tup [0, 1, 5]) (fun R1 y1 σ =>
      og (lenS y1.1) fun v13 =>
      og (ibin .lss y1.2.2.1 v13) fun v14 =>
      apick v14 (
        og (idx 7 y1.1 y1.2.2.1 σ) fun v19 =>
        og (lodA 7 v19 σ) fun v20 =>
        og (idx 7 y1.2.1 y1.2.2.1 σ) fun v23 =>
        og (lodA 7 v23 σ) fun v24 =>
        acall TP fn_laws_eqOp [v20, v24] σ (onr (fun v25 σ =>
        (True) ∧
        og (aun .not v25) fun v26 =>
        apick v26 (
          aret (.val (.bool false)) σ R) (
          og (ibin .add y1.2.2.1 (.val (.int .i64 1))) fun v16 =>
          R1 (y1.1, y1.2.1, v16, ()) σ)) (fun v σ => apan v σ R))) (
        aret (.val (.bool true)) σ R)) (a0, a1, (.val (.int .i64 0)), ()) σ)
def x46 : Sx := .og (.lenS (.var 1)) (.og (.lenS (.var 1)) (.og (.ibin .neq (.var 1) (.var 0)) (.apick (.var 0) (.ret (.lit (.val (.bool false)))) (.lp [0, 1, 5] (.og (.lenS (.var 0)) (.og (.ibin .lss (.var 3) (.var 0)) (.apick (.var 0) (.ord [0, 1, 2, 3, 4, 5, 6, 7, 8, 9] [0, 0, 3, 7, 0, 0, 48, 112, 255, 511] (.og (.idx 7 (.var 2) (.var 4)) (.og (.lodA 7 (.var 0)) (.og (.idx 7 (.var 5) (.var 6)) (.og (.lodA 7 (.var 0)) (.call 66 [(.var 2), (.var 0)] (.wat [] (.og (.aun .not (.var 0)) (.apick (.var 0) (.ret (.lit (.val (.bool false)))) (.og (.ibin .add (.var 10) (.lit (.val (.int .i64 1)))) (.jump 0 [(.var 9), (.var 10), (.var 0)]))))))))))) (.ret (.lit (.val (.bool true))))))) [(.var 4), (.var 3), (.lit (.val (.int .i64 0)))]))))
set_option maxRecDepth 1000000 in
theorem x46_ok : okF TT Tryz.f46 2 x46 = true := by decide +kernel
set_option maxRecDepth 1000000 in
theorem s_laws_eqOpS_ok {a0 a1 : AV} {σ : AH} {R : AEnd → AH → Prop} (h : s_laws_eqOpS a0 a1 σ R) : acall TP fn_laws_eqOpS [a0, a1] σ R :=
  acall_okF (ρ := [a1, a0]) TT_ok Tryz.func46 rfl x46 x46_ok rfl h

/-- loop.example/g00349/laws.markText -/
def s_laws_markText (a0 : AV) (σ : AH) (R : AEnd → AH → Prop) : Prop :=
  og (ibin .leq a0 (.val (.int .i64 0))) fun v5 =>
  apick v5 (
    aret (.val (.string ⟨#[109, 48]⟩)) σ R) (
    lp (X := Tup [0, 3]) (fun R1 y1 σ =>
      og (ibin .gtr y1.1 (.val (.int .i64 0))) fun v7 =>
      apick v7 (
        og (ibin .rem y1.1 (.val (.int .i64 10))) fun v9 =>
        og (ibin .add (.val (.int .i64 48)) v9) fun v10 =>
        og (convI .u8 v10) fun v11 =>
        bsl 1 [(.val (.int .u8 0))] 1 [(0, v11)] σ fun v12 σ =>
        aconv TT ty_Lb ty_s v12 σ fun v13 σ =>
        og (sbin .add v13 y1.2.1) fun v15 =>
        og (ibin .quo y1.1 (.val (.int .i64 10))) fun v17 =>
        R1 (v17, v15, ()) σ) (
        og (sbin .add (.val (.string ⟨#[109]⟩)) y1.2.1) fun v19 =>
        aret v19 σ R)) (a0, (.val (.string ⟨#[]⟩)), ()) σ)
def x47 : Sx := .og (.ibin .leq (.var 0) (.lit (.val (.int .i64 0)))) (.apick (.var 0) (.ret (.lit (.val (.string ⟨#[109, 48]⟩)))) (.lp [0, 3] (.og (.ibin .gtr (.var 0) (.lit (.val (.int .i64 0)))) (.apick (.var 0) (.og (.ibin .rem (.var 1) (.lit (.val (.int .i64 10)))) (.og (.ibin .add (.lit (.val (.int .i64 48))) (.var 0)) (.og (.conv .u8 (.var 0)) (.bsl 1 [(.val (.int .u8 0))] 1 [(0, (.var 0))] (.cnv 100 9 (.var 0) (.og (.sbin .add (.var 0) (.var 7)) (.og (.ibin .quo (.var 7) (.lit (.val (.int .i64 10)))) (.jump 0 [(.var 0), (.var 1)])))))))) (.og (.sbin .add (.lit (.val (.string ⟨#[109]⟩))) (.var 2)) (.ret (.var 0))))) [(.var 1), (.lit (.val (.string ⟨#[]⟩)))]))
set_option maxRecDepth 1000000 in
theorem x47_ok : okF TT Tryz.f47 1 x47 = true := by decide +kernel
set_option maxRecDepth 1000000 in
theorem s_laws_markText_ok {a0 : AV} {σ : AH} {R : AEnd → AH → Prop} (h : s_laws_markText a0 σ R) : acall TP fn_laws_markText [a0] σ R :=
  acall_okF (ρ := [a0]) TT_ok Tryz.func47 rfl x47 x47_ok rfl h

/-- loop.example/g00349/laws.markDatumS -/
def s_laws_markDatumS (a0 a1 : AV) (σ : AH) (R : AEnd → AH → Prop) : Prop :=
  lp (X := Tup [0, 1, 5]) (fun R1 y1 σ =>
    og (lenS y1.1) fun v8 =>
    og (ibin .lss y1.2.2.1 v8) fun v9 =>
    apick v9 (
      og (idx 4 y1.1 y1.2.2.1 σ) fun v15 =>
      og (fldA 0 v15) fun v16 =>
      sto 1 v16 y1.2.1 σ fun σ =>
      og (ibin .add y1.2.1 (.val (.int .i64 1))) fun v18 =>
      og (idx 4 y1.1 y1.2.2.1 σ) fun v22 =>
      og (fldA 1 v22) fun v23 =>
      sto 1 v23 v18 σ fun σ =>
      og (ibin .add v18 (.val (.int .i64 1))) fun v25 =>
      og (idx 4 y1.1 y1.2.2.1 σ) fun v29 =>
      og (fldA 2 v29) fun v30 =>
      sto 1 v30 v25 σ fun σ =>
      og (ibin .add v25 (.val (.int .i64 1))) fun v32 =>
      acall TP fn_laws_markText [v32] σ (onr (fun v36 σ =>
      og (idx 4 y1.1 y1.2.2.1 σ) fun v37 =>
      og (fldA 3 v37) fun v38 =>
      sto 1 v38 v36 σ fun σ =>
      og (ibin .add v32 (.val (.int .i64 1))) fun v40 =>
      og (ibin .add y1.2.2.1 (.val (.int .i64 1))) fun v11 =>
      R1 (y1.1, v40, v11, ()) σ) (fun v σ => apan v σ R))) (
      aret y1.2.1 σ R)) (a0, a1, (.val (.int .i64 0)), ()) σ
def x48 : Sx := .lp [0, 1, 5] (.og (.lenS (.var 0)) (.og (.ibin .lss (.var 3) (.var 0)) (.apick (.var 0) (.og (.idx 4 (.var 2) (.var 4)) (.og (.fldA 0 (.var 0)) (.sto 1 (.var 0) (.var 5) (.og (.ibin .add (.var 5) (.lit (.val (.int .i64 1)))) (.og (.idx 4 (.var 5) (.var 7)) (.og (.fldA 1 (.var 0)) (.sto 1 (.var 0) (.var 2) (.og (.ibin .add (.var 2) (.lit (.val (.int .i64 1)))) (.og (.idx 4 (.var 8) (.var 10)) (.og (.fldA 2 (.var 0)) (.sto 1 (.var 0) (.var 2) (.og (.ibin .add (.var 2) (.lit (.val (.int .i64 1)))) (.call 47 [(.var 0)] (.og (.idx 4 (.var 12) (.var 14)) (.og (.fldA 3 (.var 0)) (.sto 1 (.var 0) (.var 2) (.og (.ibin .add (.var 3) (.lit (.val (.int .i64 1)))) (.og (.ibin .add (.var 17) (.lit (.val (.int .i64 1)))) (.jump 0 [(.var 16), (.var 1), (.var 0)]))))))))))))))))))) (.ret (.var 3))))) [(.var 1), (.var 0), (.lit (.val (.int .i64 0)))]
set_option maxRecDepth 1000000 in
theorem x48_ok : okF TT Tryz.f48 2 x48 = true := by decide +kernel
set_option maxRecDepth 1000000 in
theorem s_laws_markDatumS_ok {a0 a1 : AV} {σ : AH} {R : AEnd → AH → Prop} (h : s_laws_markDatumS a0 a1 σ R) : acall TP fn_laws_markDatumS [a0, a1] σ R :=
  acall_okF (ρ := [a1, a0]) TT_ok Tryz.func48 rfl x48 x48_ok rfl h

/-- loop.example/g00349/laws.heldOpS -/
def s_laws_heldOpS (a0 a1 : AV) (σ : AH) (R : AEnd → AH → Prop) : Prop :=
  lp (X := Tup [0, 1, 5]) (fun R1 y1 σ =>
    og (lenS y1.1) fun v8 =>
    og (ibin .lss y1.2.2.1 v8) fun v9 =>
    apick v9 (
      og (idx 7 y1.1 y1.2.2.1 σ) fun v14 =>
      og (fldA 0 v14) fun v15 =>
      og (lod v15 σ) fun v16 =>
      og (ibin .neq v16 y1.2.1) fun v18 =>
      apick v18 (
        aret (.val (.int .i64 (-1))) σ R) (
        og (ibin .add y1.2.1 (.val (.int .i64 1))) fun v20 =>
        og (idx 7 y1.1 y1.2.2.1 σ) fun v23 =>
        og (fldA 1 v23) fun v24 =>
        og (lod v24 σ) fun v25 =>
        og (ibin .neq v25 v20) fun v27 =>
        apick v27 (
          aret (.val (.int .i64 (-1))) σ R) (
          og (ibin .add v20 (.val (.int .i64 1))) fun v29 =>
          og (idx 7 y1.1 y1.2.2.1 σ) fun v32 =>
          og (fldA 2 v32) fun v33 =>
          og (lod v33 σ) fun v34 =>
          og (ibin .neq v34 v29) fun v36 =>
          apick v36 (
            aret (.val (.int .i64 (-1))) σ R) (
            og (ibin .add v29 (.val (.int .i64 1))) fun v38 =>
            og (idx 7 y1.1 y1.2.2.1 σ) fun v41 =>
            og (fldA 3 v41) fun v42 =>
            og (lod v42 σ) fun v43 =>
            og (ibin .neq v43 v38) fun v45 =>
            apick v45 (
              aret (.val (.int .i64 (-1))) σ R) (
              og (ibin .add v38 (.val (.int .i64 1))) fun v47 =>
              og (idx 7 y1.1 y1.2.2.1 σ) fun v50 =>
              og (fldA 4 v50) fun v51 =>
              og (lod v51 σ) fun v52 =>
              og (ibin .neq v52 v47) fun v54 =>
              apick v54 (
                aret (.val (.int .i64 (-1))) σ R) (
                og (ibin .add v47 (.val (.int .i64 1))) fun v56 =>
                og (idx 7 y1.1 y1.2.2.1 σ) fun v59 =>
                og (fldA 5 v59) fun v60 =>
                og (lod v60 σ) fun v61 =>
                acall TP fn_laws_markText [v56] σ (onr (fun v63 σ =>
                (lod v60 σ = some v61 ∧ idx 7 y1.1 y1.2.2.1 σ = some v59 ∧ True) ∧
                og (sbin .neq v61 v63) fun v64 =>
                apick v64 (
                  aret (.val (.int .i64 (-1))) σ R) (
                  og (ibin .add v56 (.val (.int .i64 1))) fun v66 =>
                  og (idx 7 y1.1 y1.2.2.1 σ) fun v69 =>
                  og (fldA 6 v69) fun v70 =>
                  og (lod v70 σ) fun v71 =>
                  acall TP fn_laws_heldDatumS [v71, v66] σ (onr (fun v73 σ =>
                  og (ibin .lss v73 (.val (.int .i64 0))) fun v75 =>
                  apick v75 (
                    aret (.val (.int .i64 (-1))) σ R) (
                    og (ibin .add y1.2.2.1 (.val (.int .i64 1))) fun v11 =>
                    R1 (y1.1, v73, v11, ()) σ)) (fun v σ => apan v σ R)))) (fun v σ => apan v σ R)))))))) (
      aret y1.2.1 σ R)) (a0, a1, (.val (.int .i64 0)), ()) σ
def x49 : Sx := .lp [0, 1, 5] (.og (.lenS (.var 0)) (.og (.ibin .lss (.var 3) (.var 0)) (.apick (.var 0) (.og (.idx 7 (.var 2) (.var 4)) (.og (.fldA 0 (.var 0)) (.og (.lod (.var 0)) (.og (.ibin .neq (.var 0) (.var 6)) (.apick (.var 0) (.ret (.lit (.val (.int .i64 (-1))))) (.og (.ibin .add (.var 7) (.lit (.val (.int .i64 1)))) (.og (.idx 7 (.var 7) (.var 9)) (.og (.fldA 1 (.var 0)) (.og (.lod (.var 0)) (.og (.ibin .neq (.var 0) (.var 3)) (.apick (.var 0) (.ret (.lit (.val (.int .i64 (-1))))) (.og (.ibin .add (.var 4) (.lit (.val (.int .i64 1)))) (.og (.idx 7 (.var 12) (.var 14)) (.og (.fldA 2 (.var 0)) (.og (.lod (.var 0)) (.og (.ibin .neq (.var 0) (.var 3)) (.apick (.var 0) (.ret (.lit (.val (.int .i64 (-1))))) (.og (.ibin .add (.var 4) (.lit (.val (.int .i64 1)))) (.og (.idx 7 (.var 17) (.var 19)) (.og (.fldA 3 (.var 0)) (.og (.lod (.var 0)) (.og (.ibin .neq (.var 0) (.var 3)) (.apick (.var 0) (.ret (.lit (.val (.int .i64 (-1))))) (.og (.ibin .add (.var 4) (.lit (.val (.int .i64 1)))) (.og (.idx 7 (.var 22) (.var 24)) (.og (.fldA 4 (.var 0)) (.og (.lod (.var 0)) (.og (.ibin .neq (.var 0) (.var 3)) (.apick (.var 0) (.ret (.lit (.val (.int .i64 (-1))))) (.og (.ibin .add (.var 4) (.lit (.val (.int .i64 1)))) (.ord [0, 1, 2, 3, 4, 5, 6, 7] [0, 0, 3, 7, 15, 0, 32, 127] (.og (.idx 7 (.var 27) (.var 29)) (.og (.fldA 5 (.var 0)) (.og (.lod (.var 0)) (.call 47 [(.var 3)] (.wat [⟨none, (.lod (.var 2)), (.var 1)⟩, ⟨none, (.idx 7 (.var 31) (.var 33)), (.var 3)⟩] (.og (.sbin .neq (.var 1) (.var 0)) (.apick (.var 0) (.ret (.lit (.val (.int .i64 (-1))))) (.og (.ibin .add (.var 5) (.lit (.val (.int .i64 1)))) (.og (.idx 7 (.var 33) (.var 35)) (.og (.fldA 6 (.var 0)) (.og (.lod (.var 0)) (.call 67 [(.var 0), (.var 3)] (.og (.ibin .lss (.var 0) (.lit (.val (.int .i64 0)))) (.apick (.var 0) (.ret (.lit (.val (.int .i64 (-1))))) (.og (.ibin .add (.var 40) (.lit (.val (.int .i64 1)))) (.jump 0 [(.var 39), (.var 2), (.var 0)]))))))))))))))))))))))))))))))))))))))))))))))) (.ret (.var 3))))) [(.var 1), (.var 0), (.lit (.val (.int .i64 0)))]
set_option maxRecDepth 1000000 in
theorem x49_ok : okF TT Tryz.f49 2 x49 = true := by decide +kernel
set_option maxRecDepth 1000000 in
theorem s_laws_heldOpS_ok {a0 a1 : AV} {σ : AH} {R : AEnd → AH → Prop} (h : s_laws_heldOpS a0 a1 σ R) : acall TP fn_laws_heldOpS [a0, a1] σ R :=
  acall_okF (ρ := [a1, a0]) TT_ok Tryz.func49 rfl x49 x49_ok rfl h

/-- loop.example/g00349/spec.l1In -/
def s_spec_l1In (a0 a1 a2 : AV) (σ : AH) (R : AEnd → AH → Prop) : Prop :=
  og (ibin .geq a0 a1) fun v9 =>
  og (gval v9 true false (some a0)) fun v11 =>
  og (gval v9 true false (some a2)) fun v12 =>
  og (gval v9 true false (ibin .leq v11 v12)) fun v13 =>
  og (pickV v9 v13 (.val (.bool false))) fun v14 =>
  aret v14 σ R
def x50 : Sx := .og (.ibin .geq (.var 2) (.var 1)) (.gog (.var 0) true false (.ret (.var 3)) (.gog (.var 1) true false (.ret (.var 2)) (.gog (.var 2) true false (.ibin .leq (.var 1) (.var 0)) (.og (.pickV (.var 3) (.var 0) (.lit (.val (.bool false)))) (.ret (.var 0))))))
set_option maxRecDepth 1000000 in
theorem x50_ok : okF TT Tryz.f50 3 x50 = true := by decide +kernel
set_option maxRecDepth 1000000 in
theorem s_spec_l1In_ok {a0 a1 a2 : AV} {σ : AH} {R : AEnd → AH → Prop} (h : s_spec_l1In a0 a1 a2 σ R) : acall TP fn_spec_l1In [a0, a1, a2] σ R :=
  acall_okF (ρ := [a2, a1, a0]) TT_ok Tryz.func50 rfl x50 x50_ok rfl h

/-- loop.example/g00349/spec.l11Fuse -/
def s_spec_l11Fuse (a0 a1 : AV) (σ : AH) (R : AEnd → AH → Prop) : Prop :=
  bsl 7 [(.val (.int .i64 0)), (.val (.int .i64 0)), (.val (.int .i64 0)), (.val (.int .i64 0)), (.val (.int .i64 0)), (.val (.string ⟨#[]⟩)), (.val (.slice none 0 0))] 0 [] σ fun v10 σ =>
  bsl 1 [(.val (.int .i64 0))] 0 [] σ fun v11 σ =>
  lp (X := Tup [0, 1, 5, 6, 7]) (fun R1 y1 σ =>
    og (anil y1.1) fun v14 =>
    og (fldA 1 v14) fun v15 =>
    og (lod v15 σ) fun v16 =>
    og (lenS v16) fun v17 =>
    og (ibin .lss y1.2.2.2.2.1 v17) fun v18 =>
    apick v18 (
      jn (X := Tup [0, 1, 5, 6, 7]) (fun x2 σ =>
          og (ibin .add x2.2.2.2.2.1 (.val (.int .i64 1))) fun v20 =>
          R1 (x2.1, x2.2.1, x2.2.2.1, x2.2.2.2.1, v20, ()) σ) fun k2 =>
        og (lenS y1.2.2.1) fun v23 =>
        bsl 1 [(.val (.int .i64 0))] 1 [(0, v23)] σ fun v24 σ =>
        app 1 y1.2.2.2.1 v24 σ fun v25 σ =>
        jn (X := Tup [0, 1, 5, 6, 7]) (fun x3 σ =>
            og (anil x3.1) fun v74 =>
            og (fldA 1 v74) fun v75 =>
            og (lod v75 σ) fun v76 =>
            og (idx 7 v76 x3.2.2.2.2.1 σ) fun v78 =>
            og (lodA 7 v78 σ) fun v79 =>
            bsl 7 [(.val (.int .i64 0)), (.val (.int .i64 0)), (.val (.int .i64 0)), (.val (.int .i64 0)), (.val (.int .i64 0)), (.val (.string ⟨#[]⟩)), (.val (.slice none 0 0))] 1 [(0, v79)] σ fun v80 σ =>
            app 7 x3.2.2.1 v80 σ fun v81 σ =>
            k2 (x3.1, x3.2.1, v81, x3.2.2.2.1, x3.2.2.2.2.1, ()) σ) fun k3 =>
          jn (X := Tup [0, 1, 5, 6, 7, 40]) (fun x4 σ =>
              apick x4.2.2.2.2.2.1 (
                og (anil x4.1) fun v43 =>
                og (fldA 1 v43) fun v44 =>
                og (lod v44 σ) fun v45 =>
                og (idx 7 v45 x4.2.2.2.2.1 σ) fun v47 =>
                og (anil x4.1) fun v49 =>
                og (fldA 1 v49) fun v50 =>
                og (lod v50 σ) fun v51 =>
                og (ibin .add x4.2.2.2.2.1 (.val (.int .i64 1))) fun v53 =>
                og (idx 7 v51 v53 σ) fun v54 =>
                acall TP fn_spec_l11Two [v47, v54, x4.2.1] σ (onr (fun v56 σ =>
                (True) ∧
                og (aext v56 0) fun v57 =>
                og (aext v56 1) fun v58 =>
                new [(.val (.int .i64 0)), (.val (.int .i64 0)), (.val (.int .i64 0)), (.val (.int .i64 0)), (.val (.int .i64 0)), (.val (.string ⟨#[]⟩)), (.val (.slice none 0 0))] σ fun v8 σ =>
                (True) ∧
                sto 7 v8 v57 σ fun σ =>
                (True) ∧
                frz v8 σ fun f8 σ =>
                apick v58 (
                  og (lodA 7 f8 σ) fun v61 =>
                  bsl 7 [(.val (.int .i64 0)), (.val (.int .i64 0)), (.val (.int .i64 0)), (.val (.int .i64 0)), (.val (.int .i64 0)), (.val (.string ⟨#[]⟩)), (.val (.slice none 0 0))] 1 [(0, v61)] σ fun v62 σ =>
                  app 7 x4.2.2.1 v62 σ fun v63 σ =>
                  og (lenS v63) fun v66 =>
                  og (ibin .sub v66 (.val (.int .i64 1))) fun v67 =>
                  bsl 1 [(.val (.int .i64 0))] 1 [(0, v67)] σ fun v68 σ =>
                  app 1 x4.2.2.2.1 v68 σ fun v69 σ =>
                  og (ibin .add x4.2.2.2.2.1 (.val (.int .i64 1))) fun v71 =>
                  k2 (x4.1, x4.2.1, v63, v69, v71, ()) σ) (
                  k3 (x4.1, x4.2.1, x4.2.2.1, x4.2.2.2.1, x4.2.2.2.2.1, ()) σ)) (fun v σ => apan v σ R))) (
                k3 (x4.1, x4.2.1, x4.2.2.1, x4.2.2.2.1, x4.2.2.2.2.1, ()) σ)) fun k4 =>
            og (ibin .add y1.2.2.2.2.1 (.val (.int .i64 1))) fun v27 =>
            og (anil y1.1) fun v29 =>
            og (fldA 1 v29) fun v30 =>
            og (lod v30 σ) fun v31 =>
            og (lenS v31) fun v32 =>
            og (ibin .lss v27 v32) fun v33 =>
            og (gval v33 true false (some y1.1)) fun v35 =>
            og (gval v33 true false (some y1.2.2.2.2.1)) fun v36 =>
            og (gval v33 true false (ibin .add v36 (.val (.int .i64 1)))) fun v37 =>
            gpick v33 (
              acall TP fn_spec_l9IsTarget [v35, v37] σ (onr (fun v38 σ =>
              og (aun .not v38) fun v39 =>
              k4 (y1.1, y1.2.1, y1.2.2.1, v25, y1.2.2.2.2.1, v39, ()) σ) (fun v σ => apan v σ R))) (
              k4 (y1.1, y1.2.1, y1.2.2.1, v25, y1.2.2.2.2.1, (.val (.bool false)), ()) σ) (False)) (
      acall TP fn_spec_l11Turn [y1.2.2.1, y1.2.2.2.1] σ (onr (fun v84 σ =>
      aret v84 σ R) (fun v σ => apan v σ R)))) (a0, a1, v10, v11, (.val (.int .i64 0)), ()) σ
def x51 : Sx := .bsl 7 [(.val (.int .i64 0)), (.val (.int .i64 0)), (.val (.int .i64 0)), (.val (.int .i64 0)), (.val (.int .i64 0)), (.val (.string ⟨#[]⟩)), (.val (.slice none 0 0))] 0 [] (.bsl 1 [(.val (.int .i64 0))] 0 [] (.lp [0, 1, 5, 6, 7] (.og (.anil (.var 0)) (.og (.fldA 1 (.var 0)) (.og (.lod (.var 0)) (.og (.lenS (.var 0)) (.og (.ibin .lss (.var 8) (.var 0)) (.apick (.var 0) (.jn 979 [0, 1, 5, 6, 7] (.og (.ibin .add (.var 4) (.lit (.val (.int .i64 1)))) (.jump 0 [(.var 1), (.var 2), (.var 3), (.var 4), (.var 0)])) (.og (.lenS (.var 7)) (.bsl 1 [(.val (.int .i64 0))] 1 [(0, (.var 0))] (.app 1 (.var 10) (.var 0) (.jn 7827 [0, 1, 5, 6, 7] (.og (.anil (.var 0)) (.og (.fldA 1 (.var 0)) (.og (.lod (.var 0)) (.og (.idx 7 (.var 0) (.var 7)) (.og (.lodA 7 (.var 0)) (.bsl 7 [(.val (.int .i64 0)), (.val (.int .i64 0)), (.val (.int .i64 0)), (.val (.int .i64 0)), (.val (.int .i64 0)), (.val (.string ⟨#[]⟩)), (.val (.slice none 0 0))] 1 [(0, (.var 0))] (.app 7 (.var 8) (.var 0) (.jump 0 [(.var 7), (.var 8), (.var 0), (.var 10), (.var 11)])))))))) (.jn 15653 [0, 1, 5, 6, 7, 40] (.apick (.var 5) (.ord [0, 1, 2, 3, 4, 5, 6, 7, 8, 9, 10, 11, 12, 13, 14, 15, 16, 17, 18, 19, 20] [0, 1, 3, 7, 0, 31, 0, 64, 192, 448, 0, 1024, 4032, 0, 16383, 32767, 65535, 65535, 0, 393215, 1048575] (.og (.anil (.var 0)) (.og (.fldA 1 (.var 0)) (.og (.lod (.var 0)) (.og (.idx 7 (.var 0) (.var 7)) (.og (.anil (.var 4)) (.og (.fldA 1 (.var 0)) (.og (.lod (.var 0)) (.og (.ibin .add (.var 11) (.lit (.val (.int .i64 1)))) (.og (.idx 7 (.var 1) (.var 0)) (.call 69 [(.var 5), (.var 0), (.var 10)] (.wat [] (.og (.aext (.var 0) 0) (.og (.aext (.var 1) 1) (.new [(.val (.int .i64 0)), (.val (.int .i64 0)), (.val (.int .i64 0)), (.val (.int .i64 0)), (.val (.int .i64 0)), (.val (.string ⟨#[]⟩)), (.val (.slice none 0 0))] (.wat [] (.sto 7 (.var 0) (.var 2) (.wat [] (.frz 18 (.var 0) (.apick (.var 2) (.og (.lodA 7 (.var 0)) (.bsl 7 [(.val (.int .i64 0)), (.val (.int .i64 0)), (.val (.int .i64 0)), (.val (.int .i64 0)), (.val (.int .i64 0)), (.val (.string ⟨#[]⟩)), (.val (.slice none 0 0))] 1 [(0, (.var 0))] (.app 7 (.var 18) (.var 0) (.og (.lenS (.var 0)) (.og (.ibin .sub (.var 0) (.lit (.val (.int .i64 1)))) (.bsl 1 [(.val (.int .i64 0))] 1 [(0, (.var 0))] (.app 1 (.var 23) (.var 0) (.og (.ibin .add (.var 25) (.lit (.val (.int .i64 1)))) (.jump 1 [(.var 22), (.var 23), (.var 5), (.var 1), (.var 0)]))))))))) (.jump 0 [(.var 14), (.var 15), (.var 16), (.var 17), (.var 18)]))))))))))))))))))))) (.jump 0 [(.var 0), (.var 1), (.var 2), (.var 3), (.var 4)])) (.og (.ibin .add (.var 12) (.lit (.val (.int .i64 1)))) (.og (.anil (.var 9)) (.og (.fldA 1 (.var 0)) (.og (.lod (.var 0)) (.og (.lenS (.var 0)) (.og (.ibin .lss (.var 4) (.var 0)) (.gog (.var 0) true false (.ret (.var 14)) (.gog (.var 1) true false (.ret (.var 19)) (.gog (.var 2) true false (.ibin .add (.var 0) (.lit (.val (.int .i64 1)))) (.gpick (.var 3) (.call 68 [(.var 2), (.var 0)] (.og (.aun .not (.var 0)) (.jump 0 [(.var 19), (.var 20), (.var 21), (.var 11), (.var 23), (.var 0)]))) (.jump 0 [(.var 17), (.var 18), (.var 19), (.var 9), (.var 21), (.lit (.val (.bool false)))]) (.no))))))))))))))))) (.call 37 [(.var 7), (.var 8)] (.ret (.var 0))))))))) [(.var 3), (.var 2), (.var 1), (.var 0), (.lit (.val (.int .i64 0)))]))
set_option maxRecDepth 1000000 in
theorem x51_ok : okF TT Tryz.f51 2 x51 = true := by decide +kernel
set_option maxRecDepth 1000000 in
theorem s_spec_l11Fuse_ok {a0 a1 : AV} {σ : AH} {R : AEnd → AH → Prop} (h : s_spec_l11Fuse a0 a1 σ R) : acall TP fn_spec_l11Fuse [a0, a1] σ R :=
  acall_okF (ρ := [a1, a0]) TT_ok Tryz.func51 rfl x51 x51_ok rfl h

/-- loop.example/g00349/impl.in -/
def s_impl_in (a0 a1 a2 : AV) (σ : AH) (R : AEnd → AH → Prop) : Prop :=
  og (ibin .leq a1 a0) fun v9 =>
  og (gval v9 true false (some a0)) fun v11 =>
  og (gval v9 true false (some a2)) fun v12 =>
  og (gval v9 true false (ibin .leq v11 v12)) fun v13 =>
  og (pickV v9 v13 (.val (.bool false))) fun v14 =>
  aret v14 σ R
def x52 : Sx := .og (.ibin .leq (.var 1) (.var 2)) (.gog (.var 0) true false (.ret (.var 3)) (.gog (.var 1) true false (.ret (.var 2)) (.gog (.var 2) true false (.ibin .leq (.var 1) (.var 0)) (.og (.pickV (.var 3) (.var 0) (.lit (.val (.bool false)))) (.ret (.var 0))))))
set_option maxRecDepth 1000000 in
theorem x52_ok : okF TT Tryz.f52 3 x52 = true := by decide +kernel
set_option maxRecDepth 1000000 in
theorem s_impl_in_ok {a0 a1 a2 : AV} {σ : AH} {R : AEnd → AH → Prop} (h : s_impl_in a0 a1 a2 σ R) : acall TP fn_impl_in [a0, a1, a2] σ R :=
  acall_okF (ρ := [a2, a1, a0]) TT_ok Tryz.func52 rfl x52 x52_ok rfl h

/-- loop.example/g00349/impl.targets -/
def s_impl_targets (a0 : AV) (σ : AH) (R : AEnd → AH → Prop) : Prop :=
  abox a0 σ fun v1 σ =>
  frz v1 σ fun f1 σ =>
  bsl 1 [(.val (.int .i64 0))] 0 [] σ fun v7 σ =>
  og (fldA 1 f1) fun v8 =>
  og (lod v8 σ) fun v9 =>
  og (lenS v9) fun v10 =>
  lp (X := Tup [3, 9, 10, 11]) (fun R1 y1 σ =>
    og (ibin .lss y1.2.2.2.1 y1.2.2.1) fun v12 =>
    apick v12 (
      jn (X := Tup [3, 9, 10, 11]) (fun x2 σ =>
          og (ibin .add x2.2.2.2.1 (.val (.int .i64 1))) fun v24 =>
          R1 (x2.1, x2.2.1, x2.2.2.1, v24, ()) σ) fun k2 =>
        og (idx 7 y1.2.1 y1.2.2.2.1 σ) fun v13 =>
        og (lodA 7 v13 σ) fun v14 =>
        new [(.val (.int .i64 0)), (.val (.int .i64 0)), (.val (.int .i64 0)), (.val (.int .i64 0)), (.val (.int .i64 0)), (.val (.string ⟨#[]⟩)), (.val (.slice none 0 0))] σ fun v5 σ =>
        sto 7 v5 v14 σ fun σ =>
        frz v5 σ fun f5 σ =>
        acall TP fn_impl_Op_target [f5] σ (onr (fun v15 σ =>
        abin TT .neq ty_pointer77 v15 (.val (.pointer none)) fun v17 =>
        apick v17 (
          og (anil v15) fun v20 =>
          og (lod v20 σ) fun v21 =>
          bsl 1 [(.val (.int .i64 0))] 1 [(0, v21)] σ fun v22 σ =>
          app 1 y1.1 v22 σ fun v23 σ =>
          k2 (v23, y1.2.1, y1.2.2.1, y1.2.2.2.1, ()) σ) (
          k2 (y1.1, y1.2.1, y1.2.2.1, y1.2.2.2.1, ()) σ)) (fun v σ => apan v σ R))) (
      acall TP fn_slices_Sort [y1.1] σ (onr (fun v26 σ =>
      acall TP fn_slices_Compact [y1.1] σ (onr (fun v28 σ =>
      aret v28 σ R) (fun v σ => apan v σ R))) (fun v σ => apan v σ R)))) (v7, v9, v10, (.val (.int .i64 0)), ()) σ
def x53 : Sx := .box (.var 0) (.frz 1 (.var 0) (.bsl 1 [(.val (.int .i64 0))] 0 [] (.og (.fldA 1 (.var 1)) (.og (.lod (.var 0)) (.og (.lenS (.var 0)) (.lp [3, 9, 10, 11] (.og (.ibin .lss (.var 3) (.var 2)) (.apick (.var 0) (.jn 935 [3, 9, 10, 11] (.og (.ibin .add (.var 3) (.lit (.val (.int .i64 1)))) (.jump 0 [(.var 1), (.var 2), (.var 3), (.var 0)])) (.og (.idx 7 (.var 2) (.var 4)) (.og (.lodA 7 (.var 0)) (.new [(.val (.int .i64 0)), (.val (.int .i64 0)), (.val (.int .i64 0)), (.val (.int .i64 0)), (.val (.int .i64 0)), (.val (.string ⟨#[]⟩)), (.val (.slice none 0 0))] (.sto 7 (.var 0) (.var 1) (.frz 7 (.var 0) (.call 45 [(.var 0)] (.cmp .neq 77 (.var 0) (.lit (.val (.pointer none))) (.apick (.var 0) (.og (.anil (.var 1)) (.og (.lod (.var 0)) (.bsl 1 [(.val (.int .i64 0))] 1 [(0, (.var 0))] (.app 1 (.var 10) (.var 0) (.jump 0 [(.var 0), (.var 12), (.var 13), (.var 14)]))))) (.jump 0 [(.var 7), (.var 8), (.var 9), (.var 10)])))))))))) (.call 70 [(.var 1)] (.call 71 [(.var 2)] (.ret (.var 0)))))) [(.var 3), (.var 1), (.var 0), (.lit (.val (.int .i64 0)))]))))))
set_option maxRecDepth 1000000 in
theorem x53_ok : okF TT Tryz.f53 1 x53 = true := by decide +kernel
set_option maxRecDepth 1000000 in
theorem s_impl_targets_ok {a0 : AV} {σ : AH} {R : AEnd → AH → Prop} (h : s_impl_targets a0 σ R) : acall TP fn_impl_targets [a0] σ R :=
  acall_okF (ρ := [a0]) TT_ok Tryz.func53 rfl x53 x53_ok rfl h

/-- slices.Contains[[]int64,int64] -/
def s_slices_Contains (a0 a1 : AV) (σ : AH) (R : AEnd → AH → Prop) : Prop :=
  acall TP fn_slices_Index [a0, a1] σ (onr (fun v7 σ =>
  og (ibin .geq v7 (.val (.int .i64 0))) fun v8 =>
  aret v8 σ R) (fun v σ => apan v σ R))
def x54 : Sx := .call 72 [(.var 1), (.var 0)] (.og (.ibin .geq (.var 0) (.lit (.val (.int .i64 0)))) (.ret (.var 0)))
set_option maxRecDepth 1000000 in
theorem x54_ok : okF TT Tryz.f54 2 x54 = true := by decide +kernel
set_option maxRecDepth 1000000 in
theorem s_slices_Contains_ok {a0 a1 : AV} {σ : AH} {R : AEnd → AH → Prop} (h : s_slices_Contains a0 a1 σ R) : acall TP fn_slices_Contains [a0, a1] σ R :=
  acall_okF (ρ := [a1, a0]) TT_ok Tryz.func54 rfl x54 x54_ok rfl h

/-- loop.example/g00349/impl.both -/
def s_impl_both (a0 a1 a2 : AV) (σ : AH) (R : AEnd → AH → Prop) : Prop :=
  abox a0 σ fun v3 σ =>
  abox a1 σ fun v4 σ =>
  new [(.val (.int .i64 0)), (.val (.int .i64 0)), (.val (.int .i64 0)), (.val (.int .i64 0)), (.val (.int .i64 0)), (.val (.string ⟨#[]⟩)), (.val (.slice none 0 0))] σ fun v6 σ =>
  frz v3 σ fun f3 σ =>
  frz v4 σ fun f4 σ =>
  og (fldA 0 f3) fun v9 =>
  og (lod v9 σ) fun v10 =>
  og (ibin .eql v10 (.val (.int .i64 1))) fun v11 =>
  og (gval v11 true false (fldA 0 f4)) fun v13 =>
  og (gval v11 true false (lod v13 σ)) fun v14 =>
  og (gval v11 true false (ibin .eql v14 (.val (.int .i64 12)))) fun v15 =>
  og (pickV v11 v15 (.val (.bool false))) fun v16 =>
  og (gval v16 true false (some a2)) fun v18 =>
  og (gval v16 true false (ibin .and v18 (.val (.int .i64 1)))) fun v19 =>
  og (gval v16 true false (ibin .neq v19 (.val (.int .i64 0)))) fun v20 =>
  og (pickV v16 v20 (.val (.bool false))) fun v21 =>
  apick v21 (
    og (fldA 6 f3) fun v22 =>
    og (lod v22 σ) fun v23 =>
    og (bld [(.val (.int .i64 0)), (.val (.int .i64 0)), (.val (.int .i64 0)), (.val (.int .i64 0)), (.val (.int .i64 0)), (.val (.string ⟨#[]⟩)), (.val (.slice none 0 0))] [(0, 1), (1, 1), (2, 1), (3, 1), (4, 1), (5, 1), (6, 1)] [(0, (.val (.int .i64 13))), (6, v23)]) fun v24 =>
    sto 7 v6 v24 σ fun σ =>
    og (lodA 7 v6 σ) fun r6 =>
    aret (.tup [r6, (.val (.bool true))]) σ R) (
    og (fldA 0 f3) fun v26 =>
    og (lod v26 σ) fun v27 =>
    og (ibin .eql v27 (.val (.int .i64 2))) fun v28 =>
    og (gval v28 true false (fldA 0 f4)) fun v30 =>
    og (gval v28 true false (lod v30 σ)) fun v31 =>
    og (gval v28 true false (ibin .eql v31 (.val (.int .i64 12)))) fun v32 =>
    og (pickV v28 v32 (.val (.bool false))) fun v33 =>
    og (gval v33 true false (some a2)) fun v35 =>
    og (gval v33 true false (ibin .and v35 (.val (.int .i64 2)))) fun v36 =>
    og (gval v33 true false (ibin .neq v36 (.val (.int .i64 0)))) fun v37 =>
    og (pickV v33 v37 (.val (.bool false))) fun v38 =>
    apick v38 (
      og (fldA 1 f3) fun v39 =>
      og (lod v39 σ) fun v40 =>
      og (fldA 2 f3) fun v41 =>
      og (lod v41 σ) fun v42 =>
      og (bld [(.val (.int .i64 0)), (.val (.int .i64 0)), (.val (.int .i64 0)), (.val (.int .i64 0)), (.val (.int .i64 0)), (.val (.string ⟨#[]⟩)), (.val (.slice none 0 0))] [(0, 1), (1, 1), (2, 1), (3, 1), (4, 1), (5, 1), (6, 1)] [(0, (.val (.int .i64 14))), (1, v40), (2, v42)]) fun v43 =>
      sto 7 v6 v43 σ fun σ =>
      og (lodA 7 v6 σ) fun r6 =>
      aret (.tup [r6, (.val (.bool true))]) σ R) (
      og (fldA 0 f3) fun v45 =>
      og (lod v45 σ) fun v46 =>
      og (ibin .eql v46 (.val (.int .i64 2))) fun v47 =>
      og (gval v47 true false (fldA 0 f4)) fun v49 =>
      og (gval v47 true false (lod v49 σ)) fun v50 =>
      og (gval v47 true false (ibin .eql v50 (.val (.int .i64 2)))) fun v51 =>
      og (pickV v47 v51 (.val (.bool false))) fun v52 =>
      og (gval v52 true false (some a2)) fun v54 =>
      og (gval v52 true false (ibin .and v54 (.val (.int .i64 4)))) fun v55 =>
      og (gval v52 true false (ibin .neq v55 (.val (.int .i64 0)))) fun v56 =>
      og (pickV v52 v56 (.val (.bool false))) fun v57 =>
      apick v57 (
        og (fldA 1 f3) fun v58 =>
        og (lod v58 σ) fun v59 =>
        og (fldA 2 f3) fun v60 =>
        og (lod v60 σ) fun v61 =>
        og (fldA 1 f4) fun v62 =>
        og (lod v62 σ) fun v63 =>
        og (fldA 2 f4) fun v64 =>
        og (lod v64 σ) fun v65 =>
        og (bld [(.val (.int .i64 0)), (.val (.int .i64 0)), (.val (.int .i64 0)), (.val (.int .i64 0)), (.val (.int .i64 0)), (.val (.string ⟨#[]⟩)), (.val (.slice none 0 0))] [(0, 1), (1, 1), (2, 1), (3, 1), (4, 1), (5, 1), (6, 1)] [(0, (.val (.int .i64 15))), (1, v59), (2, v61), (3, v63), (4, v65)]) fun v66 =>
        sto 7 v6 v66 σ fun σ =>
        og (lodA 7 v6 σ) fun r6 =>
        aret (.tup [r6, (.val (.bool true))]) σ R) (
        og (fldA 0 f3) fun v68 =>
        og (lod v68 σ) fun v69 =>
        og (ibin .eql v69 (.val (.int .i64 2))) fun v70 =>
        og (gval v70 true false (fldA 0 f4)) fun v72 =>
        og (gval v70 true false (lod v72 σ)) fun v73 =>
        og (gval v70 true false (ibin .eql v73 (.val (.int .i64 6)))) fun v74 =>
        og (pickV v70 v74 (.val (.bool false))) fun v75 =>
        og (gval v75 true false (some a2)) fun v77 =>
        og (gval v75 true false (ibin .and v77 (.val (.int .i64 8)))) fun v78 =>
        og (gval v75 true false (ibin .neq v78 (.val (.int .i64 0)))) fun v79 =>
        og (pickV v75 v79 (.val (.bool false))) fun v80 =>
        apick v80 (
          og (fldA 1 f3) fun v81 =>
          og (lod v81 σ) fun v82 =>
          og (fldA 2 f3) fun v83 =>
          og (lod v83 σ) fun v84 =>
          og (fldA 1 f4) fun v85 =>
          og (lod v85 σ) fun v86 =>
          og (bld [(.val (.int .i64 0)), (.val (.int .i64 0)), (.val (.int .i64 0)), (.val (.int .i64 0)), (.val (.int .i64 0)), (.val (.string ⟨#[]⟩)), (.val (.slice none 0 0))] [(0, 1), (1, 1), (2, 1), (3, 1), (4, 1), (5, 1), (6, 1)] [(0, (.val (.int .i64 16))), (1, v82), (2, v84), (3, v86)]) fun v87 =>
          sto 7 v6 v87 σ fun σ =>
          og (lodA 7 v6 σ) fun r6 =>
          aret (.tup [r6, (.val (.bool true))]) σ R) (
          og (bld [(.val (.int .i64 0)), (.val (.int .i64 0)), (.val (.int .i64 0)), (.val (.int .i64 0)), (.val (.int .i64 0)), (.val (.string ⟨#[]⟩)), (.val (.slice none 0 0))] [(0, 1), (1, 1), (2, 1), (3, 1), (4, 1), (5, 1), (6, 1)] []) fun v88 =>
          sto 7 v6 v88 σ fun σ =>
          og (lodA 7 v6 σ) fun r6 =>
          aret (.tup [r6, (.val (.bool false))]) σ R))))
def x55 : Sx := .box (.var 2) (.box (.var 2) (.new [(.val (.int .i64 0)), (.val (.int .i64 0)), (.val (.int .i64 0)), (.val (.int .i64 0)), (.val (.int .i64 0)), (.val (.string ⟨#[]⟩)), (.val (.slice none 0 0))] (.frz 3 (.var 2) (.frz 4 (.var 2) (.og (.fldA 0 (.var 1)) (.og (.lod (.var 0)) (.og (.ibin .eql (.var 0) (.lit (.val (.int .i64 1)))) (.gog (.var 0) true false (.fldA 0 (.var 3)) (.gog (.var 1) true false (.lod (.var 0)) (.gog (.var 2) true false (.ibin .eql (.var 0) (.lit (.val (.int .i64 12)))) (.og (.pickV (.var 3) (.var 0) (.lit (.val (.bool false)))) (.gog (.var 0) true false (.ret (.var 12)) (.gog (.var 1) true false (.ibin .and (.var 0) (.lit (.val (.int .i64 1)))) (.gog (.var 2) true false (.ibin .neq (.var 0) (.lit (.val (.int .i64 0)))) (.og (.pickV (.var 3) (.var 0) (.lit (.val (.bool false)))) (.apick (.var 0) (.og (.fldA 6 (.var 12)) (.og (.lod (.var 0)) (.og (.bld [(.val (.int .i64 0)), (.val (.int .i64 0)), (.val (.int .i64 0)), (.val (.int .i64 0)), (.val (.int .i64 0)), (.val (.string ⟨#[]⟩)), (.val (.slice none 0 0))] [(0, 1), (1, 1), (2, 1), (3, 1), (4, 1), (5, 1), (6, 1)] [(0, (.lit (.val (.int .i64 13)))), (6, (.var 0))]) (.sto 7 (.var 16) (.var 0) (.og (.lodA 7 (.var 16)) (.rets [(.var 0), (.lit (.val (.bool true)))])))))) (.og (.fldA 0 (.var 12)) (.og (.lod (.var 0)) (.og (.ibin .eql (.var 0) (.lit (.val (.int .i64 2)))) (.gog (.var 0) true false (.fldA 0 (.var 14)) (.gog (.var 1) true false (.lod (.var 0)) (.gog (.var 2) true false (.ibin .eql (.var 0) (.lit (.val (.int .i64 12)))) (.og (.pickV (.var 3) (.var 0) (.lit (.val (.bool false)))) (.gog (.var 0) true false (.ret (.var 23)) (.gog (.var 1) true false (.ibin .and (.var 0) (.lit (.val (.int .i64 2)))) (.gog (.var 2) true false (.ibin .neq (.var 0) (.lit (.val (.int .i64 0)))) (.og (.pickV (.var 3) (.var 0) (.lit (.val (.bool false)))) (.apick (.var 0) (.og (.fldA 1 (.var 23)) (.og (.lod (.var 0)) (.og (.fldA 2 (.var 25)) (.og (.lod (.var 0)) (.og (.bld [(.val (.int .i64 0)), (.val (.int .i64 0)), (.val (.int .i64 0)), (.val (.int .i64 0)), (.val (.int .i64 0)), (.val (.string ⟨#[]⟩)), (.val (.slice none 0 0))] [(0, 1), (1, 1), (2, 1), (3, 1), (4, 1), (5, 1), (6, 1)] [(0, (.lit (.val (.int .i64 14)))), (1, (.var 2)), (2, (.var 0))]) (.sto 7 (.var 29) (.var 0) (.og (.lodA 7 (.var 29)) (.rets [(.var 0), (.lit (.val (.bool true)))])))))))) (.og (.fldA 0 (.var 23)) (.og (.lod (.var 0)) (.og (.ibin .eql (.var 0) (.lit (.val (.int .i64 2)))) (.gog (.var 0) true false (.fldA 0 (.var 25)) (.gog (.var 1) true false (.lod (.var 0)) (.gog (.var 2) true false (.ibin .eql (.var 0) (.lit (.val (.int .i64 2)))) (.og (.pickV (.var 3) (.var 0) (.lit (.val (.bool false)))) (.gog (.var 0) true false (.ret (.var 34)) (.gog (.var 1) true false (.ibin .and (.var 0) (.lit (.val (.int .i64 4)))) (.gog (.var 2) true false (.ibin .neq (.var 0) (.lit (.val (.int .i64 0)))) (.og (.pickV (.var 3) (.var 0) (.lit (.val (.bool false)))) (.apick (.var 0) (.og (.fldA 1 (.var 34)) (.og (.lod (.var 0)) (.og (.fldA 2 (.var 36)) (.og (.lod (.var 0)) (.og (.fldA 1 (.var 37)) (.og (.lod (.var 0)) (.og (.fldA 2 (.var 39)) (.og (.lod (.var 0)) (.og (.bld [(.val (.int .i64 0)), (.val (.int .i64 0)), (.val (.int .i64 0)), (.val (.int .i64 0)), (.val (.int .i64 0)), (.val (.string ⟨#[]⟩)), (.val (.slice none 0 0))] [(0, 1), (1, 1), (2, 1), (3, 1), (4, 1), (5, 1), (6, 1)] [(0, (.lit (.val (.int .i64 15)))), (1, (.var 6)), (2, (.var 4)), (3, (.var 2)), (4, (.var 0))]) (.sto 7 (.var 44) (.var 0) (.og (.lodA 7 (.var 44)) (.rets [(.var 0), (.lit (.val (.bool true)))])))))))))))) (.og (.fldA 0 (.var 34)) (.og (.lod (.var 0)) (.og (.ibin .eql (.var 0) (.lit (.val (.int .i64 2)))) (.gog (.var 0) true false (.fldA 0 (.var 36)) (.gog (.var 1) true false (.lod (.var 0)) (.gog (.var 2) true false (.ibin .eql (.var 0) (.lit (.val (.int .i64 6)))) (.og (.pickV (.var 3) (.var 0) (.lit (.val (.bool false)))) (.gog (.var 0) true false (.ret (.var 45)) (.gog (.var 1) true false (.ibin .and (.var 0) (.lit (.val (.int .i64 8)))) (.gog (.var 2) true false (.ibin .neq (.var 0) (.lit (.val (.int .i64 0)))) (.og (.pickV (.var 3) (.var 0) (.lit (.val (.bool false)))) (.apick (.var 0) (.og (.fldA 1 (.var 45)) (.og (.lod (.var 0)) (.og (.fldA 2 (.var 47)) (.og (.lod (.var 0)) (.og (.fldA 1 (.var 48)) (.og (.lod (.var 0)) (.og (.bld [(.val (.int .i64 0)), (.val (.int .i64 0)), (.val (.int .i64 0)), (.val (.int .i64 0)), (.val (.int .i64 0)), (.val (.string ⟨#[]⟩)), (.val (.slice none 0 0))] [(0, 1), (1, 1), (2, 1), (3, 1), (4, 1), (5, 1), (6, 1)] [(0, (.lit (.val (.int .i64 16)))), (1, (.var 4)), (2, (.var 2)), (3, (.var 0))]) (.sto 7 (.var 53) (.var 0) (.og (.lodA 7 (.var 53)) (.rets [(.var 0), (.lit (.val (.bool true)))])))))))))) (.og (.bld [(.val (.int .i64 0)), (.val (.int .i64 0)), (.val (.int .i64 0)), (.val (.int .i64 0)), (.val (.int .i64 0)), (.val (.string ⟨#[]⟩)), (.val (.slice none 0 0))] [(0, 1), (1, 1), (2, 1), (3, 1), (4, 1), (5, 1), (6, 1)] []) (.sto 7 (.var 47) (.var 0) (.og (.lodA 7 (.var 47)) (.rets [(.var 0), (.lit (.val (.bool false)))]))))))))))))))))))))))))))))))))))))))))))))))))))))))))
set_option maxRecDepth 1000000 in
theorem x55_ok : okF TT Tryz.f55 3 x55 = true := by decide +kernel
set_option maxRecDepth 1000000 in
theorem s_impl_both_ok {a0 a1 a2 : AV} {σ : AH} {R : AEnd → AH → Prop} (h : s_impl_both a0 a1 a2 σ R) : acall TP fn_impl_both [a0, a1, a2] σ R :=
  acall_okF (ρ := [a2, a1, a0]) TT_ok Tryz.func55 rfl x55 x55_ok rfl h

/-- loop.example/g00349/laws.szOp -/
def s_laws_szOp (a0 a1 : AV) (σ : AH) (R : AEnd → AH → Prop) : Prop :=
  abox a0 σ fun v2 σ =>
  frz v2 σ fun f2 σ =>
  og (fldA 5 f2) fun v6 =>
  og (lod v6 σ) fun v7 =>
  og (lenStr v7) fun v8 =>
  og (ibin .sub a1 v8) fun v9 =>
  og (ibin .lss v9 (.val (.int .i64 0))) fun v11 =>
  apick v11 (
    aret (.val (.int .i64 (-1))) σ R) (
    og (fldA 6 f2) fun v12 =>
    og (lod v12 σ) fun v13 =>
    acall TP fn_laws_szDatumS [v13, v9] σ (onr (fun v15 σ =>
    og (ibin .lss v15 (.val (.int .i64 0))) fun v17 =>
    apick v17 (
      aret (.val (.int .i64 (-1))) σ R) (
      aret v15 σ R)) (fun v σ => apan v σ R)))
def x56 : Sx := .box (.var 1) (.frz 2 (.var 0) (.og (.fldA 5 (.var 0)) (.og (.lod (.var 0)) (.og (.lenStr (.var 0)) (.og (.ibin .sub (.var 5) (.var 0)) (.og (.ibin .lss (.var 0) (.lit (.val (.int .i64 0)))) (.apick (.var 0) (.ret (.lit (.val (.int .i64 (-1))))) (.og (.fldA 6 (.var 5)) (.og (.lod (.var 0)) (.call 73 [(.var 0), (.var 3)] (.og (.ibin .lss (.var 0) (.lit (.val (.int .i64 0)))) (.apick (.var 0) (.ret (.lit (.val (.int .i64 (-1))))) (.ret (.var 1))))))))))))))
set_option maxRecDepth 1000000 in
theorem x56_ok : okF TT Tryz.f56 2 x56 = true := by decide +kernel
set_option maxRecDepth 1000000 in
theorem s_laws_szOp_ok {a0 a1 : AV} {σ : AH} {R : AEnd → AH → Prop} (h : s_laws_szOp a0 a1 σ R) : acall TP fn_laws_szOp [a0, a1] σ R :=
  acall_okF (ρ := [a1, a0]) TT_ok Tryz.func56 rfl x56 x56_ok rfl h

/-- loop.example/g00349/spec.l9Block -/
def s_spec_l9Block (a0 : AV) (σ : AH) (R : AEnd → AH → Prop) : Prop :=
  og (anil a0) fun v6 =>
  og (fldA 0 v6) fun v7 =>
  og (lod v7 σ) fun v8 =>
  acall TP fn_spec_l1In [v8, (.val (.int .i64 0)), (.val (.int .i64 3))] σ (onr (fun v9 σ =>
  og (aun .not v9) fun v10 =>
  apick v10 (
    aret (.val (.int .i64 3)) σ R) (
    og (anil a0) fun v12 =>
    og (fldA 1 v12) fun v13 =>
    og (lod v13 σ) fun v14 =>
    og (lenS v14) fun v15 =>
    og (ibin .gtr v15 (.val (.int .i64 200))) fun v16 =>
    apick v16 (
      aret (.val (.int .i64 2)) σ R) (
      lp (X := Tup [0, 3]) (fun R1 y1 σ =>
        og (anil y1.1) fun v19 =>
        og (fldA 1 v19) fun v20 =>
        og (lod v20 σ) fun v21 =>
        og (lenS v21) fun v22 =>
        og (ibin .lss y1.2.1 v22) fun v23 =>
        apick v23 (
          og (anil y1.1) fun v27 =>
          og (fldA 1 v27) fun v28 =>
          og (lod v28 σ) fun v29 =>
          og (idx 7 v29 y1.2.1 σ) fun v31 =>
          acall TP fn_spec_l9Op [v31] σ (onr (fun v32 σ =>
          og (ibin .neq v32 (.val (.int .i64 0))) fun v34 =>
          apick v34 (
            aret v32 σ R) (
            og (ibin .add y1.2.1 (.val (.int .i64 1))) fun v25 =>
            R1 (y1.1, v25, ()) σ)) (fun v σ => apan v σ R))) (
          aret (.val (.int .i64 0)) σ R)) (a0, (.val (.int .i64 0)), ()) σ))) (fun v σ => apan v σ R))
def x57 : Sx := .og (.anil (.var 0)) (.og (.fldA 0 (.var 0)) (.og (.lod (.var 0)) (.call 50 [(.var 0), (.lit (.val (.int .i64 0))), (.lit (.val (.int .i64 3)))] (.og (.aun .not (.var 0)) (.apick (.var 0) (.ret (.lit (.val (.int .i64 3)))) (.og (.anil (.var 5)) (.og (.fldA 1 (.var 0)) (.og (.lod (.var 0)) (.og (.lenS (.var 0)) (.og (.ibin .gtr (.var 0) (.lit (.val (.int .i64 200)))) (.apick (.var 0) (.ret (.lit (.val (.int .i64 2)))) (.lp [0, 3] (.og (.anil (.var 0)) (.og (.fldA 1 (.var 0)) (.og (.lod (.var 0)) (.og (.lenS (.var 0)) (.og (.ibin .lss (.var 5) (.var 0)) (.apick (.var 0) (.og (.anil (.var 5)) (.og (.fldA 1 (.var 0)) (.og (.lod (.var 0)) (.og (.idx 7 (.var 0) (.var 9)) (.call 74 [(.var 0)] (.og (.ibin .neq (.var 0) (.lit (.val (.int .i64 0)))) (.apick (.var 0) (.ret (.var 1)) (.og (.ibin .add (.var 12) (.lit (.val (.int .i64 1)))) (.jump 0 [(.var 12), (.var 0)]))))))))) (.ret (.lit (.val (.int .i64 0)))))))))) [(.var 10), (.lit (.val (.int .i64 0)))]))))))))))))
set_option maxRecDepth 1000000 in
theorem x57_ok : okF TT Tryz.f57 1 x57 = true := by decide +kernel
set_option maxRecDepth 1000000 in
theorem s_spec_l9Block_ok {a0 : AV} {σ : AH} {R : AEnd → AH → Prop} (h : s_spec_l9Block a0 σ R) : acall TP fn_spec_l9Block [a0] σ R :=
  acall_okF (ρ := [a0]) TT_ok Tryz.func57 rfl x57 x57_ok rfl h

/-- loop.example/g00349/spec.l10Heights -/
def s_spec_l10Heights (a0 : AV) (σ : AH) (R : AEnd → AH → Prop) : Prop :=
  acall TP fn_spec_l9Block [a0] σ (onr (fun v11 σ =>
  og (ibin .neq v11 (.val (.int .i64 0))) fun v13 =>
  apick v13 (
    aret (.tup [(.val (.slice none 0 0)), v11]) σ R) (
    og (anil a0) fun v16 =>
    og (fldA 1 v16) fun v17 =>
    og (lod v17 σ) fun v18 =>
    og (lenS v18) fun v19 =>
    og (ibin .eql v19 (.val (.int .i64 0))) fun v20 =>
    apick v20 (
      aret (.tup [(.val (.slice none 0 0)), (.val (.int .i64 1))]) σ R) (
      lp (X := Tup [0, 5]) (fun R1 y1 σ =>
        og (anil y1.1) fun v23 =>
        og (fldA 1 v23) fun v24 =>
        og (lod v24 σ) fun v25 =>
        og (lenS v25) fun v26 =>
        og (ibin .lss y1.2.1 v26) fun v27 =>
        apick v27 (
          og (anil y1.1) fun v31 =>
          og (fldA 1 v31) fun v32 =>
          og (lod v32 σ) fun v33 =>
          og (idx 7 v33 y1.2.1 σ) fun v35 =>
          og (anil y1.1) fun v38 =>
          og (fldA 1 v38) fun v39 =>
          og (lod v39 σ) fun v40 =>
          og (lenS v40) fun v41 =>
          acall TP fn_spec_l9Target [v35] σ (onr (fun v36 σ =>
          (lod v39 σ = some v40 ∧ True) ∧
          og (ibin .geq v36 v41) fun v42 =>
          apick v42 (
            aret (.tup [(.val (.slice none 0 0)), (.val (.int .i64 1))]) σ R) (
            og (ibin .add y1.2.1 (.val (.int .i64 1))) fun v29 =>
            R1 (y1.1, v29, ()) σ)) (fun v σ => apan v σ R))) (
          bsl 1 [(.val (.int .i64 0))] 1 [(0, (.val (.int .i64 0)))] σ fun v43 σ =>
          lp (X := Tup [0, 6, 7]) (fun R2 y2 σ =>
            og (anil y2.1) fun v46 =>
            og (fldA 1 v46) fun v47 =>
            og (lod v47 σ) fun v48 =>
            og (lenS v48) fun v49 =>
            og (ibin .lss y2.2.2.1 v49) fun v50 =>
            apick v50 (
              bsl 1 [(.val (.int .i64 0))] 1 [(0, (.val (.int .i64 (-1))))] σ fun v54 σ =>
              app 1 y2.2.1 v54 σ fun v55 σ =>
              og (ibin .add y2.2.2.1 (.val (.int .i64 1))) fun v52 =>
              R2 (y2.1, v55, v52, ()) σ) (
              lp (X := Tup [0, 6]) (fun R3 y3 σ =>
                acall TP fn_spec_l10Pass [y3.1, y3.2.1] σ (onr (fun v59 σ =>
                og (aext v59 0) fun v60 =>
                og (aext v59 1) fun v61 =>
                og (aun .not v61) fun v63 =>
                apick v63 (
                  aret (.tup [(.val (.slice none 0 0)), (.val (.int .i64 1))]) σ R) (
                  og (aun .not v60) fun v65 =>
                  apick v65 (
                    aret (.tup [y3.2.1, (.val (.int .i64 0))]) σ R) (
                    R3 (y3.1, y3.2.1, ()) σ))) (fun v σ => apan v σ R))) (y2.1, y2.2.1, ()) σ)) (y1.1, v43, (.val (.int .i64 1)), ()) σ)) (a0, (.val (.int .i64 0)), ()) σ))) (fun v σ => apan v σ R))
def x58 : Sx := .call 57 [(.var 0)] (.og (.ibin .neq (.var 0) (.lit (.val (.int .i64 0)))) (.apick (.var 0) (.rets [(.lit (.val (.slice none 0 0))), (.var 1)]) (.og (.anil (.var 2)) (.og (.fldA 1 (.var 0)) (.og (.lod (.var 0)) (.og (.lenS (.var 0)) (.og (.ibin .eql (.var 0) (.lit (.val (.int .i64 0)))) (.apick (.var 0) (.rets [(.lit (.val (.slice none 0 0))), (.lit (.val (.int .i64 1)))]) (.lp [0, 5] (.og (.anil (.var 0)) (.og (.fldA 1 (.var 0)) (.og (.lod (.var 0)) (.og (.lenS (.var 0)) (.og (.ibin .lss (.var 5) (.var 0)) (.apick (.var 0) (.ord [0, 1, 2, 3, 4, 5, 7, 8, 9, 10, 11, 6, 12] [0, 1, 3, 7, 0, 31, 63, 0, 128, 384, 896, 1920, 4095] (.og (.anil (.var 5)) (.og (.fldA 1 (.var 0)) (.og (.lod (.var 0)) (.og (.idx 7 (.var 0) (.var 9)) (.og (.anil (.var 9)) (.og (.fldA 1 (.var 0)) (.og (.lod (.var 0)) (.og (.lenS (.var 0)) (.call 75 [(.var 4)] (.wat [⟨none, (.lod (.var 3)), (.var 2)⟩] (.og (.ibin .geq (.var 0) (.var 1)) (.apick (.var 0) (.rets [(.lit (.val (.slice none 0 0))), (.lit (.val (.int .i64 1)))]) (.og (.ibin .add (.var 16) (.lit (.val (.int .i64 1)))) (.jump 0 [(.var 16), (.var 0)]))))))))))))))) (.bsl 1 [(.val (.int .i64 0))] 1 [(0, (.lit (.val (.int .i64 0))))] (.lp [0, 6, 7] (.og (.anil (.var 0)) (.og (.fldA 1 (.var 0)) (.og (.lod (.var 0)) (.og (.lenS (.var 0)) (.og (.ibin .lss (.var 6) (.var 0)) (.apick (.var 0) (.bsl 1 [(.val (.int .i64 0))] 1 [(0, (.lit (.val (.int .i64 (-1)))))] (.app 1 (.var 7) (.var 0) (.og (.ibin .add (.var 9) (.lit (.val (.int .i64 1)))) (.jump 0 [(.var 8), (.var 1), (.var 0)])))) (.lp [0, 6] (.call 76 [(.var 0), (.var 1)] (.og (.aext (.var 0) 0) (.og (.aext (.var 1) 1) (.og (.aun .not (.var 0)) (.apick (.var 0) (.rets [(.lit (.val (.slice none 0 0))), (.lit (.val (.int .i64 1)))]) (.og (.aun .not (.var 2)) (.apick (.var 0) (.rets [(.var 6), (.lit (.val (.int .i64 0)))]) (.jump 0 [(.var 5), (.var 6)])))))))) [(.var 5), (.var 6)]))))))) [(.var 6), (.var 0), (.lit (.val (.int .i64 1)))])))))))) [(.var 7), (.lit (.val (.int .i64 0)))])))))))))
set_option maxRecDepth 1000000 in
theorem x58_ok : okF TT Tryz.f58 1 x58 = true := by decide +kernel
set_option maxRecDepth 1000000 in
theorem s_spec_l10Heights_ok {a0 : AV} {σ : AH} {R : AEnd → AH → Prop} (h : s_spec_l10Heights a0 σ R) : acall TP fn_spec_l10Heights [a0] σ R :=
  acall_okF (ρ := [a0]) TT_ok Tryz.func58 rfl x58 x58_ok rfl h

/-- loop.example/g00349/spec.l10Local -/
def s_spec_l10Local (a0 a1 a2 a3 a4 : AV) (σ : AH) (R : AEnd → AH → Prop) : Prop :=
  lp (X := Tup [0, 1, 2, 3, 4]) (fun R1 y1 σ =>
    og (ibin .gtr y1.2.2.2.1 (.val (.int .i64 0))) fun v12 =>
    og (gval v12 true false (some y1.2.2.1)) fun v14 =>
    og (gval v12 true false (ibin .gtr v14 (.val (.int .i64 0)))) fun v15 =>
    og (pickV v12 v15 (.val (.bool false))) fun v16 =>
    apick v16 (
      og (idx 1 y1.2.1 y1.2.2.1 σ) fun v21 =>
      og (lod v21 σ) fun v22 =>
      og (ibin .sub y1.2.2.2.1 (.val (.int .i64 1))) fun v18 =>
      R1 (y1.1, y1.2.1, v22, v18, y1.2.2.2.2.1, ()) σ) (
      og (ibin .gtr y1.2.2.1 (.val (.int .i64 0))) fun v24 =>
      og (gval v24 true false (some y1.2.2.2.2.1)) fun v26 =>
      og (gval v24 true false (some y1.1)) fun v27 =>
      og (gval v24 true false (some y1.2.2.1)) fun v28 =>
      og (gval v24 true false (idx 2 v27 v28 σ)) fun v29 =>
      og (gval v24 true false (fldA 0 v29)) fun v30 =>
      og (gval v24 true false (lod v30 σ)) fun v31 =>
      og (gval v24 true false (ibin .lss v26 v31)) fun v32 =>
      og (pickV v24 v32 (.val (.bool false))) fun v33 =>
      aret v33 σ R)) (a0, a1, a2, a3, a4, ()) σ
def x59 : Sx := .lp [0, 1, 2, 3, 4] (.og (.ibin .gtr (.var 3) (.lit (.val (.int .i64 0)))) (.gog (.var 0) true false (.ret (.var 3)) (.gog (.var 1) true false (.ibin .gtr (.var 0) (.lit (.val (.int .i64 0)))) (.og (.pickV (.var 2) (.var 0) (.lit (.val (.bool false)))) (.apick (.var 0) (.og (.idx 1 (.var 5) (.var 6)) (.og (.lod (.var 0)) (.og (.ibin .sub (.var 9) (.lit (.val (.int .i64 1)))) (.jump 0 [(.var 7), (.var 8), (.var 1), (.var 0), (.var 11)])))) (.og (.ibin .gtr (.var 6) (.lit (.val (.int .i64 0)))) (.gog (.var 0) true false (.ret (.var 9)) (.gog (.var 1) true false (.ret (.var 6)) (.gog (.var 2) true false (.ret (.var 9)) (.gog (.var 3) true false (.idx 2 (.var 1) (.var 0)) (.gog (.var 4) true false (.fldA 0 (.var 0)) (.gog (.var 5) true false (.lod (.var 0)) (.gog (.var 6) true false (.ibin .lss (.var 5) (.var 0)) (.og (.pickV (.var 7) (.var 0) (.lit (.val (.bool false)))) (.ret (.var 0)))))))))))))))) [(.var 4), (.var 3), (.var 2), (.var 1), (.var 0)]
set_option maxRecDepth 1000000 in
theorem x59_ok : okF TT Tryz.f59 5 x59 = true := by decide +kernel
set_option maxRecDepth 1000000 in
theorem s_spec_l10Local_ok {a0 a1 a2 a3 a4 : AV} {σ : AH} {R : AEnd → AH → Prop} (h : s_spec_l10Local a0 a1 a2 a3 a4 σ R) : acall TP fn_spec_l10Local [a0, a1, a2, a3, a4] σ R :=
  acall_okF (ρ := [a4, a3, a2, a1, a0]) TT_ok Tryz.func59 rfl x59 x59_ok rfl h

/-- loop.example/g00349/laws.toOp -/
def s_laws_toOp (a0 : AV) (σ : AH) (R : AEnd → AH → Prop) : Prop :=
  abox a0 σ fun v1 σ =>
  new [(.val (.int .i64 0)), (.val (.int .i64 0)), (.val (.int .i64 0)), (.val (.int .i64 0)), (.val (.int .i64 0)), (.val (.string ⟨#[]⟩)), (.val (.slice none 0 0))] σ fun v2 σ =>
  frz v1 σ fun f1 σ =>
  new [(.val (.int .i64 0)), (.val (.int .i64 0)), (.val (.int .i64 0)), (.val (.int .i64 0)), (.val (.int .i64 0)), (.val (.string ⟨#[]⟩)), (.val (.slice none 0 0))] σ fun v3 σ =>
  og (fldA 0 f1) fun v4 =>
  og (lod v4 σ) fun v5 =>
  og (fldA 0 v3) fun v6 =>
  sto 1 v6 v5 σ fun σ =>
  og (fldA 1 f1) fun v7 =>
  og (lod v7 σ) fun v8 =>
  og (fldA 1 v3) fun v9 =>
  sto 1 v9 v8 σ fun σ =>
  og (fldA 2 f1) fun v10 =>
  og (lod v10 σ) fun v11 =>
  og (fldA 2 v3) fun v12 =>
  sto 1 v12 v11 σ fun σ =>
  og (fldA 3 f1) fun v13 =>
  og (lod v13 σ) fun v14 =>
  og (fldA 3 v3) fun v15 =>
  sto 1 v15 v14 σ fun σ =>
  og (fldA 4 f1) fun v16 =>
  og (lod v16 σ) fun v17 =>
  og (fldA 4 v3) fun v18 =>
  sto 1 v18 v17 σ fun σ =>
  og (fldA 5 f1) fun v19 =>
  og (lod v19 σ) fun v20 =>
  og (fldA 5 v3) fun v21 =>
  sto 1 v21 v20 σ fun σ =>
  og (fldA 6 f1) fun v22 =>
  og (lod v22 σ) fun v23 =>
  acall TP fn_laws_toDatumS [v23] σ (onr (fun v24 σ =>
  og (fldA 6 v3) fun v25 =>
  sto 1 v25 v24 σ fun σ =>
  frz v3 σ fun f3 σ =>
  og (lodA 7 f3 σ) fun v26 =>
  sto 7 v2 v26 σ fun σ =>
  og (lodA 7 v2 σ) fun r2 =>
  aret r2 σ R) (fun v σ => apan v σ R))
def x60 : Sx := .box (.var 0) (.new [(.val (.int .i64 0)), (.val (.int .i64 0)), (.val (.int .i64 0)), (.val (.int .i64 0)), (.val (.int .i64 0)), (.val (.string ⟨#[]⟩)), (.val (.slice none 0 0))] (.frz 1 (.var 1) (.new [(.val (.int .i64 0)), (.val (.int .i64 0)), (.val (.int .i64 0)), (.val (.int .i64 0)), (.val (.int .i64 0)), (.val (.string ⟨#[]⟩)), (.val (.slice none 0 0))] (.og (.fldA 0 (.var 1)) (.og (.lod (.var 0)) (.og (.fldA 0 (.var 2)) (.sto 1 (.var 0) (.var 1) (.og (.fldA 1 (.var 4)) (.og (.lod (.var 0)) (.og (.fldA 1 (.var 5)) (.sto 1 (.var 0) (.var 1) (.og (.fldA 2 (.var 7)) (.og (.lod (.var 0)) (.og (.fldA 2 (.var 8)) (.sto 1 (.var 0) (.var 1) (.og (.fldA 3 (.var 10)) (.og (.lod (.var 0)) (.og (.fldA 3 (.var 11)) (.sto 1 (.var 0) (.var 1) (.og (.fldA 4 (.var 13)) (.og (.lod (.var 0)) (.og (.fldA 4 (.var 14)) (.sto 1 (.var 0) (.var 1) (.og (.fldA 5 (.var 16)) (.og (.lod (.var 0)) (.og (.fldA 5 (.var 17)) (.sto 1 (.var 0) (.var 1) (.og (.fldA 6 (.var 19)) (.og (.lod (.var 0)) (.call 77 [(.var 0)] (.og (.fldA 6 (.var 21)) (.sto 1 (.var 0) (.var 1) (.frz 4 (.var 22) (.og (.lodA 7 (.var 0)) (.sto 7 (.var 26) (.var 0) (.og (.lodA 7 (.var 26)) (.ret (.var 0))))))))))))))))))))))))))))))))))))))
set_option maxRecDepth 1000000 in
theorem x60_ok : okF TT Tryz.f60 1 x60 = true := by decide +kernel
set_option maxRecDepth 1000000 in
theorem s_laws_toOp_ok {a0 : AV} {σ : AH} {R : AEnd → AH → Prop} (h : s_laws_toOp a0 σ R) : acall TP fn_laws_toOp [a0] σ R :=
  acall_okF (ρ := [a0]) TT_ok Tryz.func60 rfl x60 x60_ok rfl h

end Go.Proofs.YtlggnigbemghgaaGreatDoor.E
