/- What functions come to. Printed by mkg.py. -/
import Derived.Test.YtmmhaiidcfgbbaaGreatDoorGZ0
namespace Go.Proofs.YtmmhaiidcfgbbaaGreatDoor.E
open Go Go.RowKit
set_option linter.unusedVariables false
set_option linter.unusedSectionVars false
variable [Lam]
/-- loop.example/g00349/laws.FnExactCompileCore -/
def s_laws_FnExactCompileCore (a0 : AV) (σ : AH) (R : AEnd → AH → Prop) : Prop :=
  acall TP fn_laws_szCoreS [a0, (.val (.int .i64 1048576))] σ (onr (fun v13 σ =>
  og (ibin .lss v13 (.val (.int .i64 0))) fun v15 =>
  apick v15 (
    aret (.val (.bool true)) σ R) (
    acall TP fn_laws_toCoreS [a0] σ (onr (fun v17 σ =>
    acall TP fn_spec_CompileCore [v17] σ (onr (fun v18 σ =>
    new [(.val (.int .i64 0)), (.val (.slice none 0 0))] σ fun v4 σ =>
    sto 2 v4 v18 σ fun σ =>
    frz v4 σ fun f4 σ =>
    acall TP fn_laws_toCoreS [a0] σ (onr (fun v20 σ =>
    acall TP fn_impl_CompileCore [v20] σ (onr (fun v22 σ =>
    new [(.val (.int .i64 0)), (.val (.slice none 0 0))] σ fun v6 σ =>
    sto 2 v6 v22 σ fun σ =>
    frz v6 σ fun f6 σ =>
    og (lodA 2 f6 σ) fun v23 =>
    og (lodA 2 f4 σ) fun v24 =>
    acall TP fn_laws_eqCodeResult [v23, v24] σ (onr (fun v25 σ =>
    og (aun .not v25) fun v26 =>
    apick v26 (
      aret (.val (.bool false)) σ R) (
      acall TP fn_laws_toCoreS [a0] σ (onr (fun v29 σ =>
      acall TP fn_laws_eqCoreS [v20, v29] σ (onr (fun v30 σ =>
      og (aun .not v30) fun v31 =>
      apick v31 (
        aret (.val (.bool false)) σ R) (
        acall TP fn_laws_markCoreS [v20, (.val (.int .i64 1))] σ (onr (fun v34 σ =>
        jn (X := Tup [0, 4, 6, 42]) (fun x1 σ =>
            apick x1.2.2.2.1 (
              aret (.val (.bool false)) σ R) (
              og (lodA 2 x1.2.2.1 σ) fun v43 =>
              acall TP fn_laws_markCodeResult [v43, (.val (.int .i64 1))] σ (onr (fun v45 σ =>
              og (lodA 2 x1.2.2.1 σ) fun v46 =>
              acall TP fn_laws_heldCodeResult [v46, (.val (.int .i64 1))] σ (onr (fun v48 σ =>
              og (ibin .lss v48 (.val (.int .i64 0))) fun v50 =>
              apick v50 (
                aret (.val (.bool false)) σ R) (
                og (ibin .neq v48 v45) fun v53 =>
                apick v53 (
                  aret (.val (.bool false)) σ R) (
                  acall TP fn_laws_toCoreS [x1.1] σ (onr (fun v55 σ =>
                  acall TP fn_impl_CompileCore [v55] σ (onr (fun v56 σ =>
                  new [(.val (.int .i64 0)), (.val (.slice none 0 0))] σ fun v10 σ =>
                  sto 2 v10 v56 σ fun σ =>
                  frz v10 σ fun f10 σ =>
                  og (lodA 2 f10 σ) fun v57 =>
                  og (lodA 2 x1.2.1 σ) fun v58 =>
                  acall TP fn_laws_eqCodeResult [v57, v58] σ (onr (fun v59 σ =>
                  og (aun .not v59) fun v60 =>
                  apick v60 (
                    aret (.val (.bool false)) σ R) (
                    og (lodA 2 x1.2.2.1 σ) fun v61 =>
                    acall TP fn_laws_heldCodeResult [v61, (.val (.int .i64 1))] σ (onr (fun v63 σ =>
                    og (ibin .lss v63 (.val (.int .i64 0))) fun v65 =>
                    apick v65 (
                      aret (.val (.bool false)) σ R) (
                      og (ibin .neq v63 v45) fun v68 =>
                      apick v68 (
                        aret (.val (.bool false)) σ R) (
                        aret (.val (.bool true)) σ R))) (fun v σ => apan v σ R)))) (fun v σ => apan v σ R))) (fun v σ => apan v σ R))) (fun v σ => apan v σ R))))) (fun v σ => apan v σ R))) (fun v σ => apan v σ R)))) fun k1 =>
          og (ibin .lss v34 (.val (.int .i64 0))) fun v36 =>
          og (gval v36 false false (lodA 2 f6 σ)) fun v38 =>
          og (gval v36 false false (lodA 2 f4 σ)) fun v39 =>
          gpick v36 (
            k1 (a0, f4, f6, (.val (.bool true)), ()) σ) (
            acall TP fn_laws_eqCodeResult [v38, v39] σ (onr (fun v40 σ =>
            og (aun .not v40) fun v41 =>
            k1 (a0, f4, f6, v41, ()) σ) (fun v σ => apan v σ R))) (False)) (fun v σ => apan v σ R)))) (fun v σ => apan v σ R))) (fun v σ => apan v σ R)))) (fun v σ => apan v σ R))) (fun v σ => apan v σ R))) (fun v σ => apan v σ R))) (fun v σ => apan v σ R))) (fun v σ => apan v σ R)))) (fun v σ => apan v σ R))
def x3 : Sx := .call 4 [(.var 0), (.lit (.val (.int .i64 1048576)))] (.og (.ibin .lss (.var 0) (.lit (.val (.int .i64 0)))) (.apick (.var 0) (.ret (.lit (.val (.bool true)))) (.call 6 [(.var 2)] (.call 5 [(.var 0)] (.new [(.val (.int .i64 0)), (.val (.slice none 0 0))] (.sto 2 (.var 0) (.var 1) (.frz 5 (.var 0) (.call 6 [(.var 6)] (.call 7 [(.var 0)] (.new [(.val (.int .i64 0)), (.val (.slice none 0 0))] (.sto 2 (.var 0) (.var 1) (.frz 9 (.var 0) (.og (.lodA 2 (.var 0)) (.og (.lodA 2 (.var 5)) (.call 8 [(.var 1), (.var 0)] (.og (.aun .not (.var 0)) (.apick (.var 0) (.ret (.lit (.val (.bool false)))) (.call 6 [(.var 14)] (.call 9 [(.var 8), (.var 0)] (.og (.aun .not (.var 0)) (.apick (.var 0) (.ret (.lit (.val (.bool false)))) (.call 10 [(.var 10), (.lit (.val (.int .i64 1)))] (.jn 16381 [0, 4, 6, 42] (.apick (.var 3) (.ret (.lit (.val (.bool false)))) (.og (.lodA 2 (.var 2)) (.call 11 [(.var 0), (.lit (.val (.int .i64 1)))] (.og (.lodA 2 (.var 4)) (.call 12 [(.var 0), (.lit (.val (.int .i64 1)))] (.og (.ibin .lss (.var 0) (.lit (.val (.int .i64 0)))) (.apick (.var 0) (.ret (.lit (.val (.bool false)))) (.og (.ibin .neq (.var 1) (.var 3)) (.apick (.var 0) (.ret (.lit (.val (.bool false)))) (.call 6 [(.var 6)] (.call 7 [(.var 0)] (.new [(.val (.int .i64 0)), (.val (.slice none 0 0))] (.sto 2 (.var 0) (.var 1) (.frz 12 (.var 0) (.og (.lodA 2 (.var 0)) (.og (.lodA 2 (.var 12)) (.call 8 [(.var 1), (.var 0)] (.og (.aun .not (.var 0)) (.apick (.var 0) (.ret (.lit (.val (.bool false)))) (.og (.lodA 2 (.var 16)) (.call 12 [(.var 0), (.lit (.val (.int .i64 1)))] (.og (.ibin .lss (.var 0) (.lit (.val (.int .i64 0)))) (.apick (.var 0) (.ret (.lit (.val (.bool false)))) (.og (.ibin .neq (.var 1) (.var 15)) (.apick (.var 0) (.ret (.lit (.val (.bool false)))) (.ret (.lit (.val (.bool true))))))))))))))))))))))))))))) (.og (.ibin .lss (.var 0) (.lit (.val (.int .i64 0)))) (.gog (.var 0) false false (.lodA 2 (.var 9)) (.gog (.var 1) false false (.lodA 2 (.var 14)) (.gpick (.var 2) (.jump 0 [(.var 21), (.var 15), (.var 11), (.lit (.val (.bool true)))]) (.call 8 [(.var 1), (.var 0)] (.og (.aun .not (.var 0)) (.jump 0 [(.var 23), (.var 17), (.var 13), (.var 0)]))) (.no))))))))))))))))))))))))))))
set_option maxRecDepth 1000000 in
theorem x3_ok : okF TT Tryz.f3 1 x3 = true := by decide +kernel
set_option maxRecDepth 1000000 in
theorem s_laws_FnExactCompileCore_ok {a0 : AV} {σ : AH} {R : AEnd → AH → Prop} (h : s_laws_FnExactCompileCore a0 σ R) : acall TP fn_laws_FnExactCompileCore [a0] σ R :=
  acall_okF (ρ := [a0]) TT_ok Tryz.func3 rfl x3 x3_ok rfl h

/-- loop.example/g00349/laws.szCoreS -/
def s_laws_szCoreS (a0 a1 : AV) (σ : AH) (R : AEnd → AH → Prop) : Prop :=
  og (lenS a0) fun v8 =>
  og (ibin .sub a1 v8) fun v9 =>
  og (ibin .lss v9 (.val (.int .i64 0))) fun v11 =>
  apick v11 (
    aret (.val (.int .i64 (-1))) σ R) (
    lp (X := Tup [0, 1, 5]) (fun R1 y1 σ =>
      og (lenS y1.1) fun v14 =>
      og (ibin .lss y1.2.2.1 v14) fun v15 =>
      apick v15 (
        og (idx 6 y1.1 y1.2.2.1 σ) fun v20 =>
        og (lodA 6 v20 σ) fun v21 =>
        acall TP fn_laws_szCore [v21, y1.2.1] σ (onr (fun v23 σ =>
        og (ibin .lss v23 (.val (.int .i64 0))) fun v25 =>
        apick v25 (
          aret (.val (.int .i64 (-1))) σ R) (
          og (ibin .add y1.2.2.1 (.val (.int .i64 1))) fun v17 =>
          R1 (y1.1, v23, v17, ()) σ)) (fun v σ => apan v σ R))) (
        aret y1.2.1 σ R)) (a0, v9, (.val (.int .i64 0)), ()) σ)
def x4 : Sx := .og (.lenS (.var 1)) (.og (.ibin .sub (.var 1) (.var 0)) (.og (.ibin .lss (.var 0) (.lit (.val (.int .i64 0)))) (.apick (.var 0) (.ret (.lit (.val (.int .i64 (-1))))) (.lp [0, 1, 5] (.og (.lenS (.var 0)) (.og (.ibin .lss (.var 3) (.var 0)) (.apick (.var 0) (.og (.idx 6 (.var 2) (.var 4)) (.og (.lodA 6 (.var 0)) (.call 13 [(.var 0), (.var 5)] (.og (.ibin .lss (.var 0) (.lit (.val (.int .i64 0)))) (.apick (.var 0) (.ret (.lit (.val (.int .i64 (-1))))) (.og (.ibin .add (.var 8) (.lit (.val (.int .i64 1)))) (.jump 0 [(.var 7), (.var 2), (.var 0)]))))))) (.ret (.var 3))))) [(.var 4), (.var 1), (.lit (.val (.int .i64 0)))]))))
set_option maxRecDepth 1000000 in
theorem x4_ok : okF TT Tryz.f4 2 x4 = true := by decide +kernel
set_option maxRecDepth 1000000 in
theorem s_laws_szCoreS_ok {a0 a1 : AV} {σ : AH} {R : AEnd → AH → Prop} (h : s_laws_szCoreS a0 a1 σ R) : acall TP fn_laws_szCoreS [a0, a1] σ R :=
  acall_okF (ρ := [a1, a0]) TT_ok Tryz.func4 rfl x4 x4_ok rfl h

/-- loop.example/g00349/spec.CompileCore -/
def s_spec_CompileCore (a0 : AV) (σ : AH) (R : AEnd → AH → Prop) : Prop :=
  new [(.val (.int .i64 0)), (.val (.slice none 0 0))] σ fun v2 σ =>
  acall TP fn_spec_l4Fault [a0] σ (onr (fun v7 σ =>
  og (ibin .neq v7 (.val (.int .i64 0))) fun v9 =>
  apick v9 (
    og (bld [(.val (.int .i64 0)), (.val (.slice none 0 0))] [(0, 1), (1, 1)] [(0, v7)]) fun v11 =>
    sto 2 v2 v11 σ fun σ =>
    og (lodA 2 v2 σ) fun r2 =>
    aret r2 σ R) (
    acall TP fn_spec_l9Code [a0] σ (onr (fun v14 σ =>
    og (aext v14 0) fun v15 =>
    og (aext v14 1) fun v16 =>
    og (aun .not v16) fun v18 =>
    apick v18 (
      og (bld [(.val (.int .i64 0)), (.val (.slice none 0 0))] [(0, 1), (1, 1)] [(0, (.val (.int .i64 2)))]) fun v19 =>
      sto 2 v2 v19 σ fun σ =>
      og (lodA 2 v2 σ) fun r2 =>
      aret r2 σ R) (
      og (bld [(.val (.int .i64 0)), (.val (.slice none 0 0))] [(0, 1), (1, 1)] [(1, v15)]) fun v21 =>
      sto 2 v2 v21 σ fun σ =>
      og (lodA 2 v2 σ) fun r2 =>
      aret r2 σ R)) (fun v σ => apan v σ R)))) (fun v σ => apan v σ R))
def x5 : Sx := .new [(.val (.int .i64 0)), (.val (.slice none 0 0))] (.call 14 [(.var 1)] (.og (.ibin .neq (.var 0) (.lit (.val (.int .i64 0)))) (.apick (.var 0) (.og (.bld [(.val (.int .i64 0)), (.val (.slice none 0 0))] [(0, 1), (1, 1)] [(0, (.var 1))]) (.sto 2 (.var 3) (.var 0) (.og (.lodA 2 (.var 3)) (.ret (.var 0))))) (.call 15 [(.var 3)] (.og (.aext (.var 0) 0) (.og (.aext (.var 1) 1) (.og (.aun .not (.var 0)) (.apick (.var 0) (.og (.bld [(.val (.int .i64 0)), (.val (.slice none 0 0))] [(0, 1), (1, 1)] [(0, (.lit (.val (.int .i64 2))))]) (.sto 2 (.var 7) (.var 0) (.og (.lodA 2 (.var 7)) (.ret (.var 0))))) (.og (.bld [(.val (.int .i64 0)), (.val (.slice none 0 0))] [(0, 1), (1, 1)] [(1, (.var 2))]) (.sto 2 (.var 7) (.var 0) (.og (.lodA 2 (.var 7)) (.ret (.var 0)))))))))))))
set_option maxRecDepth 1000000 in
theorem x5_ok : okF TT Tryz.f5 1 x5 = true := by decide +kernel
set_option maxRecDepth 1000000 in
theorem s_spec_CompileCore_ok {a0 : AV} {σ : AH} {R : AEnd → AH → Prop} (h : s_spec_CompileCore a0 σ R) : acall TP fn_spec_CompileCore [a0] σ R :=
  acall_okF (ρ := [a0]) TT_ok Tryz.func5 rfl x5 x5_ok rfl h

/-- loop.example/g00349/laws.toCoreS -/
def s_laws_toCoreS (a0 : AV) (σ : AH) (R : AEnd → AH → Prop) : Prop :=
  og (lenS a0) fun v6 =>
  amake TT ty_LRiiiisLRiiisEE v6 v6 σ fun v7 σ =>
  lp (X := Tup [0, 3, 4]) (fun R1 y1 σ =>
    og (lenS y1.1) fun v10 =>
    og (ibin .lss y1.2.2.1 v10) fun v11 =>
    apick v11 (
      og (idx 6 y1.1 y1.2.2.1 σ) fun v18 =>
      og (lodA 6 v18 σ) fun v19 =>
      acall TP fn_laws_toCore [v19] σ (onr (fun v20 σ =>
      og (idx 6 y1.2.1 y1.2.2.1 σ) fun v21 =>
      sto 6 v21 v20 σ fun σ =>
      og (ibin .add y1.2.2.1 (.val (.int .i64 1))) fun v13 =>
      R1 (y1.1, y1.2.1, v13, ()) σ) (fun v σ => apan v σ R))) (
      aret y1.2.1 σ R)) (a0, v7, (.val (.int .i64 0)), ()) σ
def x6 : Sx := .og (.lenS (.var 0)) (.mks 28 (.var 0) (.var 0) (.lp [0, 3, 4] (.og (.lenS (.var 0)) (.og (.ibin .lss (.var 3) (.var 0)) (.apick (.var 0) (.og (.idx 6 (.var 2) (.var 4)) (.og (.lodA 6 (.var 0)) (.call 16 [(.var 0)] (.og (.idx 6 (.var 6) (.var 7)) (.sto 6 (.var 0) (.var 1) (.og (.ibin .add (.var 8) (.lit (.val (.int .i64 1)))) (.jump 0 [(.var 7), (.var 8), (.var 0)]))))))) (.ret (.var 3))))) [(.var 2), (.var 0), (.lit (.val (.int .i64 0)))]))
set_option maxRecDepth 1000000 in
theorem x6_ok : okF TT Tryz.f6 1 x6 = true := by decide +kernel
set_option maxRecDepth 1000000 in
theorem s_laws_toCoreS_ok {a0 : AV} {σ : AH} {R : AEnd → AH → Prop} (h : s_laws_toCoreS a0 σ R) : acall TP fn_laws_toCoreS [a0] σ R :=
  acall_okF (ρ := [a0]) TT_ok Tryz.func6 rfl x6 x6_ok rfl h

/-- loop.example/g00349/impl.CompileCore -/
def s_impl_CompileCore (a0 : AV) (σ : AH) (R : AEnd → AH → Prop) : Prop :=
  new [(.val (.int .i64 0)), (.val (.slice none 0 0))] σ fun v2 σ =>
  acall TP fn_impl_CoreFault [a0] σ (onr (fun v7 σ =>
  og (ibin .neq v7 (.val (.int .i64 0))) fun v9 =>
  apick v9 (
    og (bld [(.val (.int .i64 0)), (.val (.slice none 0 0))] [(0, 1), (1, 1)] [(0, v7)]) fun v11 =>
    sto 2 v2 v11 σ fun σ =>
    og (lodA 2 v2 σ) fun r2 =>
    aret r2 σ R) (
    acall TP fn_impl_compiled [a0] σ (onr (fun v14 σ =>
    og (aext v14 0) fun v15 =>
    og (aext v14 1) fun v16 =>
    og (bld [(.val (.int .i64 0)), (.val (.slice none 0 0))] [(0, 1), (1, 1)] [(0, v16), (1, v15)]) fun v19 =>
    sto 2 v2 v19 σ fun σ =>
    og (lodA 2 v2 σ) fun r2 =>
    aret r2 σ R) (fun v σ => apan v σ R)))) (fun v σ => apan v σ R))
def x7 : Sx := .new [(.val (.int .i64 0)), (.val (.slice none 0 0))] (.call 17 [(.var 1)] (.og (.ibin .neq (.var 0) (.lit (.val (.int .i64 0)))) (.apick (.var 0) (.og (.bld [(.val (.int .i64 0)), (.val (.slice none 0 0))] [(0, 1), (1, 1)] [(0, (.var 1))]) (.sto 2 (.var 3) (.var 0) (.og (.lodA 2 (.var 3)) (.ret (.var 0))))) (.call 18 [(.var 3)] (.og (.aext (.var 0) 0) (.og (.aext (.var 1) 1) (.og (.bld [(.val (.int .i64 0)), (.val (.slice none 0 0))] [(0, 1), (1, 1)] [(0, (.var 0)), (1, (.var 1))]) (.sto 2 (.var 6) (.var 0) (.og (.lodA 2 (.var 6)) (.ret (.var 0)))))))))))
set_option maxRecDepth 1000000 in
theorem x7_ok : okF TT Tryz.f7 1 x7 = true := by decide +kernel
set_option maxRecDepth 1000000 in
theorem s_impl_CompileCore_ok {a0 : AV} {σ : AH} {R : AEnd → AH → Prop} (h : s_impl_CompileCore a0 σ R) : acall TP fn_impl_CompileCore [a0] σ R :=
  acall_okF (ρ := [a0]) TT_ok Tryz.func7 rfl x7 x7_ok rfl h

/-- loop.example/g00349/laws.eqCodeResult -/
def s_laws_eqCodeResult (a0 a1 : AV) (σ : AH) (R : AEnd → AH → Prop) : Prop :=
  abox a0 σ fun v2 σ =>
  abox a1 σ fun v3 σ =>
  frz v2 σ fun f2 σ =>
  frz v3 σ fun f3 σ =>
  og (fldA 0 f2) fun v5 =>
  og (lod v5 σ) fun v6 =>
  og (fldA 0 f3) fun v7 =>
  og (lod v7 σ) fun v8 =>
  og (ibin .neq v6 v8) fun v9 =>
  apick v9 (
    aret (.val (.bool false)) σ R) (
    og (fldA 1 f2) fun v10 =>
    og (lod v10 σ) fun v11 =>
    og (fldA 1 f3) fun v12 =>
    og (lod v12 σ) fun v13 =>
    acall TP fn_laws_eqBlockS [v11, v13] σ (onr (fun v14 σ =>
    og (aun .not v14) fun v15 =>
    apick v15 (
      aret (.val (.bool false)) σ R) (
      aret (.val (.bool true)) σ R)) (fun v σ => apan v σ R)))
def x8 : Sx := .box (.var 1) (.box (.var 1) (.frz 2 (.var 1) (.frz 3 (.var 1) (.og (.fldA 0 (.var 1)) (.og (.lod (.var 0)) (.og (.fldA 0 (.var 2)) (.og (.lod (.var 0)) (.og (.ibin .neq (.var 2) (.var 0)) (.apick (.var 0) (.ret (.lit (.val (.bool false)))) (.og (.fldA 1 (.var 6)) (.og (.lod (.var 0)) (.og (.fldA 1 (.var 7)) (.og (.lod (.var 0)) (.call 19 [(.var 2), (.var 0)] (.og (.aun .not (.var 0)) (.apick (.var 0) (.ret (.lit (.val (.bool false)))) (.ret (.lit (.val (.bool true))))))))))))))))))))
set_option maxRecDepth 1000000 in
theorem x8_ok : okF TT Tryz.f8 2 x8 = true := by decide +kernel
set_option maxRecDepth 1000000 in
theorem s_laws_eqCodeResult_ok {a0 a1 : AV} {σ : AH} {R : AEnd → AH → Prop} (h : s_laws_eqCodeResult a0 a1 σ R) : acall TP fn_laws_eqCodeResult [a0, a1] σ R :=
  acall_okF (ρ := [a1, a0]) TT_ok Tryz.func8 rfl x8 x8_ok rfl h

/-- loop.example/g00349/laws.eqCoreS -/
def s_laws_eqCoreS (a0 a1 : AV) (σ : AH) (R : AEnd → AH → Prop) : Prop :=
  og (lenS a0) fun v7 =>
  og (lenS a1) fun v9 =>
  og (ibin .neq v7 v9) fun v10 =>
  apick v10 (
    aret (.val (.bool false)) σ R) (
    lp (X := Tup [0, 1, 5]) (fun R1 y1 σ =>
      og (lenS y1.1) fun v13 =>
      og (ibin .lss y1.2.2.1 v13) fun v14 =>
      apick v14 (
        og (idx 6 y1.1 y1.2.2.1 σ) fun v19 =>
        og (lodA 6 v19 σ) fun v20 =>
        og (idx 6 y1.2.1 y1.2.2.1 σ) fun v23 =>
        og (lodA 6 v23 σ) fun v24 =>
        acall TP fn_laws_eqCore [v20, v24] σ (onr (fun v25 σ =>
        (True) ∧
        og (aun .not v25) fun v26 =>
        apick v26 (
          aret (.val (.bool false)) σ R) (
          og (ibin .add y1.2.2.1 (.val (.int .i64 1))) fun v16 =>
          R1 (y1.1, y1.2.1, v16, ()) σ)) (fun v σ => apan v σ R))) (
        aret (.val (.bool true)) σ R)) (a0, a1, (.val (.int .i64 0)), ()) σ)
def x9 : Sx := .og (.lenS (.var 1)) (.og (.lenS (.var 1)) (.og (.ibin .neq (.var 1) (.var 0)) (.apick (.var 0) (.ret (.lit (.val (.bool false)))) (.lp [0, 1, 5] (.og (.lenS (.var 0)) (.og (.ibin .lss (.var 3) (.var 0)) (.apick (.var 0) (.ord [0, 1, 2, 3, 4, 5, 6, 7, 8, 9] [0, 0, 3, 7, 0, 0, 48, 112, 255, 511] (.og (.idx 6 (.var 2) (.var 4)) (.og (.lodA 6 (.var 0)) (.og (.idx 6 (.var 5) (.var 6)) (.og (.lodA 6 (.var 0)) (.call 20 [(.var 2), (.var 0)] (.wat [] (.og (.aun .not (.var 0)) (.apick (.var 0) (.ret (.lit (.val (.bool false)))) (.og (.ibin .add (.var 10) (.lit (.val (.int .i64 1)))) (.jump 0 [(.var 9), (.var 10), (.var 0)]))))))))))) (.ret (.lit (.val (.bool true))))))) [(.var 4), (.var 3), (.lit (.val (.int .i64 0)))]))))
set_option maxRecDepth 1000000 in
theorem x9_ok : okF TT Tryz.f9 2 x9 = true := by decide +kernel
set_option maxRecDepth 1000000 in
theorem s_laws_eqCoreS_ok {a0 a1 : AV} {σ : AH} {R : AEnd → AH → Prop} (h : s_laws_eqCoreS a0 a1 σ R) : acall TP fn_laws_eqCoreS [a0, a1] σ R :=
  acall_okF (ρ := [a1, a0]) TT_ok Tryz.func9 rfl x9 x9_ok rfl h

/-- loop.example/g00349/laws.markCoreS -/
def s_laws_markCoreS (a0 a1 : AV) (σ : AH) (R : AEnd → AH → Prop) : Prop :=
  lp (X := Tup [0, 1, 5]) (fun R1 y1 σ =>
    og (lenS y1.1) fun v8 =>
    og (ibin .lss y1.2.2.1 v8) fun v9 =>
    apick v9 (
      og (idx 6 y1.1 y1.2.2.1 σ) fun v15 =>
      og (fldA 0 v15) fun v16 =>
      sto 1 v16 y1.2.1 σ fun σ =>
      og (ibin .add y1.2.1 (.val (.int .i64 1))) fun v18 =>
      og (idx 6 y1.1 y1.2.2.1 σ) fun v22 =>
      og (fldA 1 v22) fun v23 =>
      sto 1 v23 v18 σ fun σ =>
      og (ibin .add v18 (.val (.int .i64 1))) fun v25 =>
      og (idx 6 y1.1 y1.2.2.1 σ) fun v29 =>
      og (fldA 2 v29) fun v30 =>
      sto 1 v30 v25 σ fun σ =>
      og (ibin .add v25 (.val (.int .i64 1))) fun v32 =>
      og (idx 6 y1.1 y1.2.2.1 σ) fun v36 =>
      og (fldA 3 v36) fun v37 =>
      sto 1 v37 v32 σ fun σ =>
      og (ibin .add v32 (.val (.int .i64 1))) fun v39 =>
      acall TP fn_laws_markText [v39] σ (onr (fun v43 σ =>
      og (idx 6 y1.1 y1.2.2.1 σ) fun v44 =>
      og (fldA 4 v44) fun v45 =>
      sto 1 v45 v43 σ fun σ =>
      og (ibin .add v39 (.val (.int .i64 1))) fun v47 =>
      og (idx 6 y1.1 y1.2.2.1 σ) fun v50 =>
      og (fldA 5 v50) fun v51 =>
      og (lod v51 σ) fun v52 =>
      acall TP fn_laws_markDatumS [v52, v47] σ (onr (fun v54 σ =>
      og (ibin .add y1.2.2.1 (.val (.int .i64 1))) fun v11 =>
      R1 (y1.1, v54, v11, ()) σ) (fun v σ => apan v σ R))) (fun v σ => apan v σ R))) (
      aret y1.2.1 σ R)) (a0, a1, (.val (.int .i64 0)), ()) σ
def x10 : Sx := .lp [0, 1, 5] (.og (.lenS (.var 0)) (.og (.ibin .lss (.var 3) (.var 0)) (.apick (.var 0) (.og (.idx 6 (.var 2) (.var 4)) (.og (.fldA 0 (.var 0)) (.sto 1 (.var 0) (.var 5) (.og (.ibin .add (.var 5) (.lit (.val (.int .i64 1)))) (.og (.idx 6 (.var 5) (.var 7)) (.og (.fldA 1 (.var 0)) (.sto 1 (.var 0) (.var 2) (.og (.ibin .add (.var 2) (.lit (.val (.int .i64 1)))) (.og (.idx 6 (.var 8) (.var 10)) (.og (.fldA 2 (.var 0)) (.sto 1 (.var 0) (.var 2) (.og (.ibin .add (.var 2) (.lit (.val (.int .i64 1)))) (.og (.idx 6 (.var 11) (.var 13)) (.og (.fldA 3 (.var 0)) (.sto 1 (.var 0) (.var 2) (.og (.ibin .add (.var 2) (.lit (.val (.int .i64 1)))) (.call 21 [(.var 0)] (.og (.idx 6 (.var 15) (.var 17)) (.og (.fldA 4 (.var 0)) (.sto 1 (.var 0) (.var 2) (.og (.ibin .add (.var 3) (.lit (.val (.int .i64 1)))) (.og (.idx 6 (.var 18) (.var 20)) (.og (.fldA 5 (.var 0)) (.og (.lod (.var 0)) (.call 22 [(.var 0), (.var 3)] (.og (.ibin .add (.var 24) (.lit (.val (.int .i64 1)))) (.jump 0 [(.var 23), (.var 1), (.var 0)]))))))))))))))))))))))))))) (.ret (.var 3))))) [(.var 1), (.var 0), (.lit (.val (.int .i64 0)))]
set_option maxRecDepth 1000000 in
theorem x10_ok : okF TT Tryz.f10 2 x10 = true := by decide +kernel
set_option maxRecDepth 1000000 in
theorem s_laws_markCoreS_ok {a0 a1 : AV} {σ : AH} {R : AEnd → AH → Prop} (h : s_laws_markCoreS a0 a1 σ R) : acall TP fn_laws_markCoreS [a0, a1] σ R :=
  acall_okF (ρ := [a1, a0]) TT_ok Tryz.func10 rfl x10 x10_ok rfl h

/-- loop.example/g00349/laws.markCodeResult -/
def s_laws_markCodeResult (a0 a1 : AV) (σ : AH) (R : AEnd → AH → Prop) : Prop :=
  abox a0 σ fun v2 σ =>
  frz v2 σ fun f2 σ =>
  og (fldA 1 f2) fun v5 =>
  og (lod v5 σ) fun v6 =>
  acall TP fn_laws_markBlockS [v6, a1] σ (onr (fun v8 σ =>
  aret v8 σ R) (fun v σ => apan v σ R))
def x11 : Sx := .box (.var 1) (.frz 2 (.var 0) (.og (.fldA 1 (.var 0)) (.og (.lod (.var 0)) (.call 23 [(.var 0), (.var 4)] (.ret (.var 0))))))
set_option maxRecDepth 1000000 in
theorem x11_ok : okF TT Tryz.f11 2 x11 = true := by decide +kernel
set_option maxRecDepth 1000000 in
theorem s_laws_markCodeResult_ok {a0 a1 : AV} {σ : AH} {R : AEnd → AH → Prop} (h : s_laws_markCodeResult a0 a1 σ R) : acall TP fn_laws_markCodeResult [a0, a1] σ R :=
  acall_okF (ρ := [a1, a0]) TT_ok Tryz.func11 rfl x11 x11_ok rfl h

/-- loop.example/g00349/laws.heldCodeResult -/
def s_laws_heldCodeResult (a0 a1 : AV) (σ : AH) (R : AEnd → AH → Prop) : Prop :=
  abox a0 σ fun v2 σ =>
  frz v2 σ fun f2 σ =>
  og (fldA 1 f2) fun v5 =>
  og (lod v5 σ) fun v6 =>
  acall TP fn_laws_heldBlockS [v6, a1] σ (onr (fun v8 σ =>
  og (ibin .lss v8 (.val (.int .i64 0))) fun v10 =>
  apick v10 (
    aret (.val (.int .i64 (-1))) σ R) (
    aret v8 σ R)) (fun v σ => apan v σ R))
def x12 : Sx := .box (.var 1) (.frz 2 (.var 0) (.og (.fldA 1 (.var 0)) (.og (.lod (.var 0)) (.call 24 [(.var 0), (.var 4)] (.og (.ibin .lss (.var 0) (.lit (.val (.int .i64 0)))) (.apick (.var 0) (.ret (.lit (.val (.int .i64 (-1))))) (.ret (.var 1))))))))
set_option maxRecDepth 1000000 in
theorem x12_ok : okF TT Tryz.f12 2 x12 = true := by decide +kernel
set_option maxRecDepth 1000000 in
theorem s_laws_heldCodeResult_ok {a0 a1 : AV} {σ : AH} {R : AEnd → AH → Prop} (h : s_laws_heldCodeResult a0 a1 σ R) : acall TP fn_laws_heldCodeResult [a0, a1] σ R :=
  acall_okF (ρ := [a1, a0]) TT_ok Tryz.func12 rfl x12 x12_ok rfl h

/-- loop.example/g00349/laws.szCore -/
def s_laws_szCore (a0 a1 : AV) (σ : AH) (R : AEnd → AH → Prop) : Prop :=
  abox a0 σ fun v2 σ =>
  frz v2 σ fun f2 σ =>
  og (fldA 4 f2) fun v6 =>
  og (lod v6 σ) fun v7 =>
  og (lenStr v7) fun v8 =>
  og (ibin .sub a1 v8) fun v9 =>
  og (ibin .lss v9 (.val (.int .i64 0))) fun v11 =>
  apick v11 (
    aret (.val (.int .i64 (-1))) σ R) (
    og (fldA 5 f2) fun v12 =>
    og (lod v12 σ) fun v13 =>
    acall TP fn_laws_szDatumS [v13, v9] σ (onr (fun v15 σ =>
    og (ibin .lss v15 (.val (.int .i64 0))) fun v17 =>
    apick v17 (
      aret (.val (.int .i64 (-1))) σ R) (
      aret v15 σ R)) (fun v σ => apan v σ R)))
def x13 : Sx := .box (.var 1) (.frz 2 (.var 0) (.og (.fldA 4 (.var 0)) (.og (.lod (.var 0)) (.og (.lenStr (.var 0)) (.og (.ibin .sub (.var 5) (.var 0)) (.og (.ibin .lss (.var 0) (.lit (.val (.int .i64 0)))) (.apick (.var 0) (.ret (.lit (.val (.int .i64 (-1))))) (.og (.fldA 5 (.var 5)) (.og (.lod (.var 0)) (.call 25 [(.var 0), (.var 3)] (.og (.ibin .lss (.var 0) (.lit (.val (.int .i64 0)))) (.apick (.var 0) (.ret (.lit (.val (.int .i64 (-1))))) (.ret (.var 1))))))))))))))
set_option maxRecDepth 1000000 in
theorem x13_ok : okF TT Tryz.f13 2 x13 = true := by decide +kernel
set_option maxRecDepth 1000000 in
theorem s_laws_szCore_ok {a0 a1 : AV} {σ : AH} {R : AEnd → AH → Prop} (h : s_laws_szCore a0 a1 σ R) : acall TP fn_laws_szCore [a0, a1] σ R :=
  acall_okF (ρ := [a1, a0]) TT_ok Tryz.func13 rfl x13 x13_ok rfl h

/-- loop.example/g00349/spec.l4Fault -/
def s_spec_l4Fault (a0 : AV) (σ : AH) (R : AEnd → AH → Prop) : Prop :=
  og (lenS a0) fun v7 =>
  og (ibin .lss v7 (.val (.int .i64 1))) fun v8 =>
  og (gval v8 false false (some a0)) fun v10 =>
  og (gval v8 false false (lenS v10)) fun v11 =>
  og (gval v8 false false (ibin .gtr v11 (.val (.int .i64 160)))) fun v12 =>
  og (pickV v8 (.val (.bool true)) v12) fun v13 =>
  apick v13 (
    aret (.val (.int .i64 2)) σ R) (
    lp (X := Tup [0, 3]) (fun R1 y1 σ =>
      og (lenS y1.1) fun v16 =>
      og (ibin .lss y1.2.1 v16) fun v17 =>
      apick v17 (
        acall TP fn_spec_l4One [y1.1, y1.2.1] σ (onr (fun v22 σ =>
        og (ibin .neq v22 (.val (.int .i64 0))) fun v24 =>
        apick v24 (
          aret v22 σ R) (
          og (ibin .add y1.2.1 (.val (.int .i64 1))) fun v19 =>
          R1 (y1.1, v19, ()) σ)) (fun v σ => apan v σ R))) (
        lp (X := Tup [0, 5]) (fun R2 y2 σ =>
          og (lenS y2.1) fun v28 =>
          og (ibin .lss y2.2.1 v28) fun v29 =>
          apick v29 (
            og (idx 6 y2.1 y2.2.1 σ) fun v34 =>
            og (fldA 0 v34) fun v35 =>
            og (lod v35 σ) fun v36 =>
            acall TP fn_spec_l4Kids [y2.1, y2.2.1] σ (onr (fun v39 σ =>
            (lod v35 σ = some v36 ∧ idx 6 y2.1 y2.2.1 σ = some v34 ∧ True) ∧
            og (lenS v39) fun v40 =>
            acall TP fn_spec_l4Many [v36, v40] σ (onr (fun v41 σ =>
            (True) ∧
            og (aun .not v41) fun v42 =>
            apick v42 (
              aret (.val (.int .i64 1)) σ R) (
              og (ibin .add y2.2.1 (.val (.int .i64 1))) fun v31 =>
              R2 (y2.1, v31, ()) σ)) (fun v σ => apan v σ R))) (fun v σ => apan v σ R))) (
            aret (.val (.int .i64 0)) σ R)) (y1.1, (.val (.int .i64 0)), ()) σ)) (a0, (.val (.int .i64 0)), ()) σ)
def x14 : Sx := .og (.lenS (.var 0)) (.og (.ibin .lss (.var 0) (.lit (.val (.int .i64 1)))) (.gog (.var 0) false false (.ret (.var 2)) (.gog (.var 1) false false (.lenS (.var 0)) (.gog (.var 2) false false (.ibin .gtr (.var 0) (.lit (.val (.int .i64 160)))) (.og (.pickV (.var 3) (.lit (.val (.bool true))) (.var 0)) (.apick (.var 0) (.ret (.lit (.val (.int .i64 2)))) (.lp [0, 3] (.og (.lenS (.var 0)) (.og (.ibin .lss (.var 2) (.var 0)) (.apick (.var 0) (.call 26 [(.var 2), (.var 3)] (.og (.ibin .neq (.var 0) (.lit (.val (.int .i64 0)))) (.apick (.var 0) (.ret (.var 1)) (.og (.ibin .add (.var 5) (.lit (.val (.int .i64 1)))) (.jump 0 [(.var 5), (.var 0)]))))) (.lp [0, 5] (.og (.lenS (.var 0)) (.og (.ibin .lss (.var 2) (.var 0)) (.apick (.var 0) (.ord [0, 1, 2, 3, 4, 5, 6, 7, 8, 9, 10] [0, 0, 3, 7, 15, 0, 0, 96, 224, 511, 1023] (.og (.idx 6 (.var 2) (.var 3)) (.og (.fldA 0 (.var 0)) (.og (.lod (.var 0)) (.call 28 [(.var 5), (.var 6)] (.wat [⟨none, (.lod (.var 2)), (.var 1)⟩, ⟨none, (.idx 6 (.var 6) (.var 7)), (.var 3)⟩] (.og (.lenS (.var 0)) (.call 27 [(.var 2), (.var 0)] (.wat [] (.og (.aun .not (.var 0)) (.apick (.var 0) (.ret (.lit (.val (.int .i64 1)))) (.og (.ibin .add (.var 10) (.lit (.val (.int .i64 1)))) (.jump 0 [(.var 10), (.var 0)]))))))))))))) (.ret (.lit (.val (.int .i64 0))))))) [(.var 2), (.lit (.val (.int .i64 0)))])))) [(.var 6), (.lit (.val (.int .i64 0)))])))))))
set_option maxRecDepth 1000000 in
theorem x14_ok : okF TT Tryz.f14 1 x14 = true := by decide +kernel
set_option maxRecDepth 1000000 in
theorem s_spec_l4Fault_ok {a0 : AV} {σ : AH} {R : AEnd → AH → Prop} (h : s_spec_l4Fault a0 σ R) : acall TP fn_spec_l4Fault [a0] σ R :=
  acall_okF (ρ := [a0]) TT_ok Tryz.func14 rfl x14 x14_ok rfl h

/-- loop.example/g00349/spec.l9Code -/
def s_spec_l9Code (a0 : AV) (σ : AH) (R : AEnd → AH → Prop) : Prop :=
  og (bld [(.val (.int .i64 0)), (.val (.slice none 0 0))] [(0, 1), (1, 1)] []) fun v8 =>
  bsl 2 [(.val (.int .i64 0)), (.val (.slice none 0 0))] 1 [(0, v8)] σ fun v9 σ =>
  og (bld [(.val (.slice none 0 0)), (.val (.slice none 0 0))] [(0, 1), (1, 1)] [(0, a0), (1, v9)]) fun v10 =>
  new [(.val (.slice none 0 0)), (.val (.slice none 0 0))] σ fun v4 σ =>
  sto 2 v4 v10 σ fun σ =>
  acall TP fn_spec_l9Make [v4, (.val (.int .i64 0)), (.val (.int .i64 0)), (.val (.bool true))] σ (onr (fun v11 σ =>
  frz v4 σ fun f4 σ =>
  og (fldA 1 f4) fun v12 =>
  og (lod v12 σ) fun v13 =>
  og (lenS v13) fun v14 =>
  og (ibin .leq v14 (.val (.int .i64 60))) fun v15 =>
  lp (X := Tup [4, 5, 6]) (fun R1 y1 σ =>
    og (fldA 1 y1.1) fun v17 =>
    og (lod v17 σ) fun v18 =>
    og (lenS v18) fun v19 =>
    og (ibin .lss y1.2.2.1 v19) fun v20 =>
    apick v20 (
      og (gval y1.2.1 true false (fldA 1 y1.1)) fun v25 =>
      og (gval y1.2.1 true false (lod v25 σ)) fun v26 =>
      og (gval y1.2.1 true false (some y1.2.2.1)) fun v27 =>
      og (gval y1.2.1 true false (idx 2 v26 v27 σ)) fun v28 =>
      og (gval y1.2.1 true false (fldA 1 v28)) fun v29 =>
      og (gval y1.2.1 true false (lod v29 σ)) fun v30 =>
      og (gval y1.2.1 true false (lenS v30)) fun v31 =>
      og (gval y1.2.1 true false (ibin .leq v31 (.val (.int .i64 200)))) fun v32 =>
      og (pickV y1.2.1 v32 (.val (.bool false))) fun v33 =>
      og (ibin .add y1.2.2.1 (.val (.int .i64 1))) fun v22 =>
      R1 (y1.1, v33, v22, ()) σ) (
      og (fldA 1 y1.1) fun v34 =>
      og (lod v34 σ) fun v35 =>
      aret (.tup [v35, y1.2.1]) σ R)) (f4, v15, (.val (.int .i64 0)), ()) σ) (fun v σ => apan v σ R))
def x15 : Sx := .og (.bld [(.val (.int .i64 0)), (.val (.slice none 0 0))] [(0, 1), (1, 1)] []) (.bsl 2 [(.val (.int .i64 0)), (.val (.slice none 0 0))] 1 [(0, (.var 0))] (.og (.bld [(.val (.slice none 0 0)), (.val (.slice none 0 0))] [(0, 1), (1, 1)] [(0, (.var 2)), (1, (.var 0))]) (.new [(.val (.slice none 0 0)), (.val (.slice none 0 0))] (.sto 2 (.var 0) (.var 1) (.call 29 [(.var 0), (.lit (.val (.int .i64 0))), (.lit (.val (.int .i64 0))), (.lit (.val (.bool true)))] (.frz 4 (.var 1) (.og (.fldA 1 (.var 0)) (.og (.lod (.var 0)) (.og (.lenS (.var 0)) (.og (.ibin .leq (.var 0) (.lit (.val (.int .i64 60)))) (.lp [4, 5, 6] (.og (.fldA 1 (.var 0)) (.og (.lod (.var 0)) (.og (.lenS (.var 0)) (.og (.ibin .lss (.var 5) (.var 0)) (.apick (.var 0) (.gog (.var 5) true false (.fldA 1 (.var 4)) (.gog (.var 6) true false (.lod (.var 0)) (.gog (.var 7) true false (.ret (.var 8)) (.gog (.var 8) true false (.idx 2 (.var 1) (.var 0)) (.gog (.var 9) true false (.fldA 1 (.var 0)) (.gog (.var 10) true false (.lod (.var 0)) (.gog (.var 11) true false (.lenS (.var 0)) (.gog (.var 12) true false (.ibin .leq (.var 0) (.lit (.val (.int .i64 200)))) (.og (.pickV (.var 13) (.var 0) (.lit (.val (.bool false)))) (.og (.ibin .add (.var 15) (.lit (.val (.int .i64 1)))) (.jump 0 [(.var 14), (.var 1), (.var 0)]))))))))))) (.og (.fldA 1 (.var 4)) (.og (.lod (.var 0)) (.rets [(.var 0), (.var 7)])))))))) [(.var 4), (.var 0), (.lit (.val (.int .i64 0)))])))))))))))
set_option maxRecDepth 1000000 in
theorem x15_ok : okF TT Tryz.f15 1 x15 = true := by decide +kernel
set_option maxRecDepth 1000000 in
theorem s_spec_l9Code_ok {a0 : AV} {σ : AH} {R : AEnd → AH → Prop} (h : s_spec_l9Code a0 σ R) : acall TP fn_spec_l9Code [a0] σ R :=
  acall_okF (ρ := [a0]) TT_ok Tryz.func15 rfl x15 x15_ok rfl h

/-- loop.example/g00349/laws.toCore -/
def s_laws_toCore (a0 : AV) (σ : AH) (R : AEnd → AH → Prop) : Prop :=
  abox a0 σ fun v1 σ =>
  new [(.val (.int .i64 0)), (.val (.int .i64 0)), (.val (.int .i64 0)), (.val (.int .i64 0)), (.val (.string ⟨#[]⟩)), (.val (.slice none 0 0))] σ fun v2 σ =>
  frz v1 σ fun f1 σ =>
  new [(.val (.int .i64 0)), (.val (.int .i64 0)), (.val (.int .i64 0)), (.val (.int .i64 0)), (.val (.string ⟨#[]⟩)), (.val (.slice none 0 0))] σ fun v3 σ =>
  og (fldA 0 f1) fun v4 =>
  og (lod v4 σ) fun v5 =>
  og (fldA 0 v3) fun v6 =>
  sto 1 v6 v5 σ fun σ =>
  og (fldA 1 f1) fun v7 =>
  og (lod v7 σ) fun v8 =>
  og (fldA 1 v3) fun v9 =>
  sto 1 v9 v8 σ fun σ =>
  og (fldA 2 f1) fun v10 =>
  og (lod v10 σ) fun v11 =>
  og (fldA 2 v3) fun v12 =>
  sto 1 v12 v11 σ fun σ =>
  og (fldA 3 f1) fun v13 =>
  og (lod v13 σ) fun v14 =>
  og (fldA 3 v3) fun v15 =>
  sto 1 v15 v14 σ fun σ =>
  og (fldA 4 f1) fun v16 =>
  og (lod v16 σ) fun v17 =>
  og (fldA 4 v3) fun v18 =>
  sto 1 v18 v17 σ fun σ =>
  og (fldA 5 f1) fun v19 =>
  og (lod v19 σ) fun v20 =>
  acall TP fn_laws_toDatumS [v20] σ (onr (fun v21 σ =>
  og (fldA 5 v3) fun v22 =>
  sto 1 v22 v21 σ fun σ =>
  frz v3 σ fun f3 σ =>
  og (lodA 6 f3 σ) fun v23 =>
  sto 6 v2 v23 σ fun σ =>
  og (lodA 6 v2 σ) fun r2 =>
  aret r2 σ R) (fun v σ => apan v σ R))
def x16 : Sx := .box (.var 0) (.new [(.val (.int .i64 0)), (.val (.int .i64 0)), (.val (.int .i64 0)), (.val (.int .i64 0)), (.val (.string ⟨#[]⟩)), (.val (.slice none 0 0))] (.frz 1 (.var 1) (.new [(.val (.int .i64 0)), (.val (.int .i64 0)), (.val (.int .i64 0)), (.val (.int .i64 0)), (.val (.string ⟨#[]⟩)), (.val (.slice none 0 0))] (.og (.fldA 0 (.var 1)) (.og (.lod (.var 0)) (.og (.fldA 0 (.var 2)) (.sto 1 (.var 0) (.var 1) (.og (.fldA 1 (.var 4)) (.og (.lod (.var 0)) (.og (.fldA 1 (.var 5)) (.sto 1 (.var 0) (.var 1) (.og (.fldA 2 (.var 7)) (.og (.lod (.var 0)) (.og (.fldA 2 (.var 8)) (.sto 1 (.var 0) (.var 1) (.og (.fldA 3 (.var 10)) (.og (.lod (.var 0)) (.og (.fldA 3 (.var 11)) (.sto 1 (.var 0) (.var 1) (.og (.fldA 4 (.var 13)) (.og (.lod (.var 0)) (.og (.fldA 4 (.var 14)) (.sto 1 (.var 0) (.var 1) (.og (.fldA 5 (.var 16)) (.og (.lod (.var 0)) (.call 30 [(.var 0)] (.og (.fldA 5 (.var 18)) (.sto 1 (.var 0) (.var 1) (.frz 4 (.var 19) (.og (.lodA 6 (.var 0)) (.sto 6 (.var 23) (.var 0) (.og (.lodA 6 (.var 23)) (.ret (.var 0))))))))))))))))))))))))))))))))))
set_option maxRecDepth 1000000 in
theorem x16_ok : okF TT Tryz.f16 1 x16 = true := by decide +kernel
set_option maxRecDepth 1000000 in
theorem s_laws_toCore_ok {a0 : AV} {σ : AH} {R : AEnd → AH → Prop} (h : s_laws_toCore a0 σ R) : acall TP fn_laws_toCore [a0] σ R :=
  acall_okF (ρ := [a0]) TT_ok Tryz.func16 rfl x16 x16_ok rfl h

/-- loop.example/g00349/impl.CoreFault -/
def s_impl_CoreFault (a0 : AV) (σ : AH) (R : AEnd → AH → Prop) : Prop :=
  og (lenS a0) fun v8 =>
  acall TP fn_impl_in [v8, (.val (.int .i64 1)), (.val (.int .i64 160))] σ (onr (fun v9 σ =>
  og (aun .not v9) fun v10 =>
  apick v10 (
    aret (.val (.int .i64 2)) σ R) (
    og (lenS a0) fun v12 =>
    lp (X := Tup [0, 12, 13]) (fun R1 y1 σ =>
      og (ibin .lss y1.2.2.1 y1.2.1) fun v14 =>
      apick v14 (
        acall TP fn_impl_oneCoreFault [y1.1, y1.2.2.1] σ (onr (fun v18 σ =>
        og (ibin .neq v18 (.val (.int .i64 0))) fun v20 =>
        apick v20 (
          aret v18 σ R) (
          og (ibin .add y1.2.2.1 (.val (.int .i64 1))) fun v22 =>
          R1 (y1.1, y1.2.1, v22, ()) σ)) (fun v σ => apan v σ R))) (
        acall TP fn_impl_kids [y1.1] σ (onr (fun v24 σ =>
        og (lenS v24) fun v25 =>
        lp (X := Tup [0, 24, 25, 26]) (fun R2 y2 σ =>
          og (ibin .lss y2.2.2.2.1 y2.2.2.1) fun v27 =>
          apick v27 (
            og (idx 1 y2.2.1 y2.2.2.2.1 σ) fun v29 =>
            og (lod v29 σ) fun v30 =>
            og (idx 6 y2.1 y2.2.2.2.1 σ) fun v33 =>
            og (fldA 0 v33) fun v34 =>
            og (lod v34 σ) fun v35 =>
            og (lenS v30) fun v37 =>
            acall TP fn_impl_hasKids [v35, v37] σ (onr (fun v38 σ =>
            og (aun .not v38) fun v39 =>
            apick v39 (
              aret (.val (.int .i64 1)) σ R) (
              og (ibin .add y2.2.2.2.1 (.val (.int .i64 1))) fun v40 =>
              R2 (y2.1, y2.2.1, y2.2.2.1, v40, ()) σ)) (fun v σ => apan v σ R))) (
            aret (.val (.int .i64 0)) σ R)) (y1.1, v24, v25, (.val (.int .i64 0)), ()) σ) (fun v σ => apan v σ R)))) (a0, v12, (.val (.int .i64 0)), ()) σ)) (fun v σ => apan v σ R))
def x17 : Sx := .og (.lenS (.var 0)) (.call 31 [(.var 0), (.lit (.val (.int .i64 1))), (.lit (.val (.int .i64 160)))] (.og (.aun .not (.var 0)) (.apick (.var 0) (.ret (.lit (.val (.int .i64 2)))) (.og (.lenS (.var 3)) (.lp [0, 12, 13] (.og (.ibin .lss (.var 2) (.var 1)) (.apick (.var 0) (.call 32 [(.var 1), (.var 3)] (.og (.ibin .neq (.var 0) (.lit (.val (.int .i64 0)))) (.apick (.var 0) (.ret (.var 1)) (.og (.ibin .add (.var 5) (.lit (.val (.int .i64 1)))) (.jump 0 [(.var 4), (.var 5), (.var 0)]))))) (.call 33 [(.var 1)] (.og (.lenS (.var 0)) (.lp [0, 24, 25, 26] (.og (.ibin .lss (.var 3) (.var 2)) (.apick (.var 0) (.og (.idx 1 (.var 2) (.var 4)) (.og (.lod (.var 0)) (.og (.idx 6 (.var 3) (.var 6)) (.og (.fldA 0 (.var 0)) (.og (.lod (.var 0)) (.og (.lenS (.var 3)) (.call 34 [(.var 1), (.var 0)] (.og (.aun .not (.var 0)) (.apick (.var 0) (.ret (.lit (.val (.int .i64 1)))) (.og (.ibin .add (.var 12) (.lit (.val (.int .i64 1)))) (.jump 0 [(.var 10), (.var 11), (.var 12), (.var 0)]))))))))))) (.ret (.lit (.val (.int .i64 0)))))) [(.var 3), (.var 1), (.var 0), (.lit (.val (.int .i64 0)))]))))) [(.var 4), (.var 0), (.lit (.val (.int .i64 0)))])))))
set_option maxRecDepth 1000000 in
theorem x17_ok : okF TT Tryz.f17 1 x17 = true := by decide +kernel
set_option maxRecDepth 1000000 in
theorem s_impl_CoreFault_ok {a0 : AV} {σ : AH} {R : AEnd → AH → Prop} (h : s_impl_CoreFault a0 σ R) : acall TP fn_impl_CoreFault [a0] σ R :=
  acall_okF (ρ := [a0]) TT_ok Tryz.func17 rfl x17 x17_ok rfl h

/-- loop.example/g00349/impl.compiled -/
def s_impl_compiled (a0 pa pb : AV) (σ : AH) (R : AEnd → AH → Prop) : Prop :=
  acall TP fn_impl_kids [a0] σ (onr (fun v8 σ =>
  og (bld [(.val (.slice none 0 0)), (.val (.slice none 0 0)), (.val (.slice none 0 0))] [(0, 1), (1, 1), (2, 1)] [(0, a0), (1, v8)]) fun v9 =>
  abox v9 σ fun v10 σ =>
  acall TP fn_impl_compiler_block [v10, (.val (.int .i64 0))] σ (onr (fun v13 σ =>
  acall TP fn_impl_compiler_core [v10, (.val (.int .i64 0)), v13, (.val (.bool true))] σ (onr (fun v14 σ =>
  frz v10 σ fun f10 σ =>
  og (anil f10) fun v16 =>
  og (fldA 2 v16) fun v17 =>
  og (lod v17 σ) fun v18 =>
  acall TP fn_impl_copiedCode [v18] σ (onr (fun v19 σ =>
  sto 1 pa v19 σ fun σ =>
  sto 1 pb (.val (.int .i64 0)) σ fun σ =>
  og (lod pa σ) fun r2 =>
  og (lod pb σ) fun r3 =>
  aret (.tup [r2, r3]) σ R) (fun v σ => apan v σ R))) (fun v σ => apan v σ R))) (fun v σ => apan v σ R))) (fun v σ => apan v σ R))
def x18 : Sx := .call 33 [(.var 2)] (.og (.bld [(.val (.slice none 0 0)), (.val (.slice none 0 0)), (.val (.slice none 0 0))] [(0, 1), (1, 1), (2, 1)] [(0, (.var 3)), (1, (.var 0))]) (.box (.var 0) (.call 37 [(.var 0), (.lit (.val (.int .i64 0)))] (.call 36 [(.var 1), (.lit (.val (.int .i64 0))), (.var 0), (.lit (.val (.bool true)))] (.frz 5 (.var 2) (.og (.anil (.var 0)) (.og (.fldA 2 (.var 0)) (.og (.lod (.var 0)) (.call 38 [(.var 0)] (.sto 1 (.var 11) (.var 0) (.sto 1 (.var 10) (.lit (.val (.int .i64 0))) (.og (.lod (.var 11)) (.og (.lod (.var 11)) (.rets [(.var 1), (.var 0)]))))))))))))))
set_option maxRecDepth 1000000 in
theorem s_impl_compiled_ok {a0 : AV} {σ : AH} {R : AEnd → AH → Prop} {tF : TypeId} (hc : Catch TP fn_impl_compiled_1 tF) (h : ∀ φa φb, σ φa = none → (σ.set φa ⟨0, 1, [[.val (.slice none 0 0)]]⟩) φb = none → s_impl_compiled a0 (.ptr φa 0 0 0) (.ptr φb 0 0 0) ((σ.set φa ⟨0, 1, [[.val (.slice none 0 0)]]⟩).set φb ⟨0, 1, [[.val (.int .i64 0)]]⟩) (RD φa φb tF R)) : acall TP fn_impl_compiled [a0] σ R := by
  refine acall_okD (tA := 24) (tB := 2) (dA := 2) (dB := 3) (dF := 5) (g := 35) (nA := (TT 24).getD default) (nB := (TT 2).getD default) TT_ok Tryz.func18 rfl x18 rfl ⟨rfl, rfl, rfl⟩ ⟨rfl, rfl, rfl⟩ ⟨rfl, rfl, rfl⟩ ⟨rfl, rfl, rfl⟩ (by kernel_rfl) (by kernel_rfl) (by kernel_rfl) (by kernel_rfl) (by kernel_rfl) ⟨by kernel_rfl, by kernel_rfl⟩ ⟨by kernel_rfl, by kernel_rfl⟩ ⟨by decide, by decide, by decide, by decide, by decide, by decide⟩ hc (by kernel_rfl) (by kernel_rfl) h

/-- loop.example/g00349/laws.eqBlockS -/
def s_laws_eqBlockS (a0 a1 : AV) (σ : AH) (R : AEnd → AH → Prop) : Prop :=
  og (lenS a0) fun v7 =>
  og (lenS a1) fun v9 =>
  og (ibin .neq v7 v9) fun v10 =>
  apick v10 (
    aret (.val (.bool false)) σ R) (
    lp (X := Tup [0, 1, 5]) (fun R1 y1 σ =>
      og (lenS y1.1) fun v13 =>
      og (ibin .lss y1.2.2.1 v13) fun v14 =>
      apick v14 (
        og (idx 2 y1.1 y1.2.2.1 σ) fun v19 =>
        og (lodA 2 v19 σ) fun v20 =>
        og (idx 2 y1.2.1 y1.2.2.1 σ) fun v23 =>
        og (lodA 2 v23 σ) fun v24 =>
        acall TP fn_laws_eqBlock [v20, v24] σ (onr (fun v25 σ =>
        (True) ∧
        og (aun .not v25) fun v26 =>
        apick v26 (
          aret (.val (.bool false)) σ R) (
          og (ibin .add y1.2.2.1 (.val (.int .i64 1))) fun v16 =>
          R1 (y1.1, y1.2.1, v16, ()) σ)) (fun v σ => apan v σ R))) (
        aret (.val (.bool true)) σ R)) (a0, a1, (.val (.int .i64 0)), ()) σ)
def x19 : Sx := .og (.lenS (.var 1)) (.og (.lenS (.var 1)) (.og (.ibin .neq (.var 1) (.var 0)) (.apick (.var 0) (.ret (.lit (.val (.bool false)))) (.lp [0, 1, 5] (.og (.lenS (.var 0)) (.og (.ibin .lss (.var 3) (.var 0)) (.apick (.var 0) (.ord [0, 1, 2, 3, 4, 5, 6, 7, 8, 9] [0, 0, 3, 7, 0, 0, 48, 112, 255, 511] (.og (.idx 2 (.var 2) (.var 4)) (.og (.lodA 2 (.var 0)) (.og (.idx 2 (.var 5) (.var 6)) (.og (.lodA 2 (.var 0)) (.call 39 [(.var 2), (.var 0)] (.wat [] (.og (.aun .not (.var 0)) (.apick (.var 0) (.ret (.lit (.val (.bool false)))) (.og (.ibin .add (.var 10) (.lit (.val (.int .i64 1)))) (.jump 0 [(.var 9), (.var 10), (.var 0)]))))))))))) (.ret (.lit (.val (.bool true))))))) [(.var 4), (.var 3), (.lit (.val (.int .i64 0)))]))))
set_option maxRecDepth 1000000 in
theorem x19_ok : okF TT Tryz.f19 2 x19 = true := by decide +kernel
set_option maxRecDepth 1000000 in
theorem s_laws_eqBlockS_ok {a0 a1 : AV} {σ : AH} {R : AEnd → AH → Prop} (h : s_laws_eqBlockS a0 a1 σ R) : acall TP fn_laws_eqBlockS [a0, a1] σ R :=
  acall_okF (ρ := [a1, a0]) TT_ok Tryz.func19 rfl x19 x19_ok rfl h

/-- loop.example/g00349/laws.eqCore -/
def s_laws_eqCore (a0 a1 : AV) (σ : AH) (R : AEnd → AH → Prop) : Prop :=
  abox a0 σ fun v2 σ =>
  abox a1 σ fun v3 σ =>
  frz v2 σ fun f2 σ =>
  frz v3 σ fun f3 σ =>
  og (fldA 0 f2) fun v5 =>
  og (lod v5 σ) fun v6 =>
  og (fldA 0 f3) fun v7 =>
  og (lod v7 σ) fun v8 =>
  og (ibin .neq v6 v8) fun v9 =>
  apick v9 (
    aret (.val (.bool false)) σ R) (
    og (fldA 1 f2) fun v10 =>
    og (lod v10 σ) fun v11 =>
    og (fldA 1 f3) fun v12 =>
    og (lod v12 σ) fun v13 =>
    og (ibin .neq v11 v13) fun v14 =>
    apick v14 (
      aret (.val (.bool false)) σ R) (
      og (fldA 2 f2) fun v15 =>
      og (lod v15 σ) fun v16 =>
      og (fldA 2 f3) fun v17 =>
      og (lod v17 σ) fun v18 =>
      og (ibin .neq v16 v18) fun v19 =>
      apick v19 (
        aret (.val (.bool false)) σ R) (
        og (fldA 3 f2) fun v20 =>
        og (lod v20 σ) fun v21 =>
        og (fldA 3 f3) fun v22 =>
        og (lod v22 σ) fun v23 =>
        og (ibin .neq v21 v23) fun v24 =>
        apick v24 (
          aret (.val (.bool false)) σ R) (
          og (fldA 4 f2) fun v25 =>
          og (lod v25 σ) fun v26 =>
          og (fldA 4 f3) fun v27 =>
          og (lod v27 σ) fun v28 =>
          og (sbin .neq v26 v28) fun v29 =>
          apick v29 (
            aret (.val (.bool false)) σ R) (
            og (fldA 5 f2) fun v30 =>
            og (lod v30 σ) fun v31 =>
            og (fldA 5 f3) fun v32 =>
            og (lod v32 σ) fun v33 =>
            acall TP fn_laws_eqDatumS [v31, v33] σ (onr (fun v34 σ =>
            og (aun .not v34) fun v35 =>
            apick v35 (
              aret (.val (.bool false)) σ R) (
              aret (.val (.bool true)) σ R)) (fun v σ => apan v σ R)))))))
def x20 : Sx := .box (.var 1) (.box (.var 1) (.frz 2 (.var 1) (.frz 3 (.var 1) (.og (.fldA 0 (.var 1)) (.og (.lod (.var 0)) (.og (.fldA 0 (.var 2)) (.og (.lod (.var 0)) (.og (.ibin .neq (.var 2) (.var 0)) (.apick (.var 0) (.ret (.lit (.val (.bool false)))) (.og (.fldA 1 (.var 6)) (.og (.lod (.var 0)) (.og (.fldA 1 (.var 7)) (.og (.lod (.var 0)) (.og (.ibin .neq (.var 2) (.var 0)) (.apick (.var 0) (.ret (.lit (.val (.bool false)))) (.og (.fldA 2 (.var 11)) (.og (.lod (.var 0)) (.og (.fldA 2 (.var 12)) (.og (.lod (.var 0)) (.og (.ibin .neq (.var 2) (.var 0)) (.apick (.var 0) (.ret (.lit (.val (.bool false)))) (.og (.fldA 3 (.var 16)) (.og (.lod (.var 0)) (.og (.fldA 3 (.var 17)) (.og (.lod (.var 0)) (.og (.ibin .neq (.var 2) (.var 0)) (.apick (.var 0) (.ret (.lit (.val (.bool false)))) (.og (.fldA 4 (.var 21)) (.og (.lod (.var 0)) (.og (.fldA 4 (.var 22)) (.og (.lod (.var 0)) (.og (.sbin .neq (.var 2) (.var 0)) (.apick (.var 0) (.ret (.lit (.val (.bool false)))) (.og (.fldA 5 (.var 26)) (.og (.lod (.var 0)) (.og (.fldA 5 (.var 27)) (.og (.lod (.var 0)) (.call 40 [(.var 2), (.var 0)] (.og (.aun .not (.var 0)) (.apick (.var 0) (.ret (.lit (.val (.bool false)))) (.ret (.lit (.val (.bool true))))))))))))))))))))))))))))))))))))))))))))
set_option maxRecDepth 1000000 in
theorem x20_ok : okF TT Tryz.f20 2 x20 = true := by decide +kernel
set_option maxRecDepth 1000000 in
theorem s_laws_eqCore_ok {a0 a1 : AV} {σ : AH} {R : AEnd → AH → Prop} (h : s_laws_eqCore a0 a1 σ R) : acall TP fn_laws_eqCore [a0, a1] σ R :=
  acall_okF (ρ := [a1, a0]) TT_ok Tryz.func20 rfl x20 x20_ok rfl h

/-- loop.example/g00349/laws.markText -/
def s_laws_markText (a0 : AV) (σ : AH) (R : AEnd → AH → Prop) : Prop :=
  og (ibin .leq a0 (.val (.int .i64 0))) fun v5 =>
  apick v5 (
    aret (.val (.string ⟨#[109, 48]⟩)) σ R) (
    lp (X := Tup [0, 3]) (fun R1 y1 σ =>
      og (ibin .gtr y1.1 (.val (.int .i64 0))) fun v7 =>
      apick v7 (
        og (ibin .rem y1.1 (.val (.int .i64 10))) fun v9 =>
        og (ibin .add (.val (.int .i64 48)) v9) fun v10 =>
        og (convI .u8 v10) fun v11 =>
        bsl 1 [(.val (.int .u8 0))] 1 [(0, v11)] σ fun v12 σ =>
        aconv TT ty_Lb ty_s v12 σ fun v13 σ =>
        og (sbin .add v13 y1.2.1) fun v15 =>
        og (ibin .quo y1.1 (.val (.int .i64 10))) fun v17 =>
        R1 (v17, v15, ()) σ) (
        og (sbin .add (.val (.string ⟨#[109]⟩)) y1.2.1) fun v19 =>
        aret v19 σ R)) (a0, (.val (.string ⟨#[]⟩)), ()) σ)
def x21 : Sx := .og (.ibin .leq (.var 0) (.lit (.val (.int .i64 0)))) (.apick (.var 0) (.ret (.lit (.val (.string ⟨#[109, 48]⟩)))) (.lp [0, 3] (.og (.ibin .gtr (.var 0) (.lit (.val (.int .i64 0)))) (.apick (.var 0) (.og (.ibin .rem (.var 1) (.lit (.val (.int .i64 10)))) (.og (.ibin .add (.lit (.val (.int .i64 48))) (.var 0)) (.og (.conv .u8 (.var 0)) (.bsl 1 [(.val (.int .u8 0))] 1 [(0, (.var 0))] (.cnv 80 9 (.var 0) (.og (.sbin .add (.var 0) (.var 7)) (.og (.ibin .quo (.var 7) (.lit (.val (.int .i64 10)))) (.jump 0 [(.var 0), (.var 1)])))))))) (.og (.sbin .add (.lit (.val (.string ⟨#[109]⟩))) (.var 2)) (.ret (.var 0))))) [(.var 1), (.lit (.val (.string ⟨#[]⟩)))]))
set_option maxRecDepth 1000000 in
theorem x21_ok : okF TT Tryz.f21 1 x21 = true := by decide +kernel
set_option maxRecDepth 1000000 in
theorem s_laws_markText_ok {a0 : AV} {σ : AH} {R : AEnd → AH → Prop} (h : s_laws_markText a0 σ R) : acall TP fn_laws_markText [a0] σ R :=
  acall_okF (ρ := [a0]) TT_ok Tryz.func21 rfl x21 x21_ok rfl h

/-- loop.example/g00349/laws.markDatumS -/
def s_laws_markDatumS (a0 a1 : AV) (σ : AH) (R : AEnd → AH → Prop) : Prop :=
  lp (X := Tup [0, 1, 5]) (fun R1 y1 σ =>
    og (lenS y1.1) fun v8 =>
    og (ibin .lss y1.2.2.1 v8) fun v9 =>
    apick v9 (
      og (idx 4 y1.1 y1.2.2.1 σ) fun v15 =>
      og (fldA 0 v15) fun v16 =>
      sto 1 v16 y1.2.1 σ fun σ =>
      og (ibin .add y1.2.1 (.val (.int .i64 1))) fun v18 =>
      og (idx 4 y1.1 y1.2.2.1 σ) fun v22 =>
      og (fldA 1 v22) fun v23 =>
      sto 1 v23 v18 σ fun σ =>
      og (ibin .add v18 (.val (.int .i64 1))) fun v25 =>
      og (idx 4 y1.1 y1.2.2.1 σ) fun v29 =>
      og (fldA 2 v29) fun v30 =>
      sto 1 v30 v25 σ fun σ =>
      og (ibin .add v25 (.val (.int .i64 1))) fun v32 =>
      acall TP fn_laws_markText [v32] σ (onr (fun v36 σ =>
      og (idx 4 y1.1 y1.2.2.1 σ) fun v37 =>
      og (fldA 3 v37) fun v38 =>
      sto 1 v38 v36 σ fun σ =>
      og (ibin .add v32 (.val (.int .i64 1))) fun v40 =>
      og (ibin .add y1.2.2.1 (.val (.int .i64 1))) fun v11 =>
      R1 (y1.1, v40, v11, ()) σ) (fun v σ => apan v σ R))) (
      aret y1.2.1 σ R)) (a0, a1, (.val (.int .i64 0)), ()) σ
def x22 : Sx := .lp [0, 1, 5] (.og (.lenS (.var 0)) (.og (.ibin .lss (.var 3) (.var 0)) (.apick (.var 0) (.og (.idx 4 (.var 2) (.var 4)) (.og (.fldA 0 (.var 0)) (.sto 1 (.var 0) (.var 5) (.og (.ibin .add (.var 5) (.lit (.val (.int .i64 1)))) (.og (.idx 4 (.var 5) (.var 7)) (.og (.fldA 1 (.var 0)) (.sto 1 (.var 0) (.var 2) (.og (.ibin .add (.var 2) (.lit (.val (.int .i64 1)))) (.og (.idx 4 (.var 8) (.var 10)) (.og (.fldA 2 (.var 0)) (.sto 1 (.var 0) (.var 2) (.og (.ibin .add (.var 2) (.lit (.val (.int .i64 1)))) (.call 21 [(.var 0)] (.og (.idx 4 (.var 12) (.var 14)) (.og (.fldA 3 (.var 0)) (.sto 1 (.var 0) (.var 2) (.og (.ibin .add (.var 3) (.lit (.val (.int .i64 1)))) (.og (.ibin .add (.var 17) (.lit (.val (.int .i64 1)))) (.jump 0 [(.var 16), (.var 1), (.var 0)]))))))))))))))))))) (.ret (.var 3))))) [(.var 1), (.var 0), (.lit (.val (.int .i64 0)))]
set_option maxRecDepth 1000000 in
theorem x22_ok : okF TT Tryz.f22 2 x22 = true := by decide +kernel
set_option maxRecDepth 1000000 in
theorem s_laws_markDatumS_ok {a0 a1 : AV} {σ : AH} {R : AEnd → AH → Prop} (h : s_laws_markDatumS a0 a1 σ R) : acall TP fn_laws_markDatumS [a0, a1] σ R :=
  acall_okF (ρ := [a1, a0]) TT_ok Tryz.func22 rfl x22 x22_ok rfl h

/-- loop.example/g00349/laws.markBlockS -/
def s_laws_markBlockS (a0 a1 : AV) (σ : AH) (R : AEnd → AH → Prop) : Prop :=
  lp (X := Tup [0, 1, 5]) (fun R1 y1 σ =>
    og (lenS y1.1) fun v8 =>
    og (ibin .lss y1.2.2.1 v8) fun v9 =>
    apick v9 (
      og (idx 2 y1.1 y1.2.2.1 σ) fun v15 =>
      og (fldA 0 v15) fun v16 =>
      sto 1 v16 y1.2.1 σ fun σ =>
      og (ibin .add y1.2.1 (.val (.int .i64 1))) fun v18 =>
      og (idx 2 y1.1 y1.2.2.1 σ) fun v21 =>
      og (fldA 1 v21) fun v22 =>
      og (lod v22 σ) fun v23 =>
      acall TP fn_laws_markOpS [v23, v18] σ (onr (fun v25 σ =>
      og (ibin .add y1.2.2.1 (.val (.int .i64 1))) fun v11 =>
      R1 (y1.1, v25, v11, ()) σ) (fun v σ => apan v σ R))) (
      aret y1.2.1 σ R)) (a0, a1, (.val (.int .i64 0)), ()) σ
def x23 : Sx := .lp [0, 1, 5] (.og (.lenS (.var 0)) (.og (.ibin .lss (.var 3) (.var 0)) (.apick (.var 0) (.og (.idx 2 (.var 2) (.var 4)) (.og (.fldA 0 (.var 0)) (.sto 1 (.var 0) (.var 5) (.og (.ibin .add (.var 5) (.lit (.val (.int .i64 1)))) (.og (.idx 2 (.var 5) (.var 7)) (.og (.fldA 1 (.var 0)) (.og (.lod (.var 0)) (.call 41 [(.var 0), (.var 3)] (.og (.ibin .add (.var 11) (.lit (.val (.int .i64 1)))) (.jump 0 [(.var 10), (.var 1), (.var 0)])))))))))) (.ret (.var 3))))) [(.var 1), (.var 0), (.lit (.val (.int .i64 0)))]
set_option maxRecDepth 1000000 in
theorem x23_ok : okF TT Tryz.f23 2 x23 = true := by decide +kernel
set_option maxRecDepth 1000000 in
theorem s_laws_markBlockS_ok {a0 a1 : AV} {σ : AH} {R : AEnd → AH → Prop} (h : s_laws_markBlockS a0 a1 σ R) : acall TP fn_laws_markBlockS [a0, a1] σ R :=
  acall_okF (ρ := [a1, a0]) TT_ok Tryz.func23 rfl x23 x23_ok rfl h

/-- loop.example/g00349/laws.heldBlockS -/
def s_laws_heldBlockS (a0 a1 : AV) (σ : AH) (R : AEnd → AH → Prop) : Prop :=
  lp (X := Tup [0, 1, 5]) (fun R1 y1 σ =>
    og (lenS y1.1) fun v8 =>
    og (ibin .lss y1.2.2.1 v8) fun v9 =>
    apick v9 (
      og (idx 2 y1.1 y1.2.2.1 σ) fun v14 =>
      og (fldA 0 v14) fun v15 =>
      og (lod v15 σ) fun v16 =>
      og (ibin .neq v16 y1.2.1) fun v18 =>
      apick v18 (
        aret (.val (.int .i64 (-1))) σ R) (
        og (ibin .add y1.2.1 (.val (.int .i64 1))) fun v20 =>
        og (idx 2 y1.1 y1.2.2.1 σ) fun v23 =>
        og (fldA 1 v23) fun v24 =>
        og (lod v24 σ) fun v25 =>
        acall TP fn_laws_heldOpS [v25, v20] σ (onr (fun v27 σ =>
        og (ibin .lss v27 (.val (.int .i64 0))) fun v29 =>
        apick v29 (
          aret (.val (.int .i64 (-1))) σ R) (
          og (ibin .add y1.2.2.1 (.val (.int .i64 1))) fun v11 =>
          R1 (y1.1, v27, v11, ()) σ)) (fun v σ => apan v σ R)))) (
      aret y1.2.1 σ R)) (a0, a1, (.val (.int .i64 0)), ()) σ
def x24 : Sx := .lp [0, 1, 5] (.og (.lenS (.var 0)) (.og (.ibin .lss (.var 3) (.var 0)) (.apick (.var 0) (.og (.idx 2 (.var 2) (.var 4)) (.og (.fldA 0 (.var 0)) (.og (.lod (.var 0)) (.og (.ibin .neq (.var 0) (.var 6)) (.apick (.var 0) (.ret (.lit (.val (.int .i64 (-1))))) (.og (.ibin .add (.var 7) (.lit (.val (.int .i64 1)))) (.og (.idx 2 (.var 7) (.var 9)) (.og (.fldA 1 (.var 0)) (.og (.lod (.var 0)) (.call 42 [(.var 0), (.var 3)] (.og (.ibin .lss (.var 0) (.lit (.val (.int .i64 0)))) (.apick (.var 0) (.ret (.lit (.val (.int .i64 (-1))))) (.og (.ibin .add (.var 14) (.lit (.val (.int .i64 1)))) (.jump 0 [(.var 13), (.var 2), (.var 0)])))))))))))))) (.ret (.var 3))))) [(.var 1), (.var 0), (.lit (.val (.int .i64 0)))]
set_option maxRecDepth 1000000 in
theorem x24_ok : okF TT Tryz.f24 2 x24 = true := by decide +kernel
set_option maxRecDepth 1000000 in
theorem s_laws_heldBlockS_ok {a0 a1 : AV} {σ : AH} {R : AEnd → AH → Prop} (h : s_laws_heldBlockS a0 a1 σ R) : acall TP fn_laws_heldBlockS [a0, a1] σ R :=
  acall_okF (ρ := [a1, a0]) TT_ok Tryz.func24 rfl x24 x24_ok rfl h

/-- loop.example/g00349/laws.szDatumS -/
def s_laws_szDatumS (a0 a1 : AV) (σ : AH) (R : AEnd → AH → Prop) : Prop :=
  og (lenS a0) fun v8 =>
  og (ibin .sub a1 v8) fun v9 =>
  og (ibin .lss v9 (.val (.int .i64 0))) fun v11 =>
  apick v11 (
    aret (.val (.int .i64 (-1))) σ R) (
    lp (X := Tup [0, 1, 5]) (fun R1 y1 σ =>
      og (lenS y1.1) fun v14 =>
      og (ibin .lss y1.2.2.1 v14) fun v15 =>
      apick v15 (
        og (idx 4 y1.1 y1.2.2.1 σ) fun v20 =>
        og (lodA 4 v20 σ) fun v21 =>
        acall TP fn_laws_szDatum [v21, y1.2.1] σ (onr (fun v23 σ =>
        og (ibin .lss v23 (.val (.int .i64 0))) fun v25 =>
        apick v25 (
          aret (.val (.int .i64 (-1))) σ R) (
          og (ibin .add y1.2.2.1 (.val (.int .i64 1))) fun v17 =>
          R1 (y1.1, v23, v17, ()) σ)) (fun v σ => apan v σ R))) (
        aret y1.2.1 σ R)) (a0, v9, (.val (.int .i64 0)), ()) σ)
def x25 : Sx := .og (.lenS (.var 1)) (.og (.ibin .sub (.var 1) (.var 0)) (.og (.ibin .lss (.var 0) (.lit (.val (.int .i64 0)))) (.apick (.var 0) (.ret (.lit (.val (.int .i64 (-1))))) (.lp [0, 1, 5] (.og (.lenS (.var 0)) (.og (.ibin .lss (.var 3) (.var 0)) (.apick (.var 0) (.og (.idx 4 (.var 2) (.var 4)) (.og (.lodA 4 (.var 0)) (.call 43 [(.var 0), (.var 5)] (.og (.ibin .lss (.var 0) (.lit (.val (.int .i64 0)))) (.apick (.var 0) (.ret (.lit (.val (.int .i64 (-1))))) (.og (.ibin .add (.var 8) (.lit (.val (.int .i64 1)))) (.jump 0 [(.var 7), (.var 2), (.var 0)]))))))) (.ret (.var 3))))) [(.var 4), (.var 1), (.lit (.val (.int .i64 0)))]))))
set_option maxRecDepth 1000000 in
theorem x25_ok : okF TT Tryz.f25 2 x25 = true := by decide +kernel
set_option maxRecDepth 1000000 in
theorem s_laws_szDatumS_ok {a0 a1 : AV} {σ : AH} {R : AEnd → AH → Prop} (h : s_laws_szDatumS a0 a1 σ R) : acall TP fn_laws_szDatumS [a0, a1] σ R :=
  acall_okF (ρ := [a1, a0]) TT_ok Tryz.func25 rfl x25 x25_ok rfl h

/-- loop.example/g00349/spec.l4One -/
def s_spec_l4One (a0 a1 : AV) (σ : AH) (R : AEnd → AH → Prop) : Prop :=
  og (idx 6 a0 a1 σ) fun v9 =>
  acall TP fn_spec_l4Bare [v9] σ (onr (fun v11 σ =>
  og (aun .not v11) fun v12 =>
  apick v12 (
    aret (.val (.int .i64 1)) σ R) (
    jn (X := Tup [0, 1, 5, 35]) (fun x1 σ =>
        apick x1.2.2.2.1 (
          aret (.val (.int .i64 3)) σ R) (
          jn (X := Tup [0, 1, 5, 43]) (fun x2 σ =>
              apick x2.2.2.2.1 (
                aret (.val (.int .i64 1)) σ R) (
                jn (X := Tup [0, 1, 5, 56]) (fun x3 σ =>
                    apick x3.2.2.2.1 (
                      aret (.val (.int .i64 5)) σ R) (
                      jn (X := Tup [0, 1, 5]) (fun x4 σ =>
                          og (anil x4.2.2.1) fun v71 =>
                          og (fldA 0 v71) fun v72 =>
                          og (lod v72 σ) fun v73 =>
                          og (ibin .eql v73 (.val (.int .i64 8))) fun v74 =>
                          og (gval v74 true false (some x4.2.1)) fun v76 =>
                          og (gval v74 true false (ibin .gtr v76 (.val (.int .i64 0)))) fun v77 =>
                          og (pickV v74 v77 (.val (.bool false))) fun v78 =>
                          apick v78 (
                            aret (.val (.int .i64 1)) σ R) (
                            acall TP fn_spec_l4Place [x4.1, x4.2.1] σ (onr (fun v81 σ =>
                            og (aun .not v81) fun v82 =>
                            apick v82 (
                              aret (.val (.int .i64 3)) σ R) (
                              aret (.val (.int .i64 0)) σ R)) (fun v σ => apan v σ R)))) fun k4 =>
                        og (anil x3.2.2.1) fun v58 =>
                        og (fldA 0 v58) fun v59 =>
                        og (lod v59 σ) fun v60 =>
                        og (ibin .eql v60 (.val (.int .i64 1))) fun v61 =>
                        apick v61 (
                          og (anil x3.2.2.1) fun v63 =>
                          og (fldA 5 v63) fun v64 =>
                          og (lod v64 σ) fun v65 =>
                          acall TP fn_spec_l3Fault [v65] σ (onr (fun v66 σ =>
                          og (ibin .neq v66 (.val (.int .i64 0))) fun v68 =>
                          apick v68 (
                            aret v66 σ R) (
                            k4 (x3.1, x3.2.1, x3.2.2.1, ()) σ)) (fun v σ => apan v σ R))) (
                          k4 (x3.1, x3.2.1, x3.2.2.1, ()) σ))) fun k3 =>
                  og (anil x2.2.2.1) fun v45 =>
                  og (fldA 0 v45) fun v46 =>
                  og (lod v46 σ) fun v47 =>
                  acall TP fn_spec_l4Named [v47] σ (onr (fun v48 σ =>
                  og (gval v48 true false (some x2.2.2.1)) fun v50 =>
                  og (gval v48 true false (anil v50)) fun v51 =>
                  og (gval v48 true false (fldA 4 v51)) fun v52 =>
                  og (gval v48 true false (lod v52 σ)) fun v53 =>
                  gpick v48 (
                    acall TP fn_spec_l4Name [v53] σ (onr (fun v54 σ =>
                    og (aun .not v54) fun v55 =>
                    k3 (x2.1, x2.2.1, x2.2.2.1, v55, ()) σ) (fun v σ => apan v σ R))) (
                    k3 (x2.1, x2.2.1, x2.2.2.1, (.val (.bool false)), ()) σ) (False)) (fun v σ => apan v σ R)))) fun k2 =>
            og (ibin .gtr x1.2.1 (.val (.int .i64 0))) fun v37 =>
            og (gval v37 true false (some x1.1)) fun v39 =>
            og (gval v37 true false (some x1.2.1)) fun v40 =>
            gpick v37 (
              acall TP fn_spec_l4Line [v39, v40] σ (onr (fun v41 σ =>
              og (aun .not v41) fun v42 =>
              k2 (x1.1, x1.2.1, x1.2.2.1, v42, ()) σ) (fun v σ => apan v σ R))) (
              k2 (x1.1, x1.2.1, x1.2.2.1, (.val (.bool false)), ()) σ) (False))) fun k1 =>
      og (ibin .eql a1 (.val (.int .i64 0))) fun v14 =>
      og (gval v14 true false (some v9)) fun v16 =>
      og (gval v14 true false (anil v16)) fun v17 =>
      og (gval v14 true false (fldA 1 v17)) fun v18 =>
      og (gval v14 true false (lod v18 σ)) fun v19 =>
      og (gval v14 true false (ibin .neq v19 (.val (.int .i64 (-1))))) fun v20 =>
      og (pickV v14 v20 (.val (.bool false))) fun v21 =>
      og (gval v21 false false (some a1)) fun v23 =>
      og (gval v21 false false (ibin .gtr v23 (.val (.int .i64 0)))) fun v24 =>
      og (gval v21 false false (some v24)) fun v25 =>
      og (gval v25 true true (some v9)) fun v26 =>
      og (gval v25 true true (anil v26)) fun v27 =>
      og (gval v25 true true (fldA 1 v27)) fun v28 =>
      og (gval v25 true true (lod v28 σ)) fun v29 =>
      og (gval v25 true true (some a1)) fun v30 =>
      og (gval v25 true true (ibin .sub v30 (.val (.int .i64 1)))) fun v31 =>
      gpick v25 (
        acall TP fn_spec_l1In [v29, (.val (.int .i64 0)), v31] σ (onr (fun v32 σ =>
        og (aun .not v32) fun v33 =>
        og (gval v21 false false (some v33)) fun v34 =>
        og (pickV v21 (.val (.bool true)) v34) fun v35 =>
        k1 (a0, a1, v9, v35, ()) σ) (fun v σ => apan v σ R))) (
        og (gval v21 false false (some (.val (.bool false)))) fun v34 =>
        og (pickV v21 (.val (.bool true)) v34) fun v35 =>
        k1 (a0, a1, v9, v35, ()) σ) (
        og (gval v21 false false (pickV (.tup []) (.tup []) (.val (.bool false)))) fun v34 =>
        og (pickV v21 (.val (.bool true)) v34) fun v35 =>
        k1 (a0, a1, v9, v35, ()) σ))) (fun v σ => apan v σ R))
def x26 : Sx := .og (.idx 6 (.var 1) (.var 0)) (.call 44 [(.var 0)] (.og (.aun .not (.var 0)) (.apick (.var 0) (.ret (.lit (.val (.int .i64 1)))) (.jn 61 [0, 1, 5, 35] (.apick (.var 3) (.ret (.lit (.val (.int .i64 3)))) (.jn 125 [0, 1, 5, 43] (.apick (.var 3) (.ret (.lit (.val (.int .i64 1)))) (.jn 253 [0, 1, 5, 56] (.apick (.var 3) (.ret (.lit (.val (.int .i64 5)))) (.jn 255 [0, 1, 5] (.og (.anil (.var 2)) (.og (.fldA 0 (.var 0)) (.og (.lod (.var 0)) (.og (.ibin .eql (.var 0) (.lit (.val (.int .i64 8)))) (.gog (.var 0) true false (.ret (.var 5)) (.gog (.var 1) true false (.ibin .gtr (.var 0) (.lit (.val (.int .i64 0)))) (.og (.pickV (.var 2) (.var 0) (.lit (.val (.bool false)))) (.apick (.var 0) (.ret (.lit (.val (.int .i64 1)))) (.call 50 [(.var 7), (.var 8)] (.og (.aun .not (.var 0)) (.apick (.var 0) (.ret (.lit (.val (.int .i64 3)))) (.ret (.lit (.val (.int .i64 0))))))))))))))) (.og (.anil (.var 2)) (.og (.fldA 0 (.var 0)) (.og (.lod (.var 0)) (.og (.ibin .eql (.var 0) (.lit (.val (.int .i64 1)))) (.apick (.var 0) (.og (.anil (.var 6)) (.og (.fldA 5 (.var 0)) (.og (.lod (.var 0)) (.call 49 [(.var 0)] (.og (.ibin .neq (.var 0) (.lit (.val (.int .i64 0)))) (.apick (.var 0) (.ret (.var 1)) (.jump 0 [(.var 9), (.var 10), (.var 11)]))))))) (.jump 0 [(.var 4), (.var 5), (.var 6)])))))))) (.og (.anil (.var 2)) (.og (.fldA 0 (.var 0)) (.og (.lod (.var 0)) (.call 47 [(.var 0)] (.gog (.var 0) true false (.ret (.var 6)) (.gog (.var 1) true false (.anil (.var 0)) (.gog (.var 2) true false (.fldA 4 (.var 0)) (.gog (.var 3) true false (.lod (.var 0)) (.gpick (.var 4) (.call 48 [(.var 0)] (.og (.aun .not (.var 0)) (.jump 0 [(.var 10), (.var 11), (.var 12), (.var 0)]))) (.jump 0 [(.var 8), (.var 9), (.var 10), (.lit (.val (.bool false)))]) (.no)))))))))))) (.og (.ibin .gtr (.var 1) (.lit (.val (.int .i64 0)))) (.gog (.var 0) true false (.ret (.var 1)) (.gog (.var 1) true false (.ret (.var 3)) (.gpick (.var 2) (.call 46 [(.var 1), (.var 0)] (.og (.aun .not (.var 0)) (.jump 0 [(.var 5), (.var 6), (.var 7), (.var 0)]))) (.jump 0 [(.var 3), (.var 4), (.var 5), (.lit (.val (.bool false)))]) (.no))))))) (.og (.ibin .eql (.var 3) (.lit (.val (.int .i64 0)))) (.gog (.var 0) true false (.ret (.var 3)) (.gog (.var 1) true false (.anil (.var 0)) (.gog (.var 2) true false (.fldA 1 (.var 0)) (.gog (.var 3) true false (.lod (.var 0)) (.gog (.var 4) true false (.ibin .neq (.var 0) (.lit (.val (.int .i64 (-1))))) (.og (.pickV (.var 5) (.var 0) (.lit (.val (.bool false)))) (.gog (.var 0) false false (.ret (.var 10)) (.gog (.var 1) false false (.ibin .gtr (.var 0) (.lit (.val (.int .i64 0)))) (.gog (.var 2) false false (.ret (.var 0)) (.gog (.var 0) true true (.ret (.var 12)) (.gog (.var 1) true true (.anil (.var 0)) (.gog (.var 2) true true (.fldA 1 (.var 0)) (.gog (.var 3) true true (.lod (.var 0)) (.gog (.var 4) true true (.ret (.var 17)) (.gog (.var 5) true true (.ibin .sub (.var 0) (.lit (.val (.int .i64 1)))) (.gpick (.var 6) (.call 45 [(.var 2), (.lit (.val (.int .i64 0))), (.var 0)] (.og (.aun .not (.var 0)) (.gog (.var 11) false false (.ret (.var 0)) (.og (.pickV (.var 12) (.lit (.val (.bool true))) (.var 0)) (.jump 0 [(.var 24), (.var 23), (.var 22), (.var 0)]))))) (.gog (.var 9) false false (.ret (.lit (.val (.bool false)))) (.og (.pickV (.var 10) (.lit (.val (.bool true))) (.var 0)) (.jump 0 [(.var 22), (.var 21), (.var 20), (.var 0)]))) (.gog (.var 9) false false (.pickV (.lit (.tup [])) (.lit (.tup [])) (.lit (.val (.bool false)))) (.og (.pickV (.var 10) (.lit (.val (.bool true))) (.var 0)) (.jump 0 [(.var 22), (.var 21), (.var 20), (.var 0)]))))))))))))))))))))))))
set_option maxRecDepth 1000000 in
theorem x26_ok : okF TT Tryz.f26 2 x26 = true := by decide +kernel
set_option maxRecDepth 1000000 in
theorem s_spec_l4One_ok {a0 a1 : AV} {σ : AH} {R : AEnd → AH → Prop} (h : s_spec_l4One a0 a1 σ R) : acall TP fn_spec_l4One [a0, a1] σ R :=
  acall_okF (ρ := [a1, a0]) TT_ok Tryz.func26 rfl x26 x26_ok rfl h

/-- loop.example/g00349/spec.l4Many -/
def s_spec_l4Many (a0 a1 : AV) (σ : AH) (R : AEnd → AH → Prop) : Prop :=
  og (ibin .eql a0 (.val (.int .i64 4))) fun v7 =>
  apick v7 (
    og (ibin .eql a1 (.val (.int .i64 3))) fun v9 =>
    aret v9 σ R) (
    jn (X := Tup [1, 5, 10]) (fun x1 σ =>
        apick x1.2.2.1 (
          og (ibin .eql x1.1 (.val (.int .i64 1))) fun v15 =>
          aret v15 σ R) (
          og (ibin .eql x1.2.1 (.val (.int .i64 6))) fun v17 =>
          apick v17 (
            og (ibin .geq x1.1 (.val (.int .i64 1))) fun v19 =>
            aret v19 σ R) (
            og (ibin .eql x1.2.1 (.val (.int .i64 9))) fun v21 =>
            apick v21 (
              og (ibin .geq x1.1 (.val (.int .i64 1))) fun v23 =>
              og (gval v23 true false (some x1.1)) fun v25 =>
              og (gval v23 true false (ibin .leq v25 (.val (.int .i64 4)))) fun v26 =>
              og (pickV v23 v26 (.val (.bool false))) fun v27 =>
              aret v27 σ R) (
              og (ibin .eql x1.1 (.val (.int .i64 0))) fun v29 =>
              aret v29 σ R)))) fun k1 =>
      og (ibin .eql a0 (.val (.int .i64 5))) fun v11 =>
      apick v11 (
        k1 (a1, a0, v11, ()) σ) (
        og (ibin .eql a0 (.val (.int .i64 7))) fun v12 =>
        apick v12 (
          k1 (a1, a0, v12, ()) σ) (
          og (ibin .eql a0 (.val (.int .i64 8))) fun v13 =>
          k1 (a1, a0, v13, ()) σ)))
def x27 : Sx := .og (.ibin .eql (.var 1) (.lit (.val (.int .i64 4)))) (.apick (.var 0) (.og (.ibin .eql (.var 1) (.lit (.val (.int .i64 3)))) (.ret (.var 0))) (.jn 215 [1, 5, 10] (.apick (.var 2) (.og (.ibin .eql (.var 0) (.lit (.val (.int .i64 1)))) (.ret (.var 0))) (.og (.ibin .eql (.var 1) (.lit (.val (.int .i64 6)))) (.apick (.var 0) (.og (.ibin .geq (.var 1) (.lit (.val (.int .i64 1)))) (.ret (.var 0))) (.og (.ibin .eql (.var 2) (.lit (.val (.int .i64 9)))) (.apick (.var 0) (.og (.ibin .geq (.var 2) (.lit (.val (.int .i64 1)))) (.gog (.var 0) true false (.ret (.var 3)) (.gog (.var 1) true false (.ibin .leq (.var 0) (.lit (.val (.int .i64 4)))) (.og (.pickV (.var 2) (.var 0) (.lit (.val (.bool false)))) (.ret (.var 0)))))) (.og (.ibin .eql (.var 2) (.lit (.val (.int .i64 0)))) (.ret (.var 0)))))))) (.og (.ibin .eql (.var 2) (.lit (.val (.int .i64 5)))) (.apick (.var 0) (.jump 0 [(.var 2), (.var 3), (.var 0)]) (.og (.ibin .eql (.var 3) (.lit (.val (.int .i64 7)))) (.apick (.var 0) (.jump 0 [(.var 3), (.var 4), (.var 0)]) (.og (.ibin .eql (.var 4) (.lit (.val (.int .i64 8)))) (.jump 0 [(.var 4), (.var 5), (.var 0)]))))))))
set_option maxRecDepth 1000000 in
theorem x27_ok : okF TT Tryz.f27 2 x27 = true := by decide +kernel
set_option maxRecDepth 1000000 in
theorem s_spec_l4Many_ok {a0 a1 : AV} {σ : AH} {R : AEnd → AH → Prop} (h : s_spec_l4Many a0 a1 σ R) : acall TP fn_spec_l4Many [a0, a1] σ R :=
  acall_okF (ρ := [a1, a0]) TT_ok Tryz.func27 rfl x27 x27_ok rfl h

/-- loop.example/g00349/spec.l4Kids -/
def s_spec_l4Kids (a0 a1 : AV) (σ : AH) (R : AEnd → AH → Prop) : Prop :=
  bsl 1 [(.val (.int .i64 0))] 0 [] σ fun v7 σ =>
  lp (X := Tup [0, 1, 5, 6]) (fun R1 y1 σ =>
    og (lenS y1.1) fun v10 =>
    og (ibin .lss y1.2.2.2.1 v10) fun v11 =>
    apick v11 (
      jn (X := Tup [0, 1, 5, 6]) (fun x2 σ =>
          og (ibin .add x2.2.2.2.1 (.val (.int .i64 1))) fun v13 =>
          R1 (x2.1, x2.2.1, x2.2.2.1, v13, ()) σ) fun k2 =>
        og (idx 6 y1.1 y1.2.2.2.1 σ) fun v16 =>
        og (fldA 1 v16) fun v17 =>
        og (lod v17 σ) fun v18 =>
        og (ibin .eql v18 y1.2.1) fun v20 =>
        apick v20 (
          bsl 1 [(.val (.int .i64 0))] 1 [(0, y1.2.2.2.1)] σ fun v23 σ =>
          app 1 y1.2.2.1 v23 σ fun v24 σ =>
          k2 (y1.1, y1.2.1, v24, y1.2.2.2.1, ()) σ) (
          k2 (y1.1, y1.2.1, y1.2.2.1, y1.2.2.2.1, ()) σ)) (
      aret y1.2.2.1 σ R)) (a0, a1, v7, (.val (.int .i64 0)), ()) σ
def x28 : Sx := .bsl 1 [(.val (.int .i64 0))] 0 [] (.lp [0, 1, 5, 6] (.og (.lenS (.var 0)) (.og (.ibin .lss (.var 4) (.var 0)) (.apick (.var 0) (.jn 467 [0, 1, 5, 6] (.og (.ibin .add (.var 3) (.lit (.val (.int .i64 1)))) (.jump 0 [(.var 1), (.var 2), (.var 3), (.var 0)])) (.og (.idx 6 (.var 2) (.var 5)) (.og (.fldA 1 (.var 0)) (.og (.lod (.var 0)) (.og (.ibin .eql (.var 0) (.var 6)) (.apick (.var 0) (.bsl 1 [(.val (.int .i64 0))] 1 [(0, (.var 9))] (.app 1 (.var 9) (.var 0) (.jump 0 [(.var 8), (.var 9), (.var 0), (.var 11)]))) (.jump 0 [(.var 6), (.var 7), (.var 8), (.var 9)]))))))) (.ret (.var 4))))) [(.var 2), (.var 1), (.var 0), (.lit (.val (.int .i64 0)))])
set_option maxRecDepth 1000000 in
theorem x28_ok : okF TT Tryz.f28 2 x28 = true := by decide +kernel
set_option maxRecDepth 1000000 in
theorem s_spec_l4Kids_ok {a0 a1 : AV} {σ : AH} {R : AEnd → AH → Prop} (h : s_spec_l4Kids a0 a1 σ R) : acall TP fn_spec_l4Kids [a0, a1] σ R :=
  acall_okF (ρ := [a1, a0]) TT_ok Tryz.func28 rfl x28 x28_ok rfl h

/-- loop.example/g00349/spec.l9Make -/
def s_spec_l9Make (a0 a1 a2 a3 : AV) (σ : AH) (R : AEnd → AH → Prop) : Prop :=
  og (anil a0) fun v16 =>
  og (fldA 0 v16) fun v17 =>
  og (lod v17 σ) fun v18 =>
  og (idx 6 v18 a1 σ) fun v20 =>
  og (anil a0) fun v22 =>
  og (fldA 0 v22) fun v23 =>
  og (lod v23 σ) fun v24 =>
  acall TP fn_spec_l4Kids [v24, a1] σ (onr (fun v26 σ =>
  og (anil v20) fun v28 =>
  og (fldA 0 v28) fun v29 =>
  og (lod v29 σ) fun v30 =>
  og (ibin .eql v30 (.val (.int .i64 1))) fun v54 =>
  apick v54 (
    bsl 4 [(.val (.int .i64 0)), (.val (.int .i64 0)), (.val (.int .i64 0)), (.val (.string ⟨#[]⟩))] 0 [] σ fun v57 σ =>
    og (anil v20) fun v59 =>
    og (fldA 5 v59) fun v60 =>
    og (lod v60 σ) fun v61 =>
    app 4 v57 v61 σ fun v62 σ =>
    og (bld [(.val (.int .i64 0)), (.val (.int .i64 0)), (.val (.int .i64 0)), (.val (.int .i64 0)), (.val (.int .i64 0)), (.val (.string ⟨#[]⟩)), (.val (.slice none 0 0))] [(0, 1), (1, 1), (2, 1), (3, 1), (4, 1), (5, 1), (6, 1)] [(0, (.val (.int .i64 1))), (6, v62)]) fun v63 =>
    acall TP fn_spec_l9Put [a0, a2, v63] σ (onr (fun v64 σ =>
    acall TP fn_spec_l9End [a0, a2, a3] σ (onr (fun v68 σ =>
    aret (.tup []) σ R) (fun v σ => apan v σ R))) (fun v σ => apan v σ R))) (
    og (ibin .eql v30 (.val (.int .i64 2))) fun v70 =>
    apick v70 (
      og (anil v20) fun v74 =>
      og (fldA 2 v74) fun v75 =>
      og (lod v75 σ) fun v76 =>
      og (anil v20) fun v78 =>
      og (fldA 3 v78) fun v79 =>
      og (lod v79 σ) fun v80 =>
      og (bld [(.val (.int .i64 0)), (.val (.int .i64 0)), (.val (.int .i64 0)), (.val (.int .i64 0)), (.val (.int .i64 0)), (.val (.string ⟨#[]⟩)), (.val (.slice none 0 0))] [(0, 1), (1, 1), (2, 1), (3, 1), (4, 1), (5, 1), (6, 1)] [(0, (.val (.int .i64 2))), (1, v76), (2, v80)]) fun v81 =>
      acall TP fn_spec_l9Put [a0, a2, v81] σ (onr (fun v82 σ =>
      (True) ∧
      acall TP fn_spec_l9End [a0, a2, a3] σ (onr (fun v86 σ =>
      aret (.tup []) σ R) (fun v σ => apan v σ R))) (fun v σ => apan v σ R))) (
      og (ibin .eql v30 (.val (.int .i64 3))) fun v88 =>
      apick v88 (
        og (anil v20) fun v92 =>
        og (fldA 4 v92) fun v93 =>
        og (lod v93 σ) fun v94 =>
        og (bld [(.val (.int .i64 0)), (.val (.int .i64 0)), (.val (.int .i64 0)), (.val (.int .i64 0)), (.val (.int .i64 0)), (.val (.string ⟨#[]⟩)), (.val (.slice none 0 0))] [(0, 1), (1, 1), (2, 1), (3, 1), (4, 1), (5, 1), (6, 1)] [(0, (.val (.int .i64 3))), (5, v94)]) fun v95 =>
        acall TP fn_spec_l9Put [a0, a2, v95] σ (onr (fun v96 σ =>
        acall TP fn_spec_l9End [a0, a2, a3] σ (onr (fun v100 σ =>
        aret (.tup []) σ R) (fun v σ => apan v σ R))) (fun v σ => apan v σ R))) (
        og (ibin .eql v30 (.val (.int .i64 5))) fun v102 =>
        apick v102 (
          og (anil a0) fun v105 =>
          og (fldA 1 v105) fun v106 =>
          og (lod v106 σ) fun v107 =>
          og (anil v20) fun v109 =>
          og (fldA 2 v109) fun v110 =>
          og (lod v110 σ) fun v111 =>
          og (bld [(.val (.int .i64 0)), (.val (.slice none 0 0))] [(0, 1), (1, 1)] [(0, v111)]) fun v112 =>
          og (bslR 2 [(.val (.int .i64 0)), (.val (.slice none 0 0))] 1 [(0, v112)]) fun v113 =>
          app 2 v107 v113 σ fun v114 σ =>
          (True) ∧
          og (anil a0) fun v115 =>
          og (fldA 1 v115) fun v116 =>
          sto 1 v116 v114 σ fun σ =>
          (True) ∧
          og (anil a0) fun v118 =>
          og (fldA 1 v118) fun v119 =>
          og (lod v119 σ) fun v120 =>
          og (lenS v120) fun v121 =>
          og (ibin .sub v121 (.val (.int .i64 1))) fun v122 =>
          og (idx 1 v26 (.val (.int .i64 0)) σ) fun v125 =>
          og (lod v125 σ) fun v126 =>
          acall TP fn_spec_l9Make [a0, v126, v122, (.val (.bool true))] σ (onr (fun v128 σ =>
          og (bld [(.val (.int .i64 0)), (.val (.int .i64 0)), (.val (.int .i64 0)), (.val (.int .i64 0)), (.val (.int .i64 0)), (.val (.string ⟨#[]⟩)), (.val (.slice none 0 0))] [(0, 1), (1, 1), (2, 1), (3, 1), (4, 1), (5, 1), (6, 1)] [(0, (.val (.int .i64 4))), (1, v122)]) fun v132 =>
          acall TP fn_spec_l9Put [a0, a2, v132] σ (onr (fun v133 σ =>
          acall TP fn_spec_l9End [a0, a2, a3] σ (onr (fun v137 σ =>
          aret (.tup []) σ R) (fun v σ => apan v σ R))) (fun v σ => apan v σ R))) (fun v σ => apan v σ R))) (
          og (ibin .eql v30 (.val (.int .i64 4))) fun v139 =>
          apick v139 (
            acall TP fn_spec_l9If [a0, v26, a2, a3] σ (onr (fun v144 σ =>
            aret (.tup []) σ R) (fun v σ => apan v σ R))) (
            og (ibin .eql v30 (.val (.int .i64 6))) fun v146 =>
            apick v146 (
              lp (X := Tup [0, 2, 3, 9, 11]) (fun R1 y1 σ =>
                og (ibin .add y1.2.2.2.2.1 (.val (.int .i64 1))) fun v148 =>
                og (lenS y1.2.2.2.1) fun v150 =>
                og (ibin .lss v148 v150) fun v151 =>
                apick v151 (
                  og (idx 1 y1.2.2.2.1 y1.2.2.2.2.1 σ) fun v157 =>
                  og (lod v157 σ) fun v158 =>
                  acall TP fn_spec_l9Make [y1.1, v158, y1.2.1, (.val (.bool false))] σ (onr (fun v160 σ =>
                  og (bld [(.val (.int .i64 0)), (.val (.int .i64 0)), (.val (.int .i64 0)), (.val (.int .i64 0)), (.val (.int .i64 0)), (.val (.string ⟨#[]⟩)), (.val (.slice none 0 0))] [(0, 1), (1, 1), (2, 1), (3, 1), (4, 1), (5, 1), (6, 1)] [(0, (.val (.int .i64 7)))]) fun v163 =>
                  acall TP fn_spec_l9Put [y1.1, y1.2.1, v163] σ (onr (fun v164 σ =>
                  og (ibin .add y1.2.2.2.2.1 (.val (.int .i64 1))) fun v153 =>
                  R1 (y1.1, y1.2.1, y1.2.2.1, y1.2.2.2.1, v153, ()) σ) (fun v σ => apan v σ R))) (fun v σ => apan v σ R))) (
                  og (lenS y1.2.2.2.1) fun v168 =>
                  og (ibin .sub v168 (.val (.int .i64 1))) fun v169 =>
                  og (idx 1 y1.2.2.2.1 v169 σ) fun v170 =>
                  og (lod v170 σ) fun v171 =>
                  acall TP fn_spec_l9Make [y1.1, v171, y1.2.1, y1.2.2.1] σ (onr (fun v174 σ =>
                  aret (.tup []) σ R) (fun v σ => apan v σ R)))) (a0, a2, a3, v26, (.val (.int .i64 0)), ()) σ) (
              jn (X := Tup [0, 2, 3, 8, 9, 175]) (fun x2 σ =>
                  apick x2.2.2.2.2.2.1 (
                    og (idx 1 x2.2.2.2.2.1 (.val (.int .i64 0)) σ) fun v180 =>
                    og (lod v180 σ) fun v181 =>
                    acall TP fn_spec_l9Make [x2.1, v181, x2.2.1, (.val (.bool false))] σ (onr (fun v183 σ =>
                    jn (X := Tup [0, 2, 3, 8, 12]) (fun x3 σ =>
                        og (anil x3.2.2.2.1) fun v193 =>
                        og (fldA 4 v193) fun v194 =>
                        og (lod v194 σ) fun v195 =>
                        og (bld [(.val (.int .i64 0)), (.val (.int .i64 0)), (.val (.int .i64 0)), (.val (.int .i64 0)), (.val (.int .i64 0)), (.val (.string ⟨#[]⟩)), (.val (.slice none 0 0))] [(0, 1), (1, 1), (2, 1), (3, 1), (4, 1), (5, 1), (6, 1)] [(0, x3.2.2.2.2.1), (5, v195)]) fun v196 =>
                        acall TP fn_spec_l9Put [x3.1, x3.2.1, v196] σ (onr (fun v197 σ =>
                        acall TP fn_spec_l9End [x3.1, x3.2.1, x3.2.2.1] σ (onr (fun v201 σ =>
                        aret (.tup []) σ R) (fun v σ => apan v σ R))) (fun v σ => apan v σ R))) fun k3 =>
                      og (anil x2.2.2.2.1) fun v185 =>
                      og (fldA 0 v185) fun v186 =>
                      og (lod v186 σ) fun v187 =>
                      og (ibin .eql v187 (.val (.int .i64 8))) fun v188 =>
                      apick v188 (
                        k3 (x2.1, x2.2.1, x2.2.2.1, x2.2.2.2.1, (.val (.int .i64 9)), ()) σ) (
                        k3 (x2.1, x2.2.1, x2.2.2.1, x2.2.2.2.1, (.val (.int .i64 8)), ()) σ)) (fun v σ => apan v σ R))) (
                    lp (X := Tup [0, 2, 3, 9, 13]) (fun R4 y4 σ =>
                      og (lenS y4.2.2.2.1) fun v33 =>
                      og (ibin .lss y4.2.2.2.2.1 v33) fun v34 =>
                      apick v34 (
                        og (idx 1 y4.2.2.2.1 y4.2.2.2.2.1 σ) fun v40 =>
                        og (lod v40 σ) fun v41 =>
                        acall TP fn_spec_l9Make [y4.1, v41, y4.2.1, (.val (.bool false))] σ (onr (fun v43 σ =>
                        og (ibin .add y4.2.2.2.2.1 (.val (.int .i64 1))) fun v36 =>
                        R4 (y4.1, y4.2.1, y4.2.2.1, y4.2.2.2.1, v36, ()) σ) (fun v σ => apan v σ R))) (
                        jn (X := Tup [0, 2, 9, 14]) (fun x5 σ =>
                            og (lenS x5.2.2.1) fun v49 =>
                            og (ibin .sub v49 (.val (.int .i64 1))) fun v50 =>
                            og (bld [(.val (.int .i64 0)), (.val (.int .i64 0)), (.val (.int .i64 0)), (.val (.int .i64 0)), (.val (.int .i64 0)), (.val (.string ⟨#[]⟩)), (.val (.slice none 0 0))] [(0, 1), (1, 1), (2, 1), (3, 1), (4, 1), (5, 1), (6, 1)] [(0, x5.2.2.2.1), (1, v50)]) fun v51 =>
                            acall TP fn_spec_l9Put [x5.1, x5.2.1, v51] σ (onr (fun v52 σ =>
                            aret (.tup []) σ R) (fun v σ => apan v σ R))) fun k5 =>
                          apick y4.2.2.1 (
                            k5 (y4.1, y4.2.1, y4.2.2.2.1, (.val (.int .i64 11)), ()) σ) (
                            k5 (y4.1, y4.2.1, y4.2.2.2.1, (.val (.int .i64 10)), ()) σ))) (x2.1, x2.2.1, x2.2.2.1, x2.2.2.2.2.1, (.val (.int .i64 0)), ()) σ)) fun k2 =>
                og (ibin .eql v30 (.val (.int .i64 7))) fun v176 =>
                apick v176 (
                  k2 (a0, a2, a3, v20, v26, v176, ()) σ) (
                  og (ibin .eql v30 (.val (.int .i64 8))) fun v177 =>
                  k2 (a0, a2, a3, v20, v26, v177, ()) σ)))))))) (fun v σ => apan v σ R))
def x29 : Sx := .og (.anil (.var 3)) (.og (.fldA 0 (.var 0)) (.og (.lod (.var 0)) (.og (.idx 6 (.var 0) (.var 5)) (.og (.anil (.var 7)) (.og (.fldA 0 (.var 0)) (.og (.lod (.var 0)) (.call 28 [(.var 0), (.var 9)] (.og (.anil (.var 4)) (.og (.fldA 0 (.var 0)) (.og (.lod (.var 0)) (.og (.ibin .eql (.var 0) (.lit (.val (.int .i64 1)))) (.apick (.var 0) (.bsl 4 [(.val (.int .i64 0)), (.val (.int .i64 0)), (.val (.int .i64 0)), (.val (.string ⟨#[]⟩))] 0 [] (.og (.anil (.var 9)) (.og (.fldA 5 (.var 0)) (.og (.lod (.var 0)) (.app 4 (.var 3) (.var 0) (.og (.bld [(.val (.int .i64 0)), (.val (.int .i64 0)), (.val (.int .i64 0)), (.val (.int .i64 0)), (.val (.int .i64 0)), (.val (.string ⟨#[]⟩)), (.val (.slice none 0 0))] [(0, 1), (1, 1), (2, 1), (3, 1), (4, 1), (5, 1), (6, 1)] [(0, (.lit (.val (.int .i64 1)))), (6, (.var 0))]) (.call 51 [(.var 21), (.var 19), (.var 0)] (.call 52 [(.var 22), (.var 20), (.var 19)] (.rets []))))))))) (.og (.ibin .eql (.var 1) (.lit (.val (.int .i64 2)))) (.apick (.var 0) (.ord [0, 1, 2, 3, 4, 5, 6, 7, 8, 9, 10, 11] [0, 0, 0, 4, 12, 28, 0, 64, 192, 448, 1020, 2047] (.og (.anil (.var 9)) (.og (.fldA 2 (.var 0)) (.og (.lod (.var 0)) (.og (.anil (.var 12)) (.og (.fldA 3 (.var 0)) (.og (.lod (.var 0)) (.og (.bld [(.val (.int .i64 0)), (.val (.int .i64 0)), (.val (.int .i64 0)), (.val (.int .i64 0)), (.val (.int .i64 0)), (.val (.string ⟨#[]⟩)), (.val (.slice none 0 0))] [(0, 1), (1, 1), (2, 1), (3, 1), (4, 1), (5, 1), (6, 1)] [(0, (.lit (.val (.int .i64 2)))), (1, (.var 3)), (2, (.var 0))]) (.call 51 [(.var 23), (.var 21), (.var 0)] (.wat [] (.call 52 [(.var 24), (.var 22), (.var 21)] (.rets [])))))))))))) (.og (.ibin .eql (.var 2) (.lit (.val (.int .i64 3)))) (.apick (.var 0) (.og (.anil (.var 10)) (.og (.fldA 4 (.var 0)) (.og (.lod (.var 0)) (.og (.bld [(.val (.int .i64 0)), (.val (.int .i64 0)), (.val (.int .i64 0)), (.val (.int .i64 0)), (.val (.int .i64 0)), (.val (.string ⟨#[]⟩)), (.val (.slice none 0 0))] [(0, 1), (1, 1), (2, 1), (3, 1), (4, 1), (5, 1), (6, 1)] [(0, (.lit (.val (.int .i64 3)))), (5, (.var 0))]) (.call 51 [(.var 21), (.var 19), (.var 0)] (.call 52 [(.var 22), (.var 20), (.var 19)] (.rets []))))))) (.og (.ibin .eql (.var 3) (.lit (.val (.int .i64 5)))) (.apick (.var 0) (.ord [0, 1, 2, 3, 4, 5, 6, 7, 8, 9, 10, 11, 12, 13, 14] [0, 0, 2, 6, 14, 0, 32, 96, 224, 480, 992, 2046, 4095, 8191, 16383] (.og (.anil (.var 18)) (.og (.fldA 1 (.var 0)) (.og (.lod (.var 0)) (.og (.anil (.var 14)) (.og (.fldA 2 (.var 0)) (.og (.lod (.var 0)) (.og (.bld [(.val (.int .i64 0)), (.val (.slice none 0 0))] [(0, 1), (1, 1)] [(0, (.var 0))]) (.og (.bslR 2 [(.val (.int .i64 0)), (.val (.slice none 0 0))] 1 [(0, (.var 0))]) (.app 2 (.var 5) (.var 0) (.wat [] (.og (.anil (.var 27)) (.og (.fldA 1 (.var 0)) (.sto 1 (.var 0) (.var 2) (.wat [] (.og (.anil (.var 29)) (.og (.fldA 1 (.var 0)) (.og (.lod (.var 0)) (.og (.lenS (.var 0)) (.og (.ibin .sub (.var 0) (.lit (.val (.int .i64 1)))) (.og (.idx 1 (.var 23) (.lit (.val (.int .i64 0)))) (.og (.lod (.var 0)) (.call 29 [(.var 36), (.var 0), (.var 2), (.lit (.val (.bool true)))] (.og (.bld [(.val (.int .i64 0)), (.val (.int .i64 0)), (.val (.int .i64 0)), (.val (.int .i64 0)), (.val (.int .i64 0)), (.val (.string ⟨#[]⟩)), (.val (.slice none 0 0))] [(0, 1), (1, 1), (2, 1), (3, 1), (4, 1), (5, 1), (6, 1)] [(0, (.lit (.val (.int .i64 4)))), (1, (.var 3))]) (.call 51 [(.var 38), (.var 36), (.var 0)] (.call 52 [(.var 39), (.var 37), (.var 36)] (.rets []))))))))))))))))))))))))))) (.og (.ibin .eql (.var 4) (.lit (.val (.int .i64 4)))) (.apick (.var 0) (.call 53 [(.var 19), (.var 8), (.var 17), (.var 16)] (.rets [])) (.og (.ibin .eql (.var 5) (.lit (.val (.int .i64 6)))) (.apick (.var 0) (.lp [0, 2, 3, 9, 11] (.og (.ibin .add (.var 4) (.lit (.val (.int .i64 1)))) (.og (.lenS (.var 4)) (.og (.ibin .lss (.var 1) (.var 0)) (.apick (.var 0) (.og (.idx 1 (.var 6) (.var 7)) (.og (.lod (.var 0)) (.call 29 [(.var 5), (.var 0), (.var 6), (.lit (.val (.bool false)))] (.og (.bld [(.val (.int .i64 0)), (.val (.int .i64 0)), (.val (.int .i64 0)), (.val (.int .i64 0)), (.val (.int .i64 0)), (.val (.string ⟨#[]⟩)), (.val (.slice none 0 0))] [(0, 1), (1, 1), (2, 1), (3, 1), (4, 1), (5, 1), (6, 1)] [(0, (.lit (.val (.int .i64 7))))]) (.call 51 [(.var 7), (.var 8), (.var 0)] (.og (.ibin .add (.var 12) (.lit (.val (.int .i64 1)))) (.jump 0 [(.var 9), (.var 10), (.var 11), (.var 12), (.var 0)]))))))) (.og (.lenS (.var 6)) (.og (.ibin .sub (.var 0) (.lit (.val (.int .i64 1)))) (.og (.idx 1 (.var 8) (.var 0)) (.og (.lod (.var 0)) (.call 29 [(.var 7), (.var 0), (.var 8), (.var 9)] (.rets [])))))))))) [(.var 20), (.var 18), (.var 17), (.var 9), (.lit (.val (.int .i64 0)))]) (.jn 253951 [0, 2, 3, 8, 9, 175] (.apick (.var 5) (.og (.idx 1 (.var 4) (.lit (.val (.int .i64 0)))) (.og (.lod (.var 0)) (.call 29 [(.var 2), (.var 0), (.var 3), (.lit (.val (.bool false)))] (.jn 4063223 [0, 2, 3, 8, 12] (.og (.anil (.var 3)) (.og (.fldA 4 (.var 0)) (.og (.lod (.var 0)) (.og (.bld [(.val (.int .i64 0)), (.val (.int .i64 0)), (.val (.int .i64 0)), (.val (.int .i64 0)), (.val (.int .i64 0)), (.val (.string ⟨#[]⟩)), (.val (.slice none 0 0))] [(0, 1), (1, 1), (2, 1), (3, 1), (4, 1), (5, 1), (6, 1)] [(0, (.var 7)), (5, (.var 0))]) (.call 51 [(.var 4), (.var 5), (.var 0)] (.call 52 [(.var 5), (.var 6), (.var 7)] (.rets []))))))) (.og (.anil (.var 6)) (.og (.fldA 0 (.var 0)) (.og (.lod (.var 0)) (.og (.ibin .eql (.var 0) (.lit (.val (.int .i64 8)))) (.apick (.var 0) (.jump 0 [(.var 7), (.var 8), (.var 9), (.var 10), (.lit (.val (.int .i64 9)))]) (.jump 0 [(.var 7), (.var 8), (.var 9), (.var 10), (.lit (.val (.int .i64 8)))])))))))))) (.lp [0, 2, 3, 9, 13] (.og (.lenS (.var 3)) (.og (.ibin .lss (.var 5) (.var 0)) (.apick (.var 0) (.og (.idx 1 (.var 5) (.var 6)) (.og (.lod (.var 0)) (.call 29 [(.var 4), (.var 0), (.var 5), (.lit (.val (.bool false)))] (.og (.ibin .add (.var 9) (.lit (.val (.int .i64 1)))) (.jump 0 [(.var 6), (.var 7), (.var 8), (.var 9), (.var 0)]))))) (.jn 4063231 [0, 2, 9, 14] (.og (.lenS (.var 2)) (.og (.ibin .sub (.var 0) (.lit (.val (.int .i64 1)))) (.og (.bld [(.val (.int .i64 0)), (.val (.int .i64 0)), (.val (.int .i64 0)), (.val (.int .i64 0)), (.val (.int .i64 0)), (.val (.string ⟨#[]⟩)), (.val (.slice none 0 0))] [(0, 1), (1, 1), (2, 1), (3, 1), (4, 1), (5, 1), (6, 1)] [(0, (.var 5)), (1, (.var 0))]) (.call 51 [(.var 3), (.var 4), (.var 0)] (.rets []))))) (.apick (.var 4) (.jump 0 [(.var 2), (.var 3), (.var 5), (.lit (.val (.int .i64 11)))]) (.jump 0 [(.var 2), (.var 3), (.var 5), (.lit (.val (.int .i64 10)))])))))) [(.var 0), (.var 1), (.var 2), (.var 4), (.lit (.val (.int .i64 0)))])) (.og (.ibin .eql (.var 6) (.lit (.val (.int .i64 7)))) (.apick (.var 0) (.jump 0 [(.var 21), (.var 19), (.var 18), (.var 14), (.var 10), (.var 0)]) (.og (.ibin .eql (.var 7) (.lit (.val (.int .i64 8)))) (.jump 0 [(.var 22), (.var 20), (.var 19), (.var 15), (.var 11), (.var 0)])))))))))))))))))))))))))))
set_option maxRecDepth 1000000 in
theorem x29_ok : okF TT Tryz.f29 4 x29 = true := by decide +kernel
set_option maxRecDepth 1000000 in
theorem s_spec_l9Make_ok {a0 a1 a2 a3 : AV} {σ : AH} {R : AEnd → AH → Prop} (h : s_spec_l9Make a0 a1 a2 a3 σ R) : acall TP fn_spec_l9Make [a0, a1, a2, a3] σ R :=
  acall_okF (ρ := [a3, a2, a1, a0]) TT_ok Tryz.func29 rfl x29 x29_ok rfl h

/-- loop.example/g00349/laws.toDatumS -/
def s_laws_toDatumS (a0 : AV) (σ : AH) (R : AEnd → AH → Prop) : Prop :=
  og (lenS a0) fun v6 =>
  amake TT ty_LRiiisE v6 v6 σ fun v7 σ =>
  lp (X := Tup [0, 3, 4]) (fun R1 y1 σ =>
    og (lenS y1.1) fun v10 =>
    og (ibin .lss y1.2.2.1 v10) fun v11 =>
    apick v11 (
      og (idx 4 y1.1 y1.2.2.1 σ) fun v18 =>
      og (lodA 4 v18 σ) fun v19 =>
      acall TP fn_laws_toDatum [v19] σ (onr (fun v20 σ =>
      og (idx 4 y1.2.1 y1.2.2.1 σ) fun v21 =>
      sto 4 v21 v20 σ fun σ =>
      og (ibin .add y1.2.2.1 (.val (.int .i64 1))) fun v13 =>
      R1 (y1.1, y1.2.1, v13, ()) σ) (fun v σ => apan v σ R))) (
      aret y1.2.1 σ R)) (a0, v7, (.val (.int .i64 0)), ()) σ
def x30 : Sx := .og (.lenS (.var 0)) (.mks 42 (.var 0) (.var 0) (.lp [0, 3, 4] (.og (.lenS (.var 0)) (.og (.ibin .lss (.var 3) (.var 0)) (.apick (.var 0) (.og (.idx 4 (.var 2) (.var 4)) (.og (.lodA 4 (.var 0)) (.call 54 [(.var 0)] (.og (.idx 4 (.var 6) (.var 7)) (.sto 4 (.var 0) (.var 1) (.og (.ibin .add (.var 8) (.lit (.val (.int .i64 1)))) (.jump 0 [(.var 7), (.var 8), (.var 0)]))))))) (.ret (.var 3))))) [(.var 2), (.var 0), (.lit (.val (.int .i64 0)))]))
set_option maxRecDepth 1000000 in
theorem x30_ok : okF TT Tryz.f30 1 x30 = true := by decide +kernel
set_option maxRecDepth 1000000 in
theorem s_laws_toDatumS_ok {a0 : AV} {σ : AH} {R : AEnd → AH → Prop} (h : s_laws_toDatumS a0 σ R) : acall TP fn_laws_toDatumS [a0] σ R :=
  acall_okF (ρ := [a0]) TT_ok Tryz.func30 rfl x30 x30_ok rfl h

/-- loop.example/g00349/impl.in -/
def s_impl_in (a0 a1 a2 : AV) (σ : AH) (R : AEnd → AH → Prop) : Prop :=
  og (ibin .leq a1 a0) fun v9 =>
  og (gval v9 true false (some a0)) fun v11 =>
  og (gval v9 true false (some a2)) fun v12 =>
  og (gval v9 true false (ibin .leq v11 v12)) fun v13 =>
  og (pickV v9 v13 (.val (.bool false))) fun v14 =>
  aret v14 σ R
def x31 : Sx := .og (.ibin .leq (.var 1) (.var 2)) (.gog (.var 0) true false (.ret (.var 3)) (.gog (.var 1) true false (.ret (.var 2)) (.gog (.var 2) true false (.ibin .leq (.var 1) (.var 0)) (.og (.pickV (.var 3) (.var 0) (.lit (.val (.bool false)))) (.ret (.var 0))))))
set_option maxRecDepth 1000000 in
theorem x31_ok : okF TT Tryz.f31 3 x31 = true := by decide +kernel
set_option maxRecDepth 1000000 in
theorem s_impl_in_ok {a0 a1 a2 : AV} {σ : AH} {R : AEnd → AH → Prop} (h : s_impl_in a0 a1 a2 σ R) : acall TP fn_impl_in [a0, a1, a2] σ R :=
  acall_okF (ρ := [a2, a1, a0]) TT_ok Tryz.func31 rfl x31 x31_ok rfl h

/-- loop.example/g00349/impl.oneCoreFault -/
def s_impl_oneCoreFault (a0 a1 : AV) (σ : AH) (R : AEnd → AH → Prop) : Prop :=
  abox a0 σ fun v2 σ =>
  frz v2 σ fun f2 σ =>
  og (lod f2 σ) fun v8 =>
  og (idx 6 v8 a1 σ) fun v10 =>
  og (lodA 6 v10 σ) fun v11 =>
  new [(.val (.int .i64 0)), (.val (.int .i64 0)), (.val (.int .i64 0)), (.val (.int .i64 0)), (.val (.string ⟨#[]⟩)), (.val (.slice none 0 0))] σ fun v5 σ =>
  sto 6 v5 v11 σ fun σ =>
  frz v5 σ fun f5 σ =>
  og (lodA 6 f5 σ) fun v13 =>
  acall TP fn_impl_coreForm [v13] σ (onr (fun v14 σ =>
  og (aun .not v14) fun v15 =>
  apick v15 (
    aret (.val (.int .i64 1)) σ R) (
    jn (X := Tup [1, 2, 5, 16]) (fun x1 σ =>
        apick x1.2.2.2.1 (
          aret (.val (.int .i64 3)) σ R) (
          jn (X := Tup [1, 2, 5, 36]) (fun x2 σ =>
              apick x2.2.2.2.1 (
                aret (.val (.int .i64 1)) σ R) (
                jn (X := Tup [1, 2, 5, 48]) (fun x3 σ =>
                    apick x3.2.2.2.1 (
                      aret (.val (.int .i64 5)) σ R) (
                      jn (X := Tup []) (fun x4 σ =>
                          aret (.val (.int .i64 0)) σ R) fun k4 =>
                        og (fldA 0 x3.2.2.1) fun v58 =>
                        og (lod v58 σ) fun v59 =>
                        og (ibin .eql v59 (.val (.int .i64 1))) fun v61 =>
                        apick v61 (
                          og (fldA 5 x3.2.2.1) fun v62 =>
                          og (lod v62 σ) fun v63 =>
                          acall TP fn_impl_DataFault [v63] σ (onr (fun v64 σ =>
                          aret v64 σ R) (fun v σ => apan v σ R))) (
                          og (ibin .eql v59 (.val (.int .i64 8))) fun v66 =>
                          apick v66 (
                            og (ibin .gtr x3.1 (.val (.int .i64 0))) fun v68 =>
                            apick v68 (
                              aret (.val (.int .i64 1)) σ R) (
                              k4 (()) σ)) (
                            og (ibin .eql v59 (.val (.int .i64 5))) fun v70 =>
                            apick v70 (
                              og (fldA 2 x3.2.2.1) fun v71 =>
                              og (lod v71 σ) fun v72 =>
                              acall TP fn_impl_in [v72, (.val (.int .i64 0)), (.val (.int .i64 3))] σ (onr (fun v73 σ =>
                              og (aun .not v73) fun v74 =>
                              apick v74 (
                                aret (.val (.int .i64 3)) σ R) (
                                k4 (()) σ)) (fun v σ => apan v σ R))) (
                              og (ibin .eql v59 (.val (.int .i64 2))) fun v76 =>
                              apick v76 (
                                og (lod x3.2.1 σ) fun v78 =>
                                og (fldA 2 x3.2.2.1) fun v80 =>
                                og (lod v80 σ) fun v81 =>
                                acall TP fn_impl_lambdaOut [v78, x3.1, v81] σ (onr (fun v82 σ =>
                                og (aext v82 0) fun v83 =>
                                og (aext v82 1) fun v84 =>
                                new [(.val (.int .i64 0)), (.val (.int .i64 0)), (.val (.int .i64 0)), (.val (.int .i64 0)), (.val (.string ⟨#[]⟩)), (.val (.slice none 0 0))] σ fun v6 σ =>
                                sto 6 v6 v83 σ fun σ =>
                                jn (X := Tup [100]) (fun x5 σ =>
                                    apick x5.1 (
                                      aret (.val (.int .i64 3)) σ R) (
                                      k4 (()) σ)) fun k5 =>
                                  frz v6 σ fun f6 σ =>
                                  og (fldA 2 x3.2.2.1) fun v85 =>
                                  og (lod v85 σ) fun v86 =>
                                  og (ibin .lss v86 (.val (.int .i64 0))) fun v87 =>
                                  og (gval v87 false false (some v84)) fun v89 =>
                                  og (gval v87 false false (aun .not v89)) fun v90 =>
                                  og (pickV v87 (.val (.bool true)) v90) fun v91 =>
                                  og (gval v91 false false (fldA 3 x3.2.2.1)) fun v93 =>
                                  og (gval v91 false false (lod v93 σ)) fun v94 =>
                                  og (gval v91 false false (fldA 2 f6)) fun v95 =>
                                  og (gval v91 false false (lod v95 σ)) fun v96 =>
                                  og (gval v91 false false (ibin .sub v96 (.val (.int .i64 1)))) fun v97 =>
                                  gpick v91 (
                                    k5 ((.val (.bool true)), ()) σ) (
                                    acall TP fn_impl_in [v94, (.val (.int .i64 0)), v97] σ (onr (fun v98 σ =>
                                    og (aun .not v98) fun v99 =>
                                    k5 (v99, ()) σ) (fun v σ => apan v σ R))) (False)) (fun v σ => apan v σ R))) (
                                k4 (()) σ)))))) fun k3 =>
                  og (fldA 0 x2.2.2.1) fun v49 =>
                  og (lod v49 σ) fun v50 =>
                  acall TP fn_impl_named [v50] σ (onr (fun v51 σ =>
                  og (gval v51 true false (fldA 4 x2.2.2.1)) fun v53 =>
                  og (gval v51 true false (lod v53 σ)) fun v54 =>
                  gpick v51 (
                    acall TP fn_impl_isName [v54] σ (onr (fun v55 σ =>
                    og (aun .not v55) fun v56 =>
                    k3 (x2.1, x2.2.1, x2.2.2.1, v56, ()) σ) (fun v σ => apan v σ R))) (
                    k3 (x2.1, x2.2.1, x2.2.2.1, (.val (.bool false)), ()) σ) (False)) (fun v σ => apan v σ R)))) fun k2 =>
            og (ibin .gtr x1.1 (.val (.int .i64 0))) fun v38 =>
            gpick v38 (
              og (ibin .sub x1.1 (.val (.int .i64 1))) fun v42 =>
              og (fldA 1 x1.2.2.1) fun v43 =>
              og (lod v43 σ) fun v44 =>
              acall TP fn_impl_isUp [(.clo (.func fn_impl_oneCoreFault_1) [] [x1.2.1]), v42, v44] σ (onr (fun v45 σ =>
              og (aun .not v45) fun v46 =>
              k2 (x1.1, x1.2.1, x1.2.2.1, v46, ()) σ) (fun v σ => apan v σ R))) (
              k2 (x1.1, x1.2.1, x1.2.2.1, (.val (.bool false)), ()) σ) (False))) fun k1 =>
      og (ibin .eql a1 (.val (.int .i64 0))) fun v18 =>
      og (gval v18 true false (fldA 1 f5)) fun v20 =>
      og (gval v18 true false (lod v20 σ)) fun v21 =>
      og (gval v18 true false (ibin .neq v21 (.val (.int .i64 (-1))))) fun v22 =>
      og (pickV v18 v22 (.val (.bool false))) fun v23 =>
      og (gval v23 false false (some a1)) fun v25 =>
      og (gval v23 false false (ibin .gtr v25 (.val (.int .i64 0)))) fun v26 =>
      og (gval v23 false false (some v26)) fun v27 =>
      og (gval v27 true true (fldA 1 f5)) fun v28 =>
      og (gval v27 true true (lod v28 σ)) fun v29 =>
      og (gval v27 true true (some a1)) fun v30 =>
      og (gval v27 true true (ibin .sub v30 (.val (.int .i64 1)))) fun v31 =>
      gpick v27 (
        acall TP fn_impl_in [v29, (.val (.int .i64 0)), v31] σ (onr (fun v32 σ =>
        og (aun .not v32) fun v33 =>
        og (gval v23 false false (some v33)) fun v34 =>
        og (pickV v23 (.val (.bool true)) v34) fun v35 =>
        k1 (a1, f2, f5, v35, ()) σ) (fun v σ => apan v σ R))) (
        og (gval v23 false false (some (.val (.bool false)))) fun v34 =>
        og (pickV v23 (.val (.bool true)) v34) fun v35 =>
        k1 (a1, f2, f5, v35, ()) σ) (
        og (gval v23 false false (pickV (.tup []) (.tup []) (.val (.bool false)))) fun v34 =>
        og (pickV v23 (.val (.bool true)) v34) fun v35 =>
        k1 (a1, f2, f5, v35, ()) σ))) (fun v σ => apan v σ R))
def x32 : Sx := .box (.var 1) (.frz 2 (.var 0) (.og (.lod (.var 0)) (.og (.idx 6 (.var 0) (.var 3)) (.og (.lodA 6 (.var 0)) (.new [(.val (.int .i64 0)), (.val (.int .i64 0)), (.val (.int .i64 0)), (.val (.int .i64 0)), (.val (.string ⟨#[]⟩)), (.val (.slice none 0 0))] (.sto 6 (.var 0) (.var 1) (.frz 7 (.var 0) (.og (.lodA 6 (.var 0)) (.call 55 [(.var 0)] (.og (.aun .not (.var 0)) (.apick (.var 0) (.ret (.lit (.val (.int .i64 1)))) (.jn 231 [1, 2, 5, 16] (.apick (.var 3) (.ret (.lit (.val (.int .i64 3)))) (.jn 927 [1, 2, 5, 36] (.apick (.var 3) (.ret (.lit (.val (.int .i64 1)))) (.jn 3711 [1, 2, 5, 48] (.apick (.var 3) (.ret (.lit (.val (.int .i64 5)))) (.jn 31 [] (.ret (.lit (.val (.int .i64 0)))) (.og (.fldA 0 (.var 2)) (.og (.lod (.var 0)) (.og (.ibin .eql (.var 0) (.lit (.val (.int .i64 1)))) (.apick (.var 0) (.og (.fldA 5 (.var 5)) (.og (.lod (.var 0)) (.call 60 [(.var 0)] (.ret (.var 0))))) (.og (.ibin .eql (.var 1) (.lit (.val (.int .i64 8)))) (.apick (.var 0) (.og (.ibin .gtr (.var 4) (.lit (.val (.int .i64 0)))) (.apick (.var 0) (.ret (.lit (.val (.int .i64 1)))) (.jump 0 []))) (.og (.ibin .eql (.var 2) (.lit (.val (.int .i64 5)))) (.apick (.var 0) (.og (.fldA 2 (.var 7)) (.og (.lod (.var 0)) (.call 31 [(.var 0), (.lit (.val (.int .i64 0))), (.lit (.val (.int .i64 3)))] (.og (.aun .not (.var 0)) (.apick (.var 0) (.ret (.lit (.val (.int .i64 3)))) (.jump 0 [])))))) (.og (.ibin .eql (.var 3) (.lit (.val (.int .i64 2)))) (.apick (.var 0) (.og (.lod (.var 7)) (.og (.fldA 2 (.var 9)) (.og (.lod (.var 0)) (.call 61 [(.var 2), (.var 9), (.var 0)] (.og (.aext (.var 0) 0) (.og (.aext (.var 1) 1) (.new [(.val (.int .i64 0)), (.val (.int .i64 0)), (.val (.int .i64 0)), (.val (.int .i64 0)), (.val (.string ⟨#[]⟩)), (.val (.slice none 0 0))] (.sto 6 (.var 0) (.var 2) (.jn 125947 [100] (.apick (.var 0) (.ret (.lit (.val (.int .i64 3)))) (.jump 0 [])) (.frz 16 (.var 0) (.og (.fldA 2 (.var 16)) (.og (.lod (.var 0)) (.og (.ibin .lss (.var 0) (.lit (.val (.int .i64 0)))) (.gog (.var 0) false false (.ret (.var 5)) (.gog (.var 1) false false (.aun .not (.var 0)) (.og (.pickV (.var 2) (.lit (.val (.bool true))) (.var 0)) (.gog (.var 0) false false (.fldA 3 (.var 22)) (.gog (.var 1) false false (.lod (.var 0)) (.gog (.var 2) false false (.fldA 2 (.var 8)) (.gog (.var 3) false false (.lod (.var 0)) (.gog (.var 4) false false (.ibin .sub (.var 0) (.lit (.val (.int .i64 1)))) (.gpick (.var 5) (.jump 0 [(.lit (.val (.bool true)))]) (.call 31 [(.var 3), (.lit (.val (.int .i64 0))), (.var 0)] (.og (.aun .not (.var 0)) (.jump 0 [(.var 0)]))) (.no))))))))))))))))))))))) (.jump 0 []))))))))))))) (.og (.fldA 0 (.var 2)) (.og (.lod (.var 0)) (.call 58 [(.var 0)] (.gog (.var 0) true false (.fldA 4 (.var 5)) (.gog (.var 1) true false (.lod (.var 0)) (.gpick (.var 2) (.call 59 [(.var 0)] (.og (.aun .not (.var 0)) (.jump 0 [(.var 7), (.var 8), (.var 9), (.var 0)]))) (.jump 0 [(.var 5), (.var 6), (.var 7), (.lit (.val (.bool false)))]) (.no))))))))) (.og (.ibin .gtr (.var 0) (.lit (.val (.int .i64 0)))) (.gpick (.var 0) (.clo (.func 57) [] [(.var 2)] (.og (.ibin .sub (.var 2) (.lit (.val (.int .i64 1)))) (.og (.fldA 1 (.var 5)) (.og (.lod (.var 0)) (.call 56 [(.var 3), (.var 2), (.var 0)] (.og (.aun .not (.var 0)) (.jump 0 [(.var 7), (.var 8), (.var 9), (.var 0)]))))))) (.jump 0 [(.var 1), (.var 2), (.var 3), (.lit (.val (.bool false)))]) (.no))))) (.og (.ibin .eql (.var 10) (.lit (.val (.int .i64 0)))) (.gog (.var 0) true false (.fldA 1 (.var 4)) (.gog (.var 1) true false (.lod (.var 0)) (.gog (.var 2) true false (.ibin .neq (.var 0) (.lit (.val (.int .i64 (-1))))) (.og (.pickV (.var 3) (.var 0) (.lit (.val (.bool false)))) (.gog (.var 0) false false (.ret (.var 15)) (.gog (.var 1) false false (.ibin .gtr (.var 0) (.lit (.val (.int .i64 0)))) (.gog (.var 2) false false (.ret (.var 0)) (.gog (.var 0) true true (.fldA 1 (.var 11)) (.gog (.var 1) true true (.lod (.var 0)) (.gog (.var 2) true true (.ret (.var 20)) (.gog (.var 3) true true (.ibin .sub (.var 0) (.lit (.val (.int .i64 1)))) (.gpick (.var 4) (.call 31 [(.var 2), (.lit (.val (.int .i64 0))), (.var 0)] (.og (.aun .not (.var 0)) (.gog (.var 9) false false (.ret (.var 0)) (.og (.pickV (.var 10) (.lit (.val (.bool true))) (.var 0)) (.jump 0 [(.var 26), (.var 24), (.var 19), (.var 0)]))))) (.gog (.var 7) false false (.ret (.lit (.val (.bool false)))) (.og (.pickV (.var 8) (.lit (.val (.bool true))) (.var 0)) (.jump 0 [(.var 24), (.var 22), (.var 17), (.var 0)]))) (.gog (.var 7) false false (.pickV (.lit (.tup [])) (.lit (.tup [])) (.lit (.val (.bool false)))) (.og (.pickV (.var 8) (.lit (.val (.bool true))) (.var 0)) (.jump 0 [(.var 24), (.var 22), (.var 17), (.var 0)]))))))))))))))))))))))))))))
set_option maxRecDepth 1000000 in
theorem x32_ok : okF TT Tryz.f32 2 x32 = true := by decide +kernel
set_option maxRecDepth 1000000 in
theorem s_impl_oneCoreFault_ok {a0 a1 : AV} {σ : AH} {R : AEnd → AH → Prop} (h : s_impl_oneCoreFault a0 a1 σ R) : acall TP fn_impl_oneCoreFault [a0, a1] σ R :=
  acall_okF (ρ := [a1, a0]) TT_ok Tryz.func32 rfl x32 x32_ok rfl h

/-- loop.example/g00349/impl.kids -/
def s_impl_kids (a0 : AV) (σ : AH) (R : AEnd → AH → Prop) : Prop :=
  og (lenS a0) fun v7 =>
  amake TT ty_LLi v7 v7 σ fun v8 σ =>
  og (lenS a0) fun v10 =>
  lp (X := Tup [3, 9, 10, 11]) (fun R1 y1 σ =>
    og (ibin .lss y1.2.2.2.1 y1.2.2.1) fun v12 =>
    apick v12 (
      jn (X := Tup [3, 9, 10, 11]) (fun x2 σ =>
          og (ibin .add x2.2.2.2.1 (.val (.int .i64 1))) fun v31 =>
          R1 (x2.1, x2.2.1, x2.2.2.1, v31, ()) σ) fun k2 =>
        og (idx 6 y1.2.1 y1.2.2.2.1 σ) fun v14 =>
        og (lodA 6 v14 σ) fun v15 =>
        new [(.val (.int .i64 0)), (.val (.int .i64 0)), (.val (.int .i64 0)), (.val (.int .i64 0)), (.val (.string ⟨#[]⟩)), (.val (.slice none 0 0))] σ fun v5 σ =>
        sto 6 v5 v15 σ fun σ =>
        frz v5 σ fun f5 σ =>
        og (fldA 1 f5) fun v16 =>
        og (lod v16 σ) fun v17 =>
        og (ibin .geq v17 (.val (.int .i64 0))) fun v18 =>
        apick v18 (
          og (fldA 1 f5) fun v20 =>
          og (lod v20 σ) fun v21 =>
          og (fldA 1 f5) fun v23 =>
          og (lod v23 σ) fun v24 =>
          og (idx 1 y1.1 v24 σ) fun v25 =>
          og (lod v25 σ) fun v26 =>
          og (bslR 1 [(.val (.int .i64 0))] 1 [(0, y1.2.2.2.1)]) fun v28 =>
          app 1 v26 v28 σ fun v29 σ =>
          (lod v20 σ = some v21 ∧ True) ∧
          og (idx 1 y1.1 v21 σ) fun v30 =>
          sto 1 v30 v29 σ fun σ =>
          (True) ∧
          k2 (y1.1, y1.2.1, y1.2.2.1, y1.2.2.2.1, ()) σ) (
          k2 (y1.1, y1.2.1, y1.2.2.1, y1.2.2.2.1, ()) σ)) (
      aret y1.1 σ R)) (v8, a0, v10, (.val (.int .i64 0)), ()) σ
def x33 : Sx := .og (.lenS (.var 0)) (.mks 67 (.var 0) (.var 0) (.og (.lenS (.var 2)) (.lp [3, 9, 10, 11] (.og (.ibin .lss (.var 3) (.var 2)) (.apick (.var 0) (.jn 935 [3, 9, 10, 11] (.og (.ibin .add (.var 3) (.lit (.val (.int .i64 1)))) (.jump 0 [(.var 1), (.var 2), (.var 3), (.var 0)])) (.og (.idx 6 (.var 2) (.var 4)) (.og (.lodA 6 (.var 0)) (.new [(.val (.int .i64 0)), (.val (.int .i64 0)), (.val (.int .i64 0)), (.val (.int .i64 0)), (.val (.string ⟨#[]⟩)), (.val (.slice none 0 0))] (.sto 6 (.var 0) (.var 1) (.frz 7 (.var 0) (.og (.fldA 1 (.var 0)) (.og (.lod (.var 0)) (.og (.ibin .geq (.var 0) (.lit (.val (.int .i64 0)))) (.apick (.var 0) (.ord [0, 1, 2, 3, 4, 5, 6, 7, 8, 9, 10, 11, 12] [0, 0, 2, 0, 0, 16, 56, 120, 0, 256, 1016, 2047, 4095] (.og (.fldA 1 (.var 3)) (.og (.lod (.var 0)) (.og (.fldA 1 (.var 5)) (.og (.lod (.var 0)) (.og (.idx 1 (.var 12) (.var 0)) (.og (.lod (.var 0)) (.og (.bslR 1 [(.val (.int .i64 0))] 1 [(0, (.var 17))]) (.app 1 (.var 1) (.var 0) (.wat [⟨none, (.lod (.var 7)), (.var 6)⟩] (.og (.idx 1 (.var 16) (.var 6)) (.sto 1 (.var 0) (.var 1) (.wat [] (.jump 0 [(.var 17), (.var 18), (.var 19), (.var 20)])))))))))))))) (.jump 0 [(.var 8), (.var 9), (.var 10), (.var 11)]))))))))))) (.ret (.var 1)))) [(.var 1), (.var 3), (.var 0), (.lit (.val (.int .i64 0)))])))
set_option maxRecDepth 1000000 in
theorem x33_ok : okF TT Tryz.f33 1 x33 = true := by decide +kernel
set_option maxRecDepth 1000000 in
theorem s_impl_kids_ok {a0 : AV} {σ : AH} {R : AEnd → AH → Prop} (h : s_impl_kids a0 σ R) : acall TP fn_impl_kids [a0] σ R :=
  acall_okF (ρ := [a0]) TT_ok Tryz.func33 rfl x33 x33_ok rfl h

/-- loop.example/g00349/impl.hasKids -/
def s_impl_hasKids (a0 a1 : AV) (σ : AH) (R : AEnd → AH → Prop) : Prop :=
  og (ibin .eql a0 (.val (.int .i64 4))) fun v7 =>
  apick v7 (
    og (ibin .eql a1 (.val (.int .i64 3))) fun v9 =>
    aret v9 σ R) (
    jn (X := Tup [1, 5, 10]) (fun x1 σ =>
        apick x1.2.2.1 (
          og (ibin .eql x1.1 (.val (.int .i64 1))) fun v15 =>
          aret v15 σ R) (
          og (ibin .eql x1.2.1 (.val (.int .i64 6))) fun v17 =>
          apick v17 (
            og (ibin .geq x1.1 (.val (.int .i64 1))) fun v19 =>
            aret v19 σ R) (
            og (ibin .eql x1.2.1 (.val (.int .i64 9))) fun v21 =>
            apick v21 (
              acall TP fn_impl_in [x1.1, (.val (.int .i64 1)), (.val (.int .i64 4))] σ (onr (fun v23 σ =>
              aret v23 σ R) (fun v σ => apan v σ R))) (
              og (ibin .eql x1.1 (.val (.int .i64 0))) fun v25 =>
              aret v25 σ R)))) fun k1 =>
      og (ibin .eql a0 (.val (.int .i64 5))) fun v11 =>
      apick v11 (
        k1 (a1, a0, v11, ()) σ) (
        og (ibin .eql a0 (.val (.int .i64 7))) fun v12 =>
        apick v12 (
          k1 (a1, a0, v12, ()) σ) (
          og (ibin .eql a0 (.val (.int .i64 8))) fun v13 =>
          k1 (a1, a0, v13, ()) σ)))
def x34 : Sx := .og (.ibin .eql (.var 1) (.lit (.val (.int .i64 4)))) (.apick (.var 0) (.og (.ibin .eql (.var 1) (.lit (.val (.int .i64 3)))) (.ret (.var 0))) (.jn 215 [1, 5, 10] (.apick (.var 2) (.og (.ibin .eql (.var 0) (.lit (.val (.int .i64 1)))) (.ret (.var 0))) (.og (.ibin .eql (.var 1) (.lit (.val (.int .i64 6)))) (.apick (.var 0) (.og (.ibin .geq (.var 1) (.lit (.val (.int .i64 1)))) (.ret (.var 0))) (.og (.ibin .eql (.var 2) (.lit (.val (.int .i64 9)))) (.apick (.var 0) (.call 31 [(.var 2), (.lit (.val (.int .i64 1))), (.lit (.val (.int .i64 4)))] (.ret (.var 0))) (.og (.ibin .eql (.var 2) (.lit (.val (.int .i64 0)))) (.ret (.var 0)))))))) (.og (.ibin .eql (.var 2) (.lit (.val (.int .i64 5)))) (.apick (.var 0) (.jump 0 [(.var 2), (.var 3), (.var 0)]) (.og (.ibin .eql (.var 3) (.lit (.val (.int .i64 7)))) (.apick (.var 0) (.jump 0 [(.var 3), (.var 4), (.var 0)]) (.og (.ibin .eql (.var 4) (.lit (.val (.int .i64 8)))) (.jump 0 [(.var 4), (.var 5), (.var 0)]))))))))
set_option maxRecDepth 1000000 in
theorem x34_ok : okF TT Tryz.f34 2 x34 = true := by decide +kernel
set_option maxRecDepth 1000000 in
theorem s_impl_hasKids_ok {a0 a1 : AV} {σ : AH} {R : AEnd → AH → Prop} (h : s_impl_hasKids a0 a1 σ R) : acall TP fn_impl_hasKids [a0, a1] σ R :=
  acall_okF (ρ := [a1, a0]) TT_ok Tryz.func34 rfl x34 x34_ok rfl h

def x35 : Sx := .ord [0, 1, 2, 3] [0, 1, 0, 7] (.og (.fldA 0 (.var 0)) (.og (.lod (.var 0)) (.sto 1 (.var 4) (.lit (.val (.slice none 0 0))) (.wat [⟨none, (.lod (.var 1)), (.var 0)⟩] (.sto 1 (.var 3) (.var 0) (.wat [] (.rets [])))))))

/-- (*loop.example/g00349/impl.compiler).core -/
def s_impl_compiler_core (a0 a1 a2 a3 : AV) (σ : AH) (R : AEnd → AH → Prop) : Prop :=
  og (anil a0) fun v18 =>
  og (fldA 0 v18) fun v19 =>
  og (lod v19 σ) fun v20 =>
  og (idx 6 v20 a1 σ) fun v22 =>
  og (lodA 6 v22 σ) fun v23 =>
  og (anil a0) fun v25 =>
  og (fldA 1 v25) fun v26 =>
  og (lod v26 σ) fun v27 =>
  og (idx 1 v27 a1 σ) fun v29 =>
  og (lod v29 σ) fun v30 =>
  new [(.val (.int .i64 0)), (.val (.int .i64 0)), (.val (.int .i64 0)), (.val (.int .i64 0)), (.val (.string ⟨#[]⟩)), (.val (.slice none 0 0))] σ fun v8 σ =>
  (True) ∧
  sto 6 v8 v23 σ fun σ =>
  (lod v29 σ = some v30 ∧ idx 1 v27 a1 σ = some v29 ∧ lod v26 σ = some v27 ∧ True) ∧
  jn (X := Tup [0, 2, 3]) (fun x1 σ =>
      apick x1.2.2.1 (
        og (bld [(.val (.int .i64 0)), (.val (.int .i64 0)), (.val (.int .i64 0)), (.val (.int .i64 0)), (.val (.int .i64 0)), (.val (.string ⟨#[]⟩)), (.val (.slice none 0 0))] [(0, 1), (1, 1), (2, 1), (3, 1), (4, 1), (5, 1), (6, 1)] [(0, (.val (.int .i64 12)))]) fun v157 =>
        acall TP fn_impl_compiler_emit [x1.1, x1.2.1, v157] σ (onr (fun v158 σ =>
        aret (.tup []) σ R) (fun v σ => apan v σ R))) (
        aret (.tup []) σ R)) fun k1 =>
    frz v8 σ fun f8 σ =>
    og (fldA 0 f8) fun v31 =>
    og (lod v31 σ) fun v32 =>
    og (ibin .eql v32 (.val (.int .i64 1))) fun v34 =>
    apick v34 (
      og (fldA 5 f8) fun v37 =>
      og (lod v37 σ) fun v38 =>
      og (bld [(.val (.int .i64 0)), (.val (.int .i64 0)), (.val (.int .i64 0)), (.val (.int .i64 0)), (.val (.int .i64 0)), (.val (.string ⟨#[]⟩)), (.val (.slice none 0 0))] [(0, 1), (1, 1), (2, 1), (3, 1), (4, 1), (5, 1), (6, 1)] [(0, (.val (.int .i64 1))), (6, v38)]) fun v39 =>
      acall TP fn_impl_compiler_emit [a0, a2, v39] σ (onr (fun v40 σ =>
      k1 (a0, a2, a3, ()) σ) (fun v σ => apan v σ R))) (
      og (ibin .eql v32 (.val (.int .i64 2))) fun v42 =>
      apick v42 (
        og (fldA 2 f8) fun v45 =>
        og (lod v45 σ) fun v46 =>
        og (fldA 3 f8) fun v47 =>
        og (lod v47 σ) fun v48 =>
        og (bld [(.val (.int .i64 0)), (.val (.int .i64 0)), (.val (.int .i64 0)), (.val (.int .i64 0)), (.val (.int .i64 0)), (.val (.string ⟨#[]⟩)), (.val (.slice none 0 0))] [(0, 1), (1, 1), (2, 1), (3, 1), (4, 1), (5, 1), (6, 1)] [(0, (.val (.int .i64 2))), (1, v46), (2, v48)]) fun v49 =>
        acall TP fn_impl_compiler_emit [a0, a2, v49] σ (onr (fun v50 σ =>
        k1 (a0, a2, a3, ()) σ) (fun v σ => apan v σ R))) (
        og (ibin .eql v32 (.val (.int .i64 3))) fun v52 =>
        apick v52 (
          og (fldA 4 f8) fun v55 =>
          og (lod v55 σ) fun v56 =>
          og (bld [(.val (.int .i64 0)), (.val (.int .i64 0)), (.val (.int .i64 0)), (.val (.int .i64 0)), (.val (.int .i64 0)), (.val (.string ⟨#[]⟩)), (.val (.slice none 0 0))] [(0, 1), (1, 1), (2, 1), (3, 1), (4, 1), (5, 1), (6, 1)] [(0, (.val (.int .i64 3))), (5, v56)]) fun v57 =>
          acall TP fn_impl_compiler_emit [a0, a2, v57] σ (onr (fun v58 σ =>
          k1 (a0, a2, a3, ()) σ) (fun v σ => apan v σ R))) (
          og (ibin .eql v32 (.val (.int .i64 5))) fun v60 =>
          apick v60 (
            og (fldA 2 f8) fun v62 =>
            og (lod v62 σ) fun v63 =>
            acall TP fn_impl_compiler_block [a0, v63] σ (onr (fun v64 σ =>
            og (bld [(.val (.int .i64 0)), (.val (.int .i64 0)), (.val (.int .i64 0)), (.val (.int .i64 0)), (.val (.int .i64 0)), (.val (.string ⟨#[]⟩)), (.val (.slice none 0 0))] [(0, 1), (1, 1), (2, 1), (3, 1), (4, 1), (5, 1), (6, 1)] [(0, (.val (.int .i64 4))), (1, v64)]) fun v68 =>
            acall TP fn_impl_compiler_emit [a0, a2, v68] σ (onr (fun v69 σ =>
            og (idx 1 v30 (.val (.int .i64 0)) σ) fun v72 =>
            og (lod v72 σ) fun v73 =>
            acall TP fn_impl_compiler_core [a0, v73, v64, (.val (.bool true))] σ (onr (fun v75 σ =>
            k1 (a0, a2, a3, ()) σ) (fun v σ => apan v σ R))) (fun v σ => apan v σ R))) (fun v σ => apan v σ R))) (
            jn (X := Tup [0, 2, 3, 8, 9, 32, 76]) (fun x2 σ =>
                apick x2.2.2.2.2.2.2.1 (
                  og (idx 1 x2.2.2.2.2.1 (.val (.int .i64 0)) σ) fun v81 =>
                  og (lod v81 σ) fun v82 =>
                  acall TP fn_impl_compiler_core [x2.1, v82, x2.2.1, (.val (.bool false))] σ (onr (fun v84 σ =>
                  og (fldA 0 x2.2.2.2.1) fun v87 =>
                  og (lod v87 σ) fun v88 =>
                  og (ibin .sub v88 (.val (.int .i64 7))) fun v89 =>
                  og (ibin .add v89 (.val (.int .i64 8))) fun v90 =>
                  og (fldA 4 x2.2.2.2.1) fun v91 =>
                  og (lod v91 σ) fun v92 =>
                  og (bld [(.val (.int .i64 0)), (.val (.int .i64 0)), (.val (.int .i64 0)), (.val (.int .i64 0)), (.val (.int .i64 0)), (.val (.string ⟨#[]⟩)), (.val (.slice none 0 0))] [(0, 1), (1, 1), (2, 1), (3, 1), (4, 1), (5, 1), (6, 1)] [(0, v90), (5, v92)]) fun v93 =>
                  acall TP fn_impl_compiler_emit [x2.1, x2.2.1, v93] σ (onr (fun v94 σ =>
                  k1 (x2.1, x2.2.1, x2.2.2.1, ()) σ) (fun v σ => apan v σ R))) (fun v σ => apan v σ R))) (
                  og (ibin .eql x2.2.2.2.2.2.1 (.val (.int .i64 4))) fun v96 =>
                  apick v96 (
                    acall TP fn_impl_compiler_choice [x2.1, x2.2.2.2.2.1, x2.2.1, x2.2.2.1] σ (onr (fun v101 σ =>
                    aret (.tup []) σ R) (fun v σ => apan v σ R))) (
                    og (ibin .eql x2.2.2.2.2.2.1 (.val (.int .i64 6))) fun v103 =>
                    apick v103 (
                      og (lenS x2.2.2.2.2.1) fun v105 =>
                      og (ibin .sub v105 (.val (.int .i64 1))) fun v106 =>
                      og (slc 1 x2.2.2.2.2.1 none (some v106) none σ) fun v109 =>
                      og (lenS v109) fun v110 =>
                      lp (X := Tup [0, 2, 3, 9, 11, 109, 110, 111]) (fun R3 y3 σ =>
                        og (ibin .lss y3.2.2.2.2.2.2.2.1 y3.2.2.2.2.2.2.1) fun v112 =>
                        apick v112 (
                          og (idx 1 y3.2.2.2.2.2.1 y3.2.2.2.2.2.2.2.1 σ) fun v113 =>
                          og (lod v113 σ) fun v114 =>
                          acall TP fn_impl_compiler_core [y3.1, v114, y3.2.1, (.val (.bool false))] σ (onr (fun v118 σ =>
                          og (bld [(.val (.int .i64 0)), (.val (.int .i64 0)), (.val (.int .i64 0)), (.val (.int .i64 0)), (.val (.int .i64 0)), (.val (.string ⟨#[]⟩)), (.val (.slice none 0 0))] [(0, 1), (1, 1), (2, 1), (3, 1), (4, 1), (5, 1), (6, 1)] [(0, (.val (.int .i64 7)))]) fun v121 =>
                          acall TP fn_impl_compiler_emit [y3.1, y3.2.1, v121] σ (onr (fun v122 σ =>
                          og (ibin .add y3.2.2.2.2.2.2.2.1 (.val (.int .i64 1))) fun v123 =>
                          R3 (y3.1, y3.2.1, y3.2.2.1, y3.2.2.2.1, y3.2.2.2.2.1, y3.2.2.2.2.2.1, y3.2.2.2.2.2.2.1, v123, ()) σ) (fun v σ => apan v σ R))) (fun v σ => apan v σ R))) (
                          og (idx 1 y3.2.2.2.1 y3.2.2.2.2.1 σ) fun v127 =>
                          og (lod v127 σ) fun v128 =>
                          acall TP fn_impl_compiler_core [y3.1, v128, y3.2.1, y3.2.2.1] σ (onr (fun v131 σ =>
                          aret (.tup []) σ R) (fun v σ => apan v σ R)))) (x2.1, x2.2.1, x2.2.2.1, x2.2.2.2.2.1, v106, v109, v110, (.val (.int .i64 0)), ()) σ) (
                      og (ibin .eql x2.2.2.2.2.2.1 (.val (.int .i64 9))) fun v133 =>
                      apick v133 (
                        og (lenS x2.2.2.2.2.1) fun v135 =>
                        lp (X := Tup [0, 2, 3, 9, 134, 135, 136]) (fun R4 y4 σ =>
                          og (ibin .lss y4.2.2.2.2.2.2.1 y4.2.2.2.2.2.1) fun v137 =>
                          apick v137 (
                            og (idx 1 y4.2.2.2.2.1 y4.2.2.2.2.2.2.1 σ) fun v138 =>
                            og (lod v138 σ) fun v139 =>
                            acall TP fn_impl_compiler_core [y4.1, v139, y4.2.1, (.val (.bool false))] σ (onr (fun v143 σ =>
                            og (ibin .add y4.2.2.2.2.2.2.1 (.val (.int .i64 1))) fun v144 =>
                            R4 (y4.1, y4.2.1, y4.2.2.1, y4.2.2.2.1, y4.2.2.2.2.1, y4.2.2.2.2.2.1, v144, ()) σ) (fun v σ => apan v σ R))) (
                            jn (X := Tup [0, 2, 9, 16]) (fun x5 σ =>
                                og (lenS x5.2.2.1) fun v150 =>
                                og (ibin .sub v150 (.val (.int .i64 1))) fun v151 =>
                                og (bld [(.val (.int .i64 0)), (.val (.int .i64 0)), (.val (.int .i64 0)), (.val (.int .i64 0)), (.val (.int .i64 0)), (.val (.string ⟨#[]⟩)), (.val (.slice none 0 0))] [(0, 1), (1, 1), (2, 1), (3, 1), (4, 1), (5, 1), (6, 1)] [(0, x5.2.2.2.1), (1, v151)]) fun v152 =>
                                acall TP fn_impl_compiler_emit [x5.1, x5.2.1, v152] σ (onr (fun v153 σ =>
                                aret (.tup []) σ R) (fun v σ => apan v σ R))) fun k5 =>
                              apick y4.2.2.1 (
                                k5 (y4.1, y4.2.1, y4.2.2.2.1, (.val (.int .i64 11)), ()) σ) (
                                k5 (y4.1, y4.2.1, y4.2.2.2.1, (.val (.int .i64 10)), ()) σ))) (x2.1, x2.2.1, x2.2.2.1, x2.2.2.2.2.1, x2.2.2.2.2.1, v135, (.val (.int .i64 0)), ()) σ) (
                        k1 (x2.1, x2.2.1, x2.2.2.1, ()) σ))))) fun k2 =>
              og (ibin .eql v32 (.val (.int .i64 7))) fun v77 =>
              apick v77 (
                k2 (a0, a2, a3, f8, v30, v32, v77, ()) σ) (
                og (ibin .eql v32 (.val (.int .i64 8))) fun v78 =>
                k2 (a0, a2, a3, f8, v30, v32, v78, ()) σ)))))
def x36 : Sx := .ord [0, 1, 2, 3, 4, 5, 6, 7, 8, 9, 10, 11, 12, 13, 14, 15, 16] [0, 1, 3, 7, 0, 31, 63, 0, 128, 384, 896, 0, 3968, 8064, 0, 16511, 65535] (.og (.anil (.var 3)) (.og (.fldA 0 (.var 0)) (.og (.lod (.var 0)) (.og (.idx 6 (.var 0) (.var 5)) (.og (.lodA 6 (.var 0)) (.og (.anil (.var 8)) (.og (.fldA 1 (.var 0)) (.og (.lod (.var 0)) (.og (.idx 1 (.var 0) (.var 10)) (.og (.lod (.var 0)) (.new [(.val (.int .i64 0)), (.val (.int .i64 0)), (.val (.int .i64 0)), (.val (.int .i64 0)), (.val (.string ⟨#[]⟩)), (.val (.slice none 0 0))] (.wat [] (.sto 6 (.var 0) (.var 6) (.wat [⟨none, (.lod (.var 2)), (.var 1)⟩, ⟨none, (.idx 1 (.var 3) (.var 13)), (.var 2)⟩, ⟨none, (.lod (.var 4)), (.var 3)⟩] (.jn 7 [0, 2, 3] (.apick (.var 2) (.og (.bld [(.val (.int .i64 0)), (.val (.int .i64 0)), (.val (.int .i64 0)), (.val (.int .i64 0)), (.val (.int .i64 0)), (.val (.string ⟨#[]⟩)), (.val (.slice none 0 0))] [(0, 1), (1, 1), (2, 1), (3, 1), (4, 1), (5, 1), (6, 1)] [(0, (.lit (.val (.int .i64 12))))]) (.call 62 [(.var 1), (.var 2), (.var 0)] (.rets []))) (.rets [])) (.frz 14 (.var 0) (.og (.fldA 0 (.var 0)) (.og (.lod (.var 0)) (.og (.ibin .eql (.var 0) (.lit (.val (.int .i64 1)))) (.apick (.var 0) (.og (.fldA 5 (.var 3)) (.og (.lod (.var 0)) (.og (.bld [(.val (.int .i64 0)), (.val (.int .i64 0)), (.val (.int .i64 0)), (.val (.int .i64 0)), (.val (.int .i64 0)), (.val (.string ⟨#[]⟩)), (.val (.slice none 0 0))] [(0, 1), (1, 1), (2, 1), (3, 1), (4, 1), (5, 1), (6, 1)] [(0, (.lit (.val (.int .i64 1)))), (6, (.var 0))]) (.call 62 [(.var 21), (.var 19), (.var 0)] (.jump 0 [(.var 22), (.var 20), (.var 19)]))))) (.og (.ibin .eql (.var 1) (.lit (.val (.int .i64 2)))) (.apick (.var 0) (.og (.fldA 2 (.var 4)) (.og (.lod (.var 0)) (.og (.fldA 3 (.var 6)) (.og (.lod (.var 0)) (.og (.bld [(.val (.int .i64 0)), (.val (.int .i64 0)), (.val (.int .i64 0)), (.val (.int .i64 0)), (.val (.int .i64 0)), (.val (.string ⟨#[]⟩)), (.val (.slice none 0 0))] [(0, 1), (1, 1), (2, 1), (3, 1), (4, 1), (5, 1), (6, 1)] [(0, (.lit (.val (.int .i64 2)))), (1, (.var 2)), (2, (.var 0))]) (.call 62 [(.var 24), (.var 22), (.var 0)] (.jump 0 [(.var 25), (.var 23), (.var 22)]))))))) (.og (.ibin .eql (.var 2) (.lit (.val (.int .i64 3)))) (.apick (.var 0) (.og (.fldA 4 (.var 5)) (.og (.lod (.var 0)) (.og (.bld [(.val (.int .i64 0)), (.val (.int .i64 0)), (.val (.int .i64 0)), (.val (.int .i64 0)), (.val (.int .i64 0)), (.val (.string ⟨#[]⟩)), (.val (.slice none 0 0))] [(0, 1), (1, 1), (2, 1), (3, 1), (4, 1), (5, 1), (6, 1)] [(0, (.lit (.val (.int .i64 3)))), (5, (.var 0))]) (.call 62 [(.var 23), (.var 21), (.var 0)] (.jump 0 [(.var 24), (.var 22), (.var 21)]))))) (.og (.ibin .eql (.var 3) (.lit (.val (.int .i64 5)))) (.apick (.var 0) (.og (.fldA 2 (.var 6)) (.og (.lod (.var 0)) (.call 37 [(.var 23), (.var 0)] (.og (.bld [(.val (.int .i64 0)), (.val (.int .i64 0)), (.val (.int .i64 0)), (.val (.int .i64 0)), (.val (.int .i64 0)), (.val (.string ⟨#[]⟩)), (.val (.slice none 0 0))] [(0, 1), (1, 1), (2, 1), (3, 1), (4, 1), (5, 1), (6, 1)] [(0, (.lit (.val (.int .i64 4)))), (1, (.var 0))]) (.call 62 [(.var 25), (.var 23), (.var 0)] (.og (.idx 1 (.var 13) (.lit (.val (.int .i64 0)))) (.og (.lod (.var 0)) (.call 36 [(.var 28), (.var 0), (.var 4), (.lit (.val (.bool true)))] (.jump 0 [(.var 29), (.var 27), (.var 26)]))))))))) (.jn 13823 [0, 2, 3, 8, 9, 32, 76] (.apick (.var 6) (.og (.idx 1 (.var 4) (.lit (.val (.int .i64 0)))) (.og (.lod (.var 0)) (.call 36 [(.var 2), (.var 0), (.var 3), (.lit (.val (.bool false)))] (.og (.fldA 0 (.var 6)) (.og (.lod (.var 0)) (.og (.ibin .sub (.var 0) (.lit (.val (.int .i64 7)))) (.og (.ibin .add (.var 0) (.lit (.val (.int .i64 8)))) (.og (.fldA 4 (.var 10)) (.og (.lod (.var 0)) (.og (.bld [(.val (.int .i64 0)), (.val (.int .i64 0)), (.val (.int .i64 0)), (.val (.int .i64 0)), (.val (.int .i64 0)), (.val (.string ⟨#[]⟩)), (.val (.slice none 0 0))] [(0, 1), (1, 1), (2, 1), (3, 1), (4, 1), (5, 1), (6, 1)] [(0, (.var 2)), (5, (.var 0))]) (.call 62 [(.var 10), (.var 11), (.var 0)] (.jump 0 [(.var 11), (.var 12), (.var 13)])))))))))))) (.og (.ibin .eql (.var 5) (.lit (.val (.int .i64 4)))) (.apick (.var 0) (.call 63 [(.var 1), (.var 5), (.var 2), (.var 3)] (.rets [])) (.og (.ibin .eql (.var 6) (.lit (.val (.int .i64 6)))) (.apick (.var 0) (.og (.lenS (.var 6)) (.og (.ibin .sub (.var 0) (.lit (.val (.int .i64 1)))) (.og (.slc 1 (.var 8) none (some (.var 0)) none) (.og (.lenS (.var 0)) (.lp [0, 2, 3, 9, 11, 109, 110, 111] (.og (.ibin .lss (.var 7) (.var 6)) (.apick (.var 0) (.og (.idx 1 (.var 6) (.var 8)) (.og (.lod (.var 0)) (.call 36 [(.var 3), (.var 0), (.var 4), (.lit (.val (.bool false)))] (.og (.bld [(.val (.int .i64 0)), (.val (.int .i64 0)), (.val (.int .i64 0)), (.val (.int .i64 0)), (.val (.int .i64 0)), (.val (.string ⟨#[]⟩)), (.val (.slice none 0 0))] [(0, 1), (1, 1), (2, 1), (3, 1), (4, 1), (5, 1), (6, 1)] [(0, (.lit (.val (.int .i64 7))))]) (.call 62 [(.var 5), (.var 6), (.var 0)] (.og (.ibin .add (.var 13) (.lit (.val (.int .i64 1)))) (.jump 0 [(.var 7), (.var 8), (.var 9), (.var 10), (.var 11), (.var 12), (.var 13), (.var 0)]))))))) (.og (.idx 1 (.var 4) (.var 5)) (.og (.lod (.var 0)) (.call 36 [(.var 3), (.var 0), (.var 4), (.var 5)] (.rets [])))))) [(.var 6), (.var 7), (.var 8), (.var 10), (.var 2), (.var 1), (.var 0), (.lit (.val (.int .i64 0)))]))))) (.og (.ibin .eql (.var 7) (.lit (.val (.int .i64 9)))) (.apick (.var 0) (.og (.lenS (.var 7)) (.lp [0, 2, 3, 9, 134, 135, 136] (.og (.ibin .lss (.var 6) (.var 5)) (.apick (.var 0) (.og (.idx 1 (.var 5) (.var 7)) (.og (.lod (.var 0)) (.call 36 [(.var 3), (.var 0), (.var 4), (.lit (.val (.bool false)))] (.og (.ibin .add (.var 10) (.lit (.val (.int .i64 1)))) (.jump 0 [(.var 5), (.var 6), (.var 7), (.var 8), (.var 9), (.var 10), (.var 0)]))))) (.jn 14155767 [0, 2, 9, 16] (.og (.lenS (.var 2)) (.og (.ibin .sub (.var 0) (.lit (.val (.int .i64 1)))) (.og (.bld [(.val (.int .i64 0)), (.val (.int .i64 0)), (.val (.int .i64 0)), (.val (.int .i64 0)), (.val (.int .i64 0)), (.val (.string ⟨#[]⟩)), (.val (.slice none 0 0))] [(0, 1), (1, 1), (2, 1), (3, 1), (4, 1), (5, 1), (6, 1)] [(0, (.var 5)), (1, (.var 0))]) (.call 62 [(.var 3), (.var 4), (.var 0)] (.rets []))))) (.apick (.var 3) (.jump 0 [(.var 1), (.var 2), (.var 4), (.lit (.val (.int .i64 11)))]) (.jump 0 [(.var 1), (.var 2), (.var 4), (.lit (.val (.int .i64 10)))]))))) [(.var 4), (.var 5), (.var 6), (.var 8), (.var 8), (.var 0), (.lit (.val (.int .i64 0)))])) (.jump 0 [(.var 3), (.var 4), (.var 5)])))))))) (.og (.ibin .eql (.var 4) (.lit (.val (.int .i64 7)))) (.apick (.var 0) (.jump 0 [(.var 22), (.var 20), (.var 19), (.var 7), (.var 9), (.var 5), (.var 0)]) (.og (.ibin .eql (.var 5) (.lit (.val (.int .i64 8)))) (.jump 0 [(.var 23), (.var 21), (.var 20), (.var 8), (.var 10), (.var 6), (.var 0)])))))))))))))))))))))))))))))))
set_option maxRecDepth 1000000 in
theorem x36_ok : okF TT Tryz.f36 4 x36 = true := by decide +kernel
set_option maxRecDepth 1000000 in
theorem s_impl_compiler_core_ok {a0 a1 a2 a3 : AV} {σ : AH} {R : AEnd → AH → Prop} (h : s_impl_compiler_core a0 a1 a2 a3 σ R) : acall TP fn_impl_compiler_core [a0, a1, a2, a3] σ R :=
  acall_okF (ρ := [a3, a2, a1, a0]) TT_ok Tryz.func36 rfl x36 x36_ok rfl h

/-- (*loop.example/g00349/impl.compiler).block -/
def s_impl_compiler_block (a0 a1 : AV) (σ : AH) (R : AEnd → AH → Prop) : Prop :=
  og (anil a0) fun v6 =>
  og (fldA 2 v6) fun v7 =>
  og (lod v7 σ) fun v8 =>
  og (lenS v8) fun v9 =>
  og (ibin .eql v9 (.val (.int .i64 60))) fun v10 =>
  acall TP fn_impl_failIf [v10, (.val (.int .i64 2))] σ (onr (fun v11 σ =>
  og (anil a0) fun v14 =>
  og (fldA 2 v14) fun v15 =>
  og (lod v15 σ) fun v16 =>
  og (bld [(.val (.int .i64 0)), (.val (.slice none 0 0))] [(0, 1), (1, 1)] [(0, a1)]) fun v18 =>
  bsl 2 [(.val (.int .i64 0)), (.val (.slice none 0 0))] 1 [(0, v18)] σ fun v19 σ =>
  app 2 v16 v19 σ fun v20 σ =>
  og (anil a0) fun v21 =>
  og (fldA 2 v21) fun v22 =>
  sto 1 v22 v20 σ fun σ =>
  og (anil a0) fun v24 =>
  og (fldA 2 v24) fun v25 =>
  og (lod v25 σ) fun v26 =>
  og (lenS v26) fun v27 =>
  og (ibin .sub v27 (.val (.int .i64 1))) fun v28 =>
  aret v28 σ R) (fun v σ => apan v σ R))
def x37 : Sx := .og (.anil (.var 1)) (.og (.fldA 2 (.var 0)) (.og (.lod (.var 0)) (.og (.lenS (.var 0)) (.og (.ibin .eql (.var 0) (.lit (.val (.int .i64 60)))) (.call 64 [(.var 0), (.lit (.val (.int .i64 2)))] (.og (.anil (.var 7)) (.og (.fldA 2 (.var 0)) (.og (.lod (.var 0)) (.og (.bld [(.val (.int .i64 0)), (.val (.slice none 0 0))] [(0, 1), (1, 1)] [(0, (.var 9))]) (.bsl 2 [(.val (.int .i64 0)), (.val (.slice none 0 0))] 1 [(0, (.var 0))] (.app 2 (.var 2) (.var 0) (.og (.anil (.var 13)) (.og (.fldA 2 (.var 0)) (.sto 1 (.var 0) (.var 2) (.og (.anil (.var 15)) (.og (.fldA 2 (.var 0)) (.og (.lod (.var 0)) (.og (.lenS (.var 0)) (.og (.ibin .sub (.var 0) (.lit (.val (.int .i64 1)))) (.ret (.var 0)))))))))))))))))))))
set_option maxRecDepth 1000000 in
theorem x37_ok : okF TT Tryz.f37 2 x37 = true := by decide +kernel
set_option maxRecDepth 1000000 in
theorem s_impl_compiler_block_ok {a0 a1 : AV} {σ : AH} {R : AEnd → AH → Prop} (h : s_impl_compiler_block a0 a1 σ R) : acall TP fn_impl_compiler_block [a0, a1] σ R :=
  acall_okF (ρ := [a1, a0]) TT_ok Tryz.func37 rfl x37 x37_ok rfl h

/-- loop.example/g00349/impl.copiedCode -/
def s_impl_copiedCode (a0 : AV) (σ : AH) (R : AEnd → AH → Prop) : Prop :=
  bsl 2 [(.val (.int .i64 0)), (.val (.slice none 0 0))] 0 [] σ fun v9 σ =>
  og (lenS a0) fun v11 =>
  lp (X := Tup [3, 10, 11, 12]) (fun R1 y1 σ =>
    og (ibin .lss y1.2.2.2.1 y1.2.2.1) fun v13 =>
    apick v13 (
      og (idx 2 y1.2.1 y1.2.2.2.1 σ) fun v14 =>
      og (lodA 2 v14 σ) fun v15 =>
      new [(.val (.int .i64 0)), (.val (.slice none 0 0))] σ fun v5 σ =>
      sto 2 v5 v15 σ fun σ =>
      frz v5 σ fun f5 σ =>
      bsl 7 [(.val (.int .i64 0)), (.val (.int .i64 0)), (.val (.int .i64 0)), (.val (.int .i64 0)), (.val (.int .i64 0)), (.val (.string ⟨#[]⟩)), (.val (.slice none 0 0))] 0 [] σ fun v16 σ =>
      og (fldA 1 f5) fun v17 =>
      og (lod v17 σ) fun v18 =>
      og (lenS v18) fun v19 =>
      lp (X := Tup [3, 5, 6, 10, 11, 12, 18, 19, 20]) (fun R2 y2 σ =>
        og (ibin .lss y2.2.2.2.2.2.2.2.2.1 y2.2.2.2.2.2.2.2.1) fun v21 =>
        apick v21 (
          og (idx 7 y2.2.2.2.2.2.2.1 y2.2.2.2.2.2.2.2.2.1 σ) fun v22 =>
          og (lodA 7 v22 σ) fun v23 =>
          new [(.val (.int .i64 0)), (.val (.int .i64 0)), (.val (.int .i64 0)), (.val (.int .i64 0)), (.val (.int .i64 0)), (.val (.string ⟨#[]⟩)), (.val (.slice none 0 0))] σ fun v8 σ =>
          sto 7 v8 v23 σ fun σ =>
          og (fldA 6 v8) fun v24 =>
          og (lod v24 σ) fun v25 =>
          acall TP fn_slices_Clone [v25] σ (onr (fun v26 σ =>
          og (fldA 6 v8) fun v27 =>
          sto 1 v27 v26 σ fun σ =>
          frz v8 σ fun f8 σ =>
          og (lodA 7 f8 σ) fun v29 =>
          bsl 7 [(.val (.int .i64 0)), (.val (.int .i64 0)), (.val (.int .i64 0)), (.val (.int .i64 0)), (.val (.int .i64 0)), (.val (.string ⟨#[]⟩)), (.val (.slice none 0 0))] 1 [(0, v29)] σ fun v30 σ =>
          app 7 y2.2.2.1 v30 σ fun v31 σ =>
          og (ibin .add y2.2.2.2.2.2.2.2.2.1 (.val (.int .i64 1))) fun v32 =>
          R2 (y2.1, y2.2.1, v31, y2.2.2.2.1, y2.2.2.2.2.1, y2.2.2.2.2.2.1, y2.2.2.2.2.2.2.1, y2.2.2.2.2.2.2.2.1, v32, ()) σ) (fun v σ => apan v σ R))) (
          og (fldA 0 y2.2.1) fun v34 =>
          og (lod v34 σ) fun v35 =>
          og (bld [(.val (.int .i64 0)), (.val (.slice none 0 0))] [(0, 1), (1, 1)] [(0, v35), (1, y2.2.2.1)]) fun v37 =>
          bsl 2 [(.val (.int .i64 0)), (.val (.slice none 0 0))] 1 [(0, v37)] σ fun v38 σ =>
          app 2 y2.1 v38 σ fun v39 σ =>
          og (ibin .add y2.2.2.2.2.2.1 (.val (.int .i64 1))) fun v40 =>
          R1 (v39, y2.2.2.2.1, y2.2.2.2.2.1, v40, ()) σ)) (y1.1, f5, v16, y1.2.1, y1.2.2.1, y1.2.2.2.1, v18, v19, (.val (.int .i64 0)), ()) σ) (
      aret y1.1 σ R)) (v9, a0, v11, (.val (.int .i64 0)), ()) σ
def x38 : Sx := .bsl 2 [(.val (.int .i64 0)), (.val (.slice none 0 0))] 0 [] (.og (.lenS (.var 1)) (.lp [3, 10, 11, 12] (.og (.ibin .lss (.var 3) (.var 2)) (.apick (.var 0) (.og (.idx 2 (.var 2) (.var 4)) (.og (.lodA 2 (.var 0)) (.new [(.val (.int .i64 0)), (.val (.slice none 0 0))] (.sto 2 (.var 0) (.var 1) (.frz 7 (.var 0) (.bsl 7 [(.val (.int .i64 0)), (.val (.int .i64 0)), (.val (.int .i64 0)), (.val (.int .i64 0)), (.val (.int .i64 0)), (.val (.string ⟨#[]⟩)), (.val (.slice none 0 0))] 0 [] (.og (.fldA 1 (.var 1)) (.og (.lod (.var 0)) (.og (.lenS (.var 0)) (.lp [3, 5, 6, 10, 11, 12, 18, 19, 20] (.og (.ibin .lss (.var 8) (.var 7)) (.apick (.var 0) (.og (.idx 7 (.var 7) (.var 9)) (.og (.lodA 7 (.var 0)) (.new [(.val (.int .i64 0)), (.val (.int .i64 0)), (.val (.int .i64 0)), (.val (.int .i64 0)), (.val (.int .i64 0)), (.val (.string ⟨#[]⟩)), (.val (.slice none 0 0))] (.sto 7 (.var 0) (.var 1) (.og (.fldA 6 (.var 0)) (.og (.lod (.var 0)) (.call 65 [(.var 0)] (.og (.fldA 6 (.var 3)) (.sto 1 (.var 0) (.var 1) (.frz 12 (.var 4) (.og (.lodA 7 (.var 0)) (.bsl 7 [(.val (.int .i64 0)), (.val (.int .i64 0)), (.val (.int .i64 0)), (.val (.int .i64 0)), (.val (.int .i64 0)), (.val (.string ⟨#[]⟩)), (.val (.slice none 0 0))] 1 [(0, (.var 0))] (.app 7 (.var 13) (.var 0) (.og (.ibin .add (.var 20) (.lit (.val (.int .i64 1)))) (.jump 0 [(.var 13), (.var 14), (.var 1), (.var 16), (.var 17), (.var 18), (.var 19), (.var 20), (.var 0)]))))))))))))))) (.og (.fldA 0 (.var 2)) (.og (.lod (.var 0)) (.og (.bld [(.val (.int .i64 0)), (.val (.slice none 0 0))] [(0, 1), (1, 1)] [(0, (.var 0)), (1, (.var 5))]) (.bsl 2 [(.val (.int .i64 0)), (.val (.slice none 0 0))] 1 [(0, (.var 0))] (.app 2 (.var 5) (.var 0) (.og (.ibin .add (.var 11) (.lit (.val (.int .i64 1)))) (.jump 1 [(.var 1), (.var 10), (.var 11), (.var 0)]))))))))) [(.var 9), (.var 4), (.var 3), (.var 10), (.var 11), (.var 12), (.var 1), (.var 0), (.lit (.val (.int .i64 0)))])))))))))) (.ret (.var 1)))) [(.var 1), (.var 2), (.var 0), (.lit (.val (.int .i64 0)))]))
set_option maxRecDepth 1000000 in
theorem x38_ok : okF TT Tryz.f38 1 x38 = true := by decide +kernel
set_option maxRecDepth 1000000 in
theorem s_impl_copiedCode_ok {a0 : AV} {σ : AH} {R : AEnd → AH → Prop} (h : s_impl_copiedCode a0 σ R) : acall TP fn_impl_copiedCode [a0] σ R :=
  acall_okF (ρ := [a0]) TT_ok Tryz.func38 rfl x38 x38_ok rfl h

/-- loop.example/g00349/laws.eqBlock -/
def s_laws_eqBlock (a0 a1 : AV) (σ : AH) (R : AEnd → AH → Prop) : Prop :=
  abox a0 σ fun v2 σ =>
  abox a1 σ fun v3 σ =>
  frz v2 σ fun f2 σ =>
  frz v3 σ fun f3 σ =>
  og (fldA 0 f2) fun v5 =>
  og (lod v5 σ) fun v6 =>
  og (fldA 0 f3) fun v7 =>
  og (lod v7 σ) fun v8 =>
  og (ibin .neq v6 v8) fun v9 =>
  apick v9 (
    aret (.val (.bool false)) σ R) (
    og (fldA 1 f2) fun v10 =>
    og (lod v10 σ) fun v11 =>
    og (fldA 1 f3) fun v12 =>
    og (lod v12 σ) fun v13 =>
    acall TP fn_laws_eqOpS [v11, v13] σ (onr (fun v14 σ =>
    og (aun .not v14) fun v15 =>
    apick v15 (
      aret (.val (.bool false)) σ R) (
      aret (.val (.bool true)) σ R)) (fun v σ => apan v σ R)))
def x39 : Sx := .box (.var 1) (.box (.var 1) (.frz 2 (.var 1) (.frz 3 (.var 1) (.og (.fldA 0 (.var 1)) (.og (.lod (.var 0)) (.og (.fldA 0 (.var 2)) (.og (.lod (.var 0)) (.og (.ibin .neq (.var 2) (.var 0)) (.apick (.var 0) (.ret (.lit (.val (.bool false)))) (.og (.fldA 1 (.var 6)) (.og (.lod (.var 0)) (.og (.fldA 1 (.var 7)) (.og (.lod (.var 0)) (.call 66 [(.var 2), (.var 0)] (.og (.aun .not (.var 0)) (.apick (.var 0) (.ret (.lit (.val (.bool false)))) (.ret (.lit (.val (.bool true))))))))))))))))))))
set_option maxRecDepth 1000000 in
theorem x39_ok : okF TT Tryz.f39 2 x39 = true := by decide +kernel
set_option maxRecDepth 1000000 in
theorem s_laws_eqBlock_ok {a0 a1 : AV} {σ : AH} {R : AEnd → AH → Prop} (h : s_laws_eqBlock a0 a1 σ R) : acall TP fn_laws_eqBlock [a0, a1] σ R :=
  acall_okF (ρ := [a1, a0]) TT_ok Tryz.func39 rfl x39 x39_ok rfl h

/-- loop.example/g00349/laws.eqDatumS -/
def s_laws_eqDatumS (a0 a1 : AV) (σ : AH) (R : AEnd → AH → Prop) : Prop :=
  og (lenS a0) fun v7 =>
  og (lenS a1) fun v9 =>
  og (ibin .neq v7 v9) fun v10 =>
  apick v10 (
    aret (.val (.bool false)) σ R) (
    lp (X := Tup [0, 1, 5]) (fun R1 y1 σ =>
      og (lenS y1.1) fun v13 =>
      og (ibin .lss y1.2.2.1 v13) fun v14 =>
      apick v14 (
        og (idx 4 y1.1 y1.2.2.1 σ) fun v19 =>
        og (lodA 4 v19 σ) fun v20 =>
        og (idx 4 y1.2.1 y1.2.2.1 σ) fun v23 =>
        og (lodA 4 v23 σ) fun v24 =>
        acall TP fn_laws_eqDatum [v20, v24] σ (onr (fun v25 σ =>
        (True) ∧
        og (aun .not v25) fun v26 =>
        apick v26 (
          aret (.val (.bool false)) σ R) (
          og (ibin .add y1.2.2.1 (.val (.int .i64 1))) fun v16 =>
          R1 (y1.1, y1.2.1, v16, ()) σ)) (fun v σ => apan v σ R))) (
        aret (.val (.bool true)) σ R)) (a0, a1, (.val (.int .i64 0)), ()) σ)
def x40 : Sx := .og (.lenS (.var 1)) (.og (.lenS (.var 1)) (.og (.ibin .neq (.var 1) (.var 0)) (.apick (.var 0) (.ret (.lit (.val (.bool false)))) (.lp [0, 1, 5] (.og (.lenS (.var 0)) (.og (.ibin .lss (.var 3) (.var 0)) (.apick (.var 0) (.ord [0, 1, 2, 3, 4, 5, 6, 7, 8, 9] [0, 0, 3, 7, 0, 0, 48, 112, 255, 511] (.og (.idx 4 (.var 2) (.var 4)) (.og (.lodA 4 (.var 0)) (.og (.idx 4 (.var 5) (.var 6)) (.og (.lodA 4 (.var 0)) (.call 67 [(.var 2), (.var 0)] (.wat [] (.og (.aun .not (.var 0)) (.apick (.var 0) (.ret (.lit (.val (.bool false)))) (.og (.ibin .add (.var 10) (.lit (.val (.int .i64 1)))) (.jump 0 [(.var 9), (.var 10), (.var 0)]))))))))))) (.ret (.lit (.val (.bool true))))))) [(.var 4), (.var 3), (.lit (.val (.int .i64 0)))]))))
set_option maxRecDepth 1000000 in
theorem x40_ok : okF TT Tryz.f40 2 x40 = true := by decide +kernel
set_option maxRecDepth 1000000 in
theorem s_laws_eqDatumS_ok {a0 a1 : AV} {σ : AH} {R : AEnd → AH → Prop} (h : s_laws_eqDatumS a0 a1 σ R) : acall TP fn_laws_eqDatumS [a0, a1] σ R :=
  acall_okF (ρ := [a1, a0]) TT_ok Tryz.func40 rfl x40 x40_ok rfl h

/-- loop.example/g00349/laws.markOpS -/
def s_laws_markOpS (a0 a1 : AV) (σ : AH) (R : AEnd → AH → Prop) : Prop :=
  lp (X := Tup [0, 1, 5]) (fun R1 y1 σ =>
    og (lenS y1.1) fun v8 =>
    og (ibin .lss y1.2.2.1 v8) fun v9 =>
    apick v9 (
      og (idx 7 y1.1 y1.2.2.1 σ) fun v15 =>
      og (fldA 0 v15) fun v16 =>
      sto 1 v16 y1.2.1 σ fun σ =>
      og (ibin .add y1.2.1 (.val (.int .i64 1))) fun v18 =>
      og (idx 7 y1.1 y1.2.2.1 σ) fun v22 =>
      og (fldA 1 v22) fun v23 =>
      sto 1 v23 v18 σ fun σ =>
      og (ibin .add v18 (.val (.int .i64 1))) fun v25 =>
      og (idx 7 y1.1 y1.2.2.1 σ) fun v29 =>
      og (fldA 2 v29) fun v30 =>
      sto 1 v30 v25 σ fun σ =>
      og (ibin .add v25 (.val (.int .i64 1))) fun v32 =>
      og (idx 7 y1.1 y1.2.2.1 σ) fun v36 =>
      og (fldA 3 v36) fun v37 =>
      sto 1 v37 v32 σ fun σ =>
      og (ibin .add v32 (.val (.int .i64 1))) fun v39 =>
      og (idx 7 y1.1 y1.2.2.1 σ) fun v43 =>
      og (fldA 4 v43) fun v44 =>
      sto 1 v44 v39 σ fun σ =>
      og (ibin .add v39 (.val (.int .i64 1))) fun v46 =>
      acall TP fn_laws_markText [v46] σ (onr (fun v50 σ =>
      og (idx 7 y1.1 y1.2.2.1 σ) fun v51 =>
      og (fldA 5 v51) fun v52 =>
      sto 1 v52 v50 σ fun σ =>
      og (ibin .add v46 (.val (.int .i64 1))) fun v54 =>
      og (idx 7 y1.1 y1.2.2.1 σ) fun v57 =>
      og (fldA 6 v57) fun v58 =>
      og (lod v58 σ) fun v59 =>
      acall TP fn_laws_markDatumS [v59, v54] σ (onr (fun v61 σ =>
      og (ibin .add y1.2.2.1 (.val (.int .i64 1))) fun v11 =>
      R1 (y1.1, v61, v11, ()) σ) (fun v σ => apan v σ R))) (fun v σ => apan v σ R))) (
      aret y1.2.1 σ R)) (a0, a1, (.val (.int .i64 0)), ()) σ
def x41 : Sx := .lp [0, 1, 5] (.og (.lenS (.var 0)) (.og (.ibin .lss (.var 3) (.var 0)) (.apick (.var 0) (.og (.idx 7 (.var 2) (.var 4)) (.og (.fldA 0 (.var 0)) (.sto 1 (.var 0) (.var 5) (.og (.ibin .add (.var 5) (.lit (.val (.int .i64 1)))) (.og (.idx 7 (.var 5) (.var 7)) (.og (.fldA 1 (.var 0)) (.sto 1 (.var 0) (.var 2) (.og (.ibin .add (.var 2) (.lit (.val (.int .i64 1)))) (.og (.idx 7 (.var 8) (.var 10)) (.og (.fldA 2 (.var 0)) (.sto 1 (.var 0) (.var 2) (.og (.ibin .add (.var 2) (.lit (.val (.int .i64 1)))) (.og (.idx 7 (.var 11) (.var 13)) (.og (.fldA 3 (.var 0)) (.sto 1 (.var 0) (.var 2) (.og (.ibin .add (.var 2) (.lit (.val (.int .i64 1)))) (.og (.idx 7 (.var 14) (.var 16)) (.og (.fldA 4 (.var 0)) (.sto 1 (.var 0) (.var 2) (.og (.ibin .add (.var 2) (.lit (.val (.int .i64 1)))) (.call 21 [(.var 0)] (.og (.idx 7 (.var 18) (.var 20)) (.og (.fldA 5 (.var 0)) (.sto 1 (.var 0) (.var 2) (.og (.ibin .add (.var 3) (.lit (.val (.int .i64 1)))) (.og (.idx 7 (.var 21) (.var 23)) (.og (.fldA 6 (.var 0)) (.og (.lod (.var 0)) (.call 22 [(.var 0), (.var 3)] (.og (.ibin .add (.var 27) (.lit (.val (.int .i64 1)))) (.jump 0 [(.var 26), (.var 1), (.var 0)]))))))))))))))))))))))))))))))) (.ret (.var 3))))) [(.var 1), (.var 0), (.lit (.val (.int .i64 0)))]
set_option maxRecDepth 1000000 in
theorem x41_ok : okF TT Tryz.f41 2 x41 = true := by decide +kernel
set_option maxRecDepth 1000000 in
theorem s_laws_markOpS_ok {a0 a1 : AV} {σ : AH} {R : AEnd → AH → Prop} (h : s_laws_markOpS a0 a1 σ R) : acall TP fn_laws_markOpS [a0, a1] σ R :=
  acall_okF (ρ := [a1, a0]) TT_ok Tryz.func41 rfl x41 x41_ok rfl h

/-- loop.example/g00349/laws.heldOpS -/
def s_laws_heldOpS (a0 a1 : AV) (σ : AH) (R : AEnd → AH → Prop) : Prop :=
  lp (X := Tup [0, 1, 5]) (fun R1 y1 σ =>
    og (lenS y1.1) fun v8 =>
    og (ibin .lss y1.2.2.1 v8) fun v9 =>
    apick v9 (
      og (idx 7 y1.1 y1.2.2.1 σ) fun v14 =>
      og (fldA 0 v14) fun v15 =>
      og (lod v15 σ) fun v16 =>
      og (ibin .neq v16 y1.2.1) fun v18 =>
      apick v18 (
        aret (.val (.int .i64 (-1))) σ R) (
        og (ibin .add y1.2.1 (.val (.int .i64 1))) fun v20 =>
        og (idx 7 y1.1 y1.2.2.1 σ) fun v23 =>
        og (fldA 1 v23) fun v24 =>
        og (lod v24 σ) fun v25 =>
        og (ibin .neq v25 v20) fun v27 =>
        apick v27 (
          aret (.val (.int .i64 (-1))) σ R) (
          og (ibin .add v20 (.val (.int .i64 1))) fun v29 =>
          og (idx 7 y1.1 y1.2.2.1 σ) fun v32 =>
          og (fldA 2 v32) fun v33 =>
          og (lod v33 σ) fun v34 =>
          og (ibin .neq v34 v29) fun v36 =>
          apick v36 (
            aret (.val (.int .i64 (-1))) σ R) (
            og (ibin .add v29 (.val (.int .i64 1))) fun v38 =>
            og (idx 7 y1.1 y1.2.2.1 σ) fun v41 =>
            og (fldA 3 v41) fun v42 =>
            og (lod v42 σ) fun v43 =>
            og (ibin .neq v43 v38) fun v45 =>
            apick v45 (
              aret (.val (.int .i64 (-1))) σ R) (
              og (ibin .add v38 (.val (.int .i64 1))) fun v47 =>
              og (idx 7 y1.1 y1.2.2.1 σ) fun v50 =>
              og (fldA 4 v50) fun v51 =>
              og (lod v51 σ) fun v52 =>
              og (ibin .neq v52 v47) fun v54 =>
              apick v54 (
                aret (.val (.int .i64 (-1))) σ R) (
                og (ibin .add v47 (.val (.int .i64 1))) fun v56 =>
                og (idx 7 y1.1 y1.2.2.1 σ) fun v59 =>
                og (fldA 5 v59) fun v60 =>
                og (lod v60 σ) fun v61 =>
                acall TP fn_laws_markText [v56] σ (onr (fun v63 σ =>
                (lod v60 σ = some v61 ∧ idx 7 y1.1 y1.2.2.1 σ = some v59 ∧ True) ∧
                og (sbin .neq v61 v63) fun v64 =>
                apick v64 (
                  aret (.val (.int .i64 (-1))) σ R) (
                  og (ibin .add v56 (.val (.int .i64 1))) fun v66 =>
                  og (idx 7 y1.1 y1.2.2.1 σ) fun v69 =>
                  og (fldA 6 v69) fun v70 =>
                  og (lod v70 σ) fun v71 =>
                  acall TP fn_laws_heldDatumS [v71, v66] σ (onr (fun v73 σ =>
                  og (ibin .lss v73 (.val (.int .i64 0))) fun v75 =>
                  apick v75 (
                    aret (.val (.int .i64 (-1))) σ R) (
                    og (ibin .add y1.2.2.1 (.val (.int .i64 1))) fun v11 =>
                    R1 (y1.1, v73, v11, ()) σ)) (fun v σ => apan v σ R)))) (fun v σ => apan v σ R)))))))) (
      aret y1.2.1 σ R)) (a0, a1, (.val (.int .i64 0)), ()) σ
def x42 : Sx := .lp [0, 1, 5] (.og (.lenS (.var 0)) (.og (.ibin .lss (.var 3) (.var 0)) (.apick (.var 0) (.og (.idx 7 (.var 2) (.var 4)) (.og (.fldA 0 (.var 0)) (.og (.lod (.var 0)) (.og (.ibin .neq (.var 0) (.var 6)) (.apick (.var 0) (.ret (.lit (.val (.int .i64 (-1))))) (.og (.ibin .add (.var 7) (.lit (.val (.int .i64 1)))) (.og (.idx 7 (.var 7) (.var 9)) (.og (.fldA 1 (.var 0)) (.og (.lod (.var 0)) (.og (.ibin .neq (.var 0) (.var 3)) (.apick (.var 0) (.ret (.lit (.val (.int .i64 (-1))))) (.og (.ibin .add (.var 4) (.lit (.val (.int .i64 1)))) (.og (.idx 7 (.var 12) (.var 14)) (.og (.fldA 2 (.var 0)) (.og (.lod (.var 0)) (.og (.ibin .neq (.var 0) (.var 3)) (.apick (.var 0) (.ret (.lit (.val (.int .i64 (-1))))) (.og (.ibin .add (.var 4) (.lit (.val (.int .i64 1)))) (.og (.idx 7 (.var 17) (.var 19)) (.og (.fldA 3 (.var 0)) (.og (.lod (.var 0)) (.og (.ibin .neq (.var 0) (.var 3)) (.apick (.var 0) (.ret (.lit (.val (.int .i64 (-1))))) (.og (.ibin .add (.var 4) (.lit (.val (.int .i64 1)))) (.og (.idx 7 (.var 22) (.var 24)) (.og (.fldA 4 (.var 0)) (.og (.lod (.var 0)) (.og (.ibin .neq (.var 0) (.var 3)) (.apick (.var 0) (.ret (.lit (.val (.int .i64 (-1))))) (.og (.ibin .add (.var 4) (.lit (.val (.int .i64 1)))) (.ord [0, 1, 2, 3, 4, 5, 6, 7] [0, 0, 3, 7, 15, 0, 32, 127] (.og (.idx 7 (.var 27) (.var 29)) (.og (.fldA 5 (.var 0)) (.og (.lod (.var 0)) (.call 21 [(.var 3)] (.wat [⟨none, (.lod (.var 2)), (.var 1)⟩, ⟨none, (.idx 7 (.var 31) (.var 33)), (.var 3)⟩] (.og (.sbin .neq (.var 1) (.var 0)) (.apick (.var 0) (.ret (.lit (.val (.int .i64 (-1))))) (.og (.ibin .add (.var 5) (.lit (.val (.int .i64 1)))) (.og (.idx 7 (.var 33) (.var 35)) (.og (.fldA 6 (.var 0)) (.og (.lod (.var 0)) (.call 68 [(.var 0), (.var 3)] (.og (.ibin .lss (.var 0) (.lit (.val (.int .i64 0)))) (.apick (.var 0) (.ret (.lit (.val (.int .i64 (-1))))) (.og (.ibin .add (.var 40) (.lit (.val (.int .i64 1)))) (.jump 0 [(.var 39), (.var 2), (.var 0)]))))))))))))))))))))))))))))))))))))))))))))))) (.ret (.var 3))))) [(.var 1), (.var 0), (.lit (.val (.int .i64 0)))]
set_option maxRecDepth 1000000 in
theorem x42_ok : okF TT Tryz.f42 2 x42 = true := by decide +kernel
set_option maxRecDepth 1000000 in
theorem s_laws_heldOpS_ok {a0 a1 : AV} {σ : AH} {R : AEnd → AH → Prop} (h : s_laws_heldOpS a0 a1 σ R) : acall TP fn_laws_heldOpS [a0, a1] σ R :=
  acall_okF (ρ := [a1, a0]) TT_ok Tryz.func42 rfl x42 x42_ok rfl h

/-- loop.example/g00349/laws.szDatum -/
def s_laws_szDatum (a0 a1 : AV) (σ : AH) (R : AEnd → AH → Prop) : Prop :=
  abox a0 σ fun v2 σ =>
  frz v2 σ fun f2 σ =>
  og (fldA 3 f2) fun v6 =>
  og (lod v6 σ) fun v7 =>
  og (lenStr v7) fun v8 =>
  og (ibin .sub a1 v8) fun v9 =>
  og (ibin .lss v9 (.val (.int .i64 0))) fun v11 =>
  apick v11 (
    aret (.val (.int .i64 (-1))) σ R) (
    aret v9 σ R)
def x43 : Sx := .box (.var 1) (.frz 2 (.var 0) (.og (.fldA 3 (.var 0)) (.og (.lod (.var 0)) (.og (.lenStr (.var 0)) (.og (.ibin .sub (.var 5) (.var 0)) (.og (.ibin .lss (.var 0) (.lit (.val (.int .i64 0)))) (.apick (.var 0) (.ret (.lit (.val (.int .i64 (-1))))) (.ret (.var 1)))))))))
set_option maxRecDepth 1000000 in
theorem x43_ok : okF TT Tryz.f43 2 x43 = true := by decide +kernel
set_option maxRecDepth 1000000 in
theorem s_laws_szDatum_ok {a0 a1 : AV} {σ : AH} {R : AEnd → AH → Prop} (h : s_laws_szDatum a0 a1 σ R) : acall TP fn_laws_szDatum [a0, a1] σ R :=
  acall_okF (ρ := [a1, a0]) TT_ok Tryz.func43 rfl x43 x43_ok rfl h

/-- loop.example/g00349/spec.l4Bare -/
def s_spec_l4Bare (a0 : AV) (σ : AH) (R : AEnd → AH → Prop) : Prop :=
  og (anil a0) fun v5 =>
  og (fldA 0 v5) fun v6 =>
  og (lod v6 σ) fun v7 =>
  og (ibin .eql v7 (.val (.int .i64 2))) fun v8 =>
  og (gval v8 false false (some a0)) fun v10 =>
  og (gval v8 false false (anil v10)) fun v11 =>
  og (gval v8 false false (fldA 0 v11)) fun v12 =>
  og (gval v8 false false (lod v12 σ)) fun v13 =>
  og (gval v8 false false (ibin .eql v13 (.val (.int .i64 5)))) fun v14 =>
  og (pickV v8 (.val (.bool true)) v14) fun v15 =>
  jn (X := Tup [2]) (fun x1 σ =>
      aret x1.1 σ R) fun k1 =>
    og (anil a0) fun v17 =>
    og (fldA 0 v17) fun v18 =>
    og (lod v18 σ) fun v19 =>
    acall TP fn_spec_l1In [v19, (.val (.int .i64 1)), (.val (.int .i64 9))] σ (onr (fun v20 σ =>
    og (gval v20 true false (some v15)) fun v22 =>
    og (gval v20 true false (some v22)) fun v23 =>
    og (gval v23 false true (some a0)) fun v24 =>
    og (gval v23 false true (anil v24)) fun v25 =>
    og (gval v23 false true (fldA 2 v25)) fun v26 =>
    og (gval v23 false true (lod v26 σ)) fun v27 =>
    og (gval v23 false true (ibin .eql v27 (.val (.int .i64 0)))) fun v28 =>
    og (gval v20 true false (pickV v23 (.val (.bool true)) v28)) fun v29 =>
    og (pickV v20 v29 (.val (.bool false))) fun v30 =>
    og (gval v30 true false (some a0)) fun v32 =>
    og (gval v30 true false (anil v32)) fun v33 =>
    og (gval v30 true false (fldA 0 v33)) fun v34 =>
    og (gval v30 true false (lod v34 σ)) fun v35 =>
    og (gval v30 true false (ibin .eql v35 (.val (.int .i64 2)))) fun v36 =>
    og (gval v30 true false (some v36)) fun v37 =>
    og (gval v37 false true (some a0)) fun v38 =>
    og (gval v37 false true (anil v38)) fun v39 =>
    og (gval v37 false true (fldA 3 v39)) fun v40 =>
    og (gval v37 false true (lod v40 σ)) fun v41 =>
    og (gval v37 false true (ibin .eql v41 (.val (.int .i64 0)))) fun v42 =>
    og (gval v30 true false (pickV v37 (.val (.bool true)) v42)) fun v43 =>
    og (pickV v30 v43 (.val (.bool false))) fun v44 =>
    og (gval v44 true false (some a0)) fun v46 =>
    og (gval v44 true false (anil v46)) fun v47 =>
    og (gval v44 true false (fldA 0 v47)) fun v48 =>
    og (gval v44 true false (lod v48 σ)) fun v49 =>
    gpick v44 (
      acall TP fn_spec_l4Named [v49] σ (onr (fun v50 σ =>
      og (gval v50 false true (some a0)) fun v52 =>
      og (gval v50 false true (anil v52)) fun v53 =>
      og (gval v50 false true (fldA 4 v53)) fun v54 =>
      og (gval v50 false true (lod v54 σ)) fun v55 =>
      og (gval v50 false true (sbin .eql v55 (.val (.string ⟨#[]⟩)))) fun v56 =>
      og (pickV v50 (.val (.bool true)) v56) fun v57 =>
      og (gval v57 true false (some a0)) fun v60 =>
      og (gval v57 true false (anil v60)) fun v61 =>
      og (gval v57 true false (fldA 0 v61)) fun v62 =>
      og (gval v57 true false (lod v62 σ)) fun v63 =>
      og (gval v57 true false (ibin .eql v63 (.val (.int .i64 1)))) fun v64 =>
      og (gval v57 true false (some v64)) fun v65 =>
      og (gval v65 false true (some a0)) fun v66 =>
      og (gval v65 false true (anil v66)) fun v67 =>
      og (gval v65 false true (fldA 5 v67)) fun v68 =>
      og (gval v65 false true (lod v68 σ)) fun v69 =>
      og (gval v65 false true (lenS v69)) fun v70 =>
      og (gval v65 false true (ibin .eql v70 (.val (.int .i64 0)))) fun v71 =>
      og (gval v57 true false (pickV v65 (.val (.bool true)) v71)) fun v72 =>
      og (pickV v57 v72 (.val (.bool false))) fun v73 =>
      k1 (v73, ()) σ) (fun v σ => apan v σ R))) (
      k1 ((.val (.bool false)), ()) σ) (False)) (fun v σ => apan v σ R))
def x44 : Sx := .og (.anil (.var 0)) (.og (.fldA 0 (.var 0)) (.og (.lod (.var 0)) (.og (.ibin .eql (.var 0) (.lit (.val (.int .i64 2)))) (.gog (.var 0) false false (.ret (.var 4)) (.gog (.var 1) false false (.anil (.var 0)) (.gog (.var 2) false false (.fldA 0 (.var 0)) (.gog (.var 3) false false (.lod (.var 0)) (.gog (.var 4) false false (.ibin .eql (.var 0) (.lit (.val (.int .i64 5)))) (.og (.pickV (.var 5) (.lit (.val (.bool true))) (.var 0)) (.jn 15 [2] (.ret (.var 0)) (.og (.anil (.var 10)) (.og (.fldA 0 (.var 0)) (.og (.lod (.var 0)) (.call 45 [(.var 0), (.lit (.val (.int .i64 1))), (.lit (.val (.int .i64 9)))] (.gog (.var 0) true false (.ret (.var 4)) (.gog (.var 1) true false (.ret (.var 0)) (.gog (.var 0) false true (.ret (.var 16)) (.gog (.var 1) false true (.anil (.var 0)) (.gog (.var 2) false true (.fldA 2 (.var 0)) (.gog (.var 3) false true (.lod (.var 0)) (.gog (.var 4) false true (.ibin .eql (.var 0) (.lit (.val (.int .i64 0)))) (.gog (.var 7) true false (.pickV (.var 5) (.lit (.val (.bool true))) (.var 0)) (.og (.pickV (.var 8) (.var 0) (.lit (.val (.bool false)))) (.gog (.var 0) true false (.ret (.var 23)) (.gog (.var 1) true false (.anil (.var 0)) (.gog (.var 2) true false (.fldA 0 (.var 0)) (.gog (.var 3) true false (.lod (.var 0)) (.gog (.var 4) true false (.ibin .eql (.var 0) (.lit (.val (.int .i64 2)))) (.gog (.var 5) true false (.ret (.var 0)) (.gog (.var 0) false true (.ret (.var 29)) (.gog (.var 1) false true (.anil (.var 0)) (.gog (.var 2) false true (.fldA 3 (.var 0)) (.gog (.var 3) false true (.lod (.var 0)) (.gog (.var 4) false true (.ibin .eql (.var 0) (.lit (.val (.int .i64 0)))) (.gog (.var 11) true false (.pickV (.var 5) (.lit (.val (.bool true))) (.var 0)) (.og (.pickV (.var 12) (.var 0) (.lit (.val (.bool false)))) (.gog (.var 0) true false (.ret (.var 36)) (.gog (.var 1) true false (.anil (.var 0)) (.gog (.var 2) true false (.fldA 0 (.var 0)) (.gog (.var 3) true false (.lod (.var 0)) (.gpick (.var 4) (.call 47 [(.var 0)] (.gog (.var 0) false true (.ret (.var 41)) (.gog (.var 1) false true (.anil (.var 0)) (.gog (.var 2) false true (.fldA 4 (.var 0)) (.gog (.var 3) false true (.lod (.var 0)) (.gog (.var 4) false true (.sbin .eql (.var 0) (.lit (.val (.string ⟨#[]⟩)))) (.og (.pickV (.var 5) (.lit (.val (.bool true))) (.var 0)) (.gog (.var 0) true false (.ret (.var 47)) (.gog (.var 1) true false (.anil (.var 0)) (.gog (.var 2) true false (.fldA 0 (.var 0)) (.gog (.var 3) true false (.lod (.var 0)) (.gog (.var 4) true false (.ibin .eql (.var 0) (.lit (.val (.int .i64 1)))) (.gog (.var 5) true false (.ret (.var 0)) (.gog (.var 0) false true (.ret (.var 53)) (.gog (.var 1) false true (.anil (.var 0)) (.gog (.var 2) false true (.fldA 5 (.var 0)) (.gog (.var 3) false true (.lod (.var 0)) (.gog (.var 4) false true (.lenS (.var 0)) (.gog (.var 5) false true (.ibin .eql (.var 0) (.lit (.val (.int .i64 0)))) (.gog (.var 12) true false (.pickV (.var 6) (.lit (.val (.bool true))) (.var 0)) (.og (.pickV (.var 13) (.var 0) (.lit (.val (.bool false)))) (.jump 0 [(.var 0)])))))))))))))))))))))) (.jump 0 [(.lit (.val (.bool false)))]) (.no))))))))))))))))))))))))))))))))))))))))))
set_option maxRecDepth 1000000 in
theorem x44_ok : okF TT Tryz.f44 1 x44 = true := by decide +kernel
set_option maxRecDepth 1000000 in
theorem s_spec_l4Bare_ok {a0 : AV} {σ : AH} {R : AEnd → AH → Prop} (h : s_spec_l4Bare a0 σ R) : acall TP fn_spec_l4Bare [a0] σ R :=
  acall_okF (ρ := [a0]) TT_ok Tryz.func44 rfl x44 x44_ok rfl h

/-- loop.example/g00349/spec.l1In -/
def s_spec_l1In (a0 a1 a2 : AV) (σ : AH) (R : AEnd → AH → Prop) : Prop :=
  og (ibin .geq a0 a1) fun v9 =>
  og (gval v9 true false (some a0)) fun v11 =>
  og (gval v9 true false (some a2)) fun v12 =>
  og (gval v9 true false (ibin .leq v11 v12)) fun v13 =>
  og (pickV v9 v13 (.val (.bool false))) fun v14 =>
  aret v14 σ R
def x45 : Sx := .og (.ibin .geq (.var 2) (.var 1)) (.gog (.var 0) true false (.ret (.var 3)) (.gog (.var 1) true false (.ret (.var 2)) (.gog (.var 2) true false (.ibin .leq (.var 1) (.var 0)) (.og (.pickV (.var 3) (.var 0) (.lit (.val (.bool false)))) (.ret (.var 0))))))
set_option maxRecDepth 1000000 in
theorem x45_ok : okF TT Tryz.f45 3 x45 = true := by decide +kernel
set_option maxRecDepth 1000000 in
theorem s_spec_l1In_ok {a0 a1 a2 : AV} {σ : AH} {R : AEnd → AH → Prop} (h : s_spec_l1In a0 a1 a2 σ R) : acall TP fn_spec_l1In [a0, a1, a2] σ R :=
  acall_okF (ρ := [a2, a1, a0]) TT_ok Tryz.func45 rfl x45 x45_ok rfl h

/-- loop.example/g00349/spec.l4Line -/
def s_spec_l4Line (a0 a1 : AV) (σ : AH) (R : AEnd → AH → Prop) : Prop :=
  og (ibin .sub a1 (.val (.int .i64 1))) fun v8 =>
  lp (X := Tup [0, 1, 5, 6]) (fun R1 y1 σ =>
    og (ibin .geq y1.2.2.2.1 (.val (.int .i64 0))) fun v10 =>
    og (gval v10 true false (some y1.2.2.1)) fun v12 =>
    og (gval v10 true false (ibin .lss v12 (.val (.int .i64 200)))) fun v13 =>
    og (pickV v10 v13 (.val (.bool false))) fun v14 =>
    apick v14 (
      og (idx 6 y1.1 y1.2.1 σ) fun v23 =>
      og (fldA 1 v23) fun v24 =>
      og (lod v24 σ) fun v25 =>
      og (ibin .eql y1.2.2.2.1 v25) fun v26 =>
      apick v26 (
        aret (.val (.bool true)) σ R) (
        og (ibin .add y1.2.2.1 (.val (.int .i64 1))) fun v28 =>
        og (idx 6 y1.1 y1.2.2.2.1 σ) fun v17 =>
        og (fldA 1 v17) fun v18 =>
        og (lod v18 σ) fun v19 =>
        R1 (y1.1, y1.2.1, v28, v19, ()) σ)) (
      aret (.val (.bool false)) σ R)) (a0, a1, (.val (.int .i64 0)), v8, ()) σ
def x46 : Sx := .og (.ibin .sub (.var 0) (.lit (.val (.int .i64 1)))) (.lp [0, 1, 5, 6] (.og (.ibin .geq (.var 3) (.lit (.val (.int .i64 0)))) (.gog (.var 0) true false (.ret (.var 3)) (.gog (.var 1) true false (.ibin .lss (.var 0) (.lit (.val (.int .i64 200)))) (.og (.pickV (.var 2) (.var 0) (.lit (.val (.bool false)))) (.apick (.var 0) (.og (.idx 6 (.var 4) (.var 5)) (.og (.fldA 1 (.var 0)) (.og (.lod (.var 0)) (.og (.ibin .eql (.var 10) (.var 0)) (.apick (.var 0) (.ret (.lit (.val (.bool true)))) (.og (.ibin .add (.var 10) (.lit (.val (.int .i64 1)))) (.og (.idx 6 (.var 9) (.var 12)) (.og (.fldA 1 (.var 0)) (.og (.lod (.var 0)) (.jump 0 [(.var 12), (.var 13), (.var 3), (.var 0)])))))))))) (.ret (.lit (.val (.bool false))))))))) [(.var 2), (.var 1), (.lit (.val (.int .i64 0))), (.var 0)])
set_option maxRecDepth 1000000 in
theorem x46_ok : okF TT Tryz.f46 2 x46 = true := by decide +kernel
set_option maxRecDepth 1000000 in
theorem s_spec_l4Line_ok {a0 a1 : AV} {σ : AH} {R : AEnd → AH → Prop} (h : s_spec_l4Line a0 a1 σ R) : acall TP fn_spec_l4Line [a0, a1] σ R :=
  acall_okF (ρ := [a1, a0]) TT_ok Tryz.func46 rfl x46 x46_ok rfl h

/-- loop.example/g00349/spec.l4Named -/
def s_spec_l4Named (a0 : AV) (σ : AH) (R : AEnd → AH → Prop) : Prop :=
  og (ibin .eql a0 (.val (.int .i64 3))) fun v4 =>
  og (gval v4 false false (some a0)) fun v6 =>
  og (gval v4 false false (ibin .eql v6 (.val (.int .i64 7)))) fun v7 =>
  og (pickV v4 (.val (.bool true)) v7) fun v8 =>
  og (gval v8 false false (some a0)) fun v10 =>
  og (gval v8 false false (ibin .eql v10 (.val (.int .i64 8)))) fun v11 =>
  og (pickV v8 (.val (.bool true)) v11) fun v12 =>
  aret v12 σ R
def x47 : Sx := .og (.ibin .eql (.var 0) (.lit (.val (.int .i64 3)))) (.gog (.var 0) false false (.ret (.var 1)) (.gog (.var 1) false false (.ibin .eql (.var 0) (.lit (.val (.int .i64 7)))) (.og (.pickV (.var 2) (.lit (.val (.bool true))) (.var 0)) (.gog (.var 0) false false (.ret (.var 4)) (.gog (.var 1) false false (.ibin .eql (.var 0) (.lit (.val (.int .i64 8)))) (.og (.pickV (.var 2) (.lit (.val (.bool true))) (.var 0)) (.ret (.var 0))))))))
set_option maxRecDepth 1000000 in
theorem x47_ok : okF TT Tryz.f47 1 x47 = true := by decide +kernel
set_option maxRecDepth 1000000 in
theorem s_spec_l4Named_ok {a0 : AV} {σ : AH} {R : AEnd → AH → Prop} (h : s_spec_l4Named a0 σ R) : acall TP fn_spec_l4Named [a0] σ R :=
  acall_okF (ρ := [a0]) TT_ok Tryz.func47 rfl x47 x47_ok rfl h

/-- loop.example/g00349/spec.l4Name -/
def s_spec_l4Name (a0 : AV) (σ : AH) (R : AEnd → AH → Prop) : Prop :=
  jn (X := Tup [2]) (fun x1 σ =>
      aret x1.1 σ R) fun k1 =>
    acall TP fn_spec_l2Sym [a0] σ (onr (fun v4 σ =>
    og (gval v4 true false (some a0)) fun v6 =>
    gpick v4 (
      acall TP fn_spec_IsKeyword [v6] σ (onr (fun v7 σ =>
      og (aun .not v7) fun v8 =>
      k1 (v8, ()) σ) (fun v σ => apan v σ R))) (
      k1 ((.val (.bool false)), ()) σ) (False)) (fun v σ => apan v σ R))
def x48 : Sx := .jn 7 [2] (.ret (.var 0)) (.call 69 [(.var 0)] (.gog (.var 0) true false (.ret (.var 1)) (.gpick (.var 1) (.call 70 [(.var 0)] (.og (.aun .not (.var 0)) (.jump 0 [(.var 0)]))) (.jump 0 [(.lit (.val (.bool false)))]) (.no))))
set_option maxRecDepth 1000000 in
theorem x48_ok : okF TT Tryz.f48 1 x48 = true := by decide +kernel
set_option maxRecDepth 1000000 in
theorem s_spec_l4Name_ok {a0 : AV} {σ : AH} {R : AEnd → AH → Prop} (h : s_spec_l4Name a0 σ R) : acall TP fn_spec_l4Name [a0] σ R :=
  acall_okF (ρ := [a0]) TT_ok Tryz.func48 rfl x48 x48_ok rfl h

/-- loop.example/g00349/spec.l3Fault -/
def s_spec_l3Fault (a0 : AV) (σ : AH) (R : AEnd → AH → Prop) : Prop :=
  og (lenS a0) fun v6 =>
  og (ibin .lss v6 (.val (.int .i64 1))) fun v7 =>
  og (gval v7 false false (some a0)) fun v9 =>
  og (gval v7 false false (lenS v9)) fun v10 =>
  og (gval v7 false false (ibin .gtr v10 (.val (.int .i64 80)))) fun v11 =>
  og (pickV v7 (.val (.bool true)) v11) fun v12 =>
  apick v12 (
    aret (.val (.int .i64 2)) σ R) (
    lp (X := Tup [0, 3]) (fun R1 y1 σ =>
      og (lenS y1.1) fun v15 =>
      og (ibin .lss y1.2.1 v15) fun v16 =>
      apick v16 (
        og (idx 4 y1.1 y1.2.1 σ) fun v21 =>
        acall TP fn_spec_l3Bare [v21] σ (onr (fun v23 σ =>
        og (aun .not v23) fun v24 =>
        apick v24 (
          aret (.val (.int .i64 1)) σ R) (
          jn (X := Tup [0, 3, 4, 52]) (fun x2 σ =>
              apick x2.2.2.2.1 (
                aret (.val (.int .i64 3)) σ R) (
                jn (X := Tup [0, 3, 4, 65]) (fun x3 σ =>
                    apick x3.2.2.2.1 (
                      aret (.val (.int .i64 5)) σ R) (
                      jn (X := Tup [0, 3, 88]) (fun x4 σ =>
                          apick x4.2.2.1 (
                            aret (.val (.int .i64 3)) σ R) (
                            jn (X := Tup [0, 3, 96]) (fun x5 σ =>
                                apick x5.2.2.1 (
                                  aret (.val (.int .i64 1)) σ R) (
                                  acall TP fn_spec_l3Deep [x5.1, x5.2.1] σ (onr (fun v99 σ =>
                                  og (ibin .gtr v99 (.val (.int .i64 12))) fun v100 =>
                                  apick v100 (
                                    aret (.val (.int .i64 2)) σ R) (
                                    og (ibin .add x5.2.1 (.val (.int .i64 1))) fun v18 =>
                                    R1 (x5.1, v18, ()) σ)) (fun v σ => apan v σ R)))) fun k5 =>
                              og (ibin .gtr x4.2.1 (.val (.int .i64 0))) fun v90 =>
                              og (gval v90 true false (some x4.1)) fun v92 =>
                              og (gval v90 true false (some x4.2.1)) fun v93 =>
                              gpick v90 (
                                acall TP fn_spec_l3Line [v92, v93] σ (onr (fun v94 σ =>
                                og (aun .not v94) fun v95 =>
                                k5 (x4.1, x4.2.1, v95, ()) σ) (fun v σ => apan v σ R))) (
                                k5 (x4.1, x4.2.1, (.val (.bool false)), ()) σ) (False))) fun k4 =>
                        og (ibin .eql x3.2.1 (.val (.int .i64 0))) fun v67 =>
                        og (gval v67 true false (some x3.2.2.1)) fun v69 =>
                        og (gval v67 true false (anil v69)) fun v70 =>
                        og (gval v67 true false (fldA 1 v70)) fun v71 =>
                        og (gval v67 true false (lod v71 σ)) fun v72 =>
                        og (gval v67 true false (ibin .neq v72 (.val (.int .i64 (-1))))) fun v73 =>
                        og (pickV v67 v73 (.val (.bool false))) fun v74 =>
                        og (gval v74 false false (some x3.2.1)) fun v76 =>
                        og (gval v74 false false (ibin .gtr v76 (.val (.int .i64 0)))) fun v77 =>
                        og (gval v74 false false (some v77)) fun v78 =>
                        og (gval v78 true true (some x3.2.2.1)) fun v79 =>
                        og (gval v78 true true (anil v79)) fun v80 =>
                        og (gval v78 true true (fldA 1 v80)) fun v81 =>
                        og (gval v78 true true (lod v81 σ)) fun v82 =>
                        og (gval v78 true true (some x3.2.1)) fun v83 =>
                        og (gval v78 true true (ibin .sub v83 (.val (.int .i64 1)))) fun v84 =>
                        gpick v78 (
                          acall TP fn_spec_l1In [v82, (.val (.int .i64 0)), v84] σ (onr (fun v85 σ =>
                          og (aun .not v85) fun v86 =>
                          og (gval v74 false false (some v86)) fun v87 =>
                          og (pickV v74 (.val (.bool true)) v87) fun v88 =>
                          k4 (x3.1, x3.2.1, v88, ()) σ) (fun v σ => apan v σ R))) (
                          og (gval v74 false false (some (.val (.bool false)))) fun v87 =>
                          og (pickV v74 (.val (.bool true)) v87) fun v88 =>
                          k4 (x3.1, x3.2.1, v88, ()) σ) (
                          og (gval v74 false false (pickV (.tup []) (.tup []) (.val (.bool false)))) fun v87 =>
                          og (pickV v74 (.val (.bool true)) v87) fun v88 =>
                          k4 (x3.1, x3.2.1, v88, ()) σ))) fun k3 =>
                  og (anil x2.2.2.1) fun v54 =>
                  og (fldA 0 v54) fun v55 =>
                  og (lod v55 σ) fun v56 =>
                  og (ibin .eql v56 (.val (.int .i64 3))) fun v57 =>
                  og (gval v57 true false (some x2.2.2.1)) fun v59 =>
                  og (gval v57 true false (anil v59)) fun v60 =>
                  og (gval v57 true false (fldA 3 v60)) fun v61 =>
                  og (gval v57 true false (lod v61 σ)) fun v62 =>
                  gpick v57 (
                    acall TP fn_spec_l2Sym [v62] σ (onr (fun v63 σ =>
                    og (aun .not v63) fun v64 =>
                    k3 (x2.1, x2.2.1, x2.2.2.1, v64, ()) σ) (fun v σ => apan v σ R))) (
                    k3 (x2.1, x2.2.1, x2.2.2.1, (.val (.bool false)), ()) σ) (False))) fun k2 =>
            og (anil v21) fun v26 =>
            og (fldA 0 v26) fun v27 =>
            og (lod v27 σ) fun v28 =>
            og (ibin .eql v28 (.val (.int .i64 1))) fun v29 =>
            og (gval v29 true false (some v21)) fun v31 =>
            og (gval v29 true false (anil v31)) fun v32 =>
            og (gval v29 true false (fldA 2 v32)) fun v33 =>
            og (gval v29 true false (lod v33 σ)) fun v34 =>
            gpick v29 (
              acall TP fn_spec_l1Num [v34] σ (onr (fun v35 σ =>
              og (aun .not v35) fun v36 =>
              og (gval v36 false false (some v21)) fun v39 =>
              og (gval v36 false false (anil v39)) fun v40 =>
              og (gval v36 false false (fldA 0 v40)) fun v41 =>
              og (gval v36 false false (lod v41 σ)) fun v42 =>
              og (gval v36 false false (ibin .eql v42 (.val (.int .i64 2)))) fun v43 =>
              og (gval v36 false false (some v43)) fun v44 =>
              og (gval v44 true true (some v21)) fun v45 =>
              og (gval v44 true true (anil v45)) fun v46 =>
              og (gval v44 true true (fldA 2 v46)) fun v47 =>
              og (gval v44 true true (lod v47 σ)) fun v48 =>
              gpick v44 (
                acall TP fn_spec_l1In [v48, (.val (.int .i64 0)), (.val (.int .i64 1))] σ (onr (fun v49 σ =>
                og (aun .not v49) fun v50 =>
                og (gval v36 false false (some v50)) fun v51 =>
                og (pickV v36 (.val (.bool true)) v51) fun v52 =>
                k2 (y1.1, y1.2.1, v21, v52, ()) σ) (fun v σ => apan v σ R))) (
                og (gval v36 false false (some (.val (.bool false)))) fun v51 =>
                og (pickV v36 (.val (.bool true)) v51) fun v52 =>
                k2 (y1.1, y1.2.1, v21, v52, ()) σ) (
                og (gval v36 false false (pickV (.tup []) (.tup []) (.val (.bool false)))) fun v51 =>
                og (pickV v36 (.val (.bool true)) v51) fun v52 =>
                k2 (y1.1, y1.2.1, v21, v52, ()) σ)) (fun v σ => apan v σ R))) (
              og (anil v21) fun v40 =>
              og (fldA 0 v40) fun v41 =>
              og (lod v41 σ) fun v42 =>
              og (ibin .eql v42 (.val (.int .i64 2))) fun v43 =>
              og (gval v43 true true (some v21)) fun v45 =>
              og (gval v43 true true (anil v45)) fun v46 =>
              og (gval v43 true true (fldA 2 v46)) fun v47 =>
              og (gval v43 true true (lod v47 σ)) fun v48 =>
              gpick v43 (
                acall TP fn_spec_l1In [v48, (.val (.int .i64 0)), (.val (.int .i64 1))] σ (onr (fun v49 σ =>
                og (aun .not v49) fun v50 =>
                k2 (y1.1, y1.2.1, v21, v50, ()) σ) (fun v σ => apan v σ R))) (
                k2 (y1.1, y1.2.1, v21, (.val (.bool false)), ()) σ) (
                og (pickV (.tup []) (.tup []) (.val (.bool false))) fun v51 =>
                k2 (y1.1, y1.2.1, v21, v51, ()) σ)) (False))) (fun v σ => apan v σ R))) (
        aret (.val (.int .i64 0)) σ R)) (a0, (.val (.int .i64 0)), ()) σ)
def x49 : Sx := .og (.lenS (.var 0)) (.og (.ibin .lss (.var 0) (.lit (.val (.int .i64 1)))) (.gog (.var 0) false false (.ret (.var 2)) (.gog (.var 1) false false (.lenS (.var 0)) (.gog (.var 2) false false (.ibin .gtr (.var 0) (.lit (.val (.int .i64 80)))) (.og (.pickV (.var 3) (.lit (.val (.bool true))) (.var 0)) (.apick (.var 0) (.ret (.lit (.val (.int .i64 2)))) (.lp [0, 3] (.og (.lenS (.var 0)) (.og (.ibin .lss (.var 2) (.var 0)) (.apick (.var 0) (.og (.idx 4 (.var 2) (.var 3)) (.call 71 [(.var 0)] (.og (.aun .not (.var 0)) (.apick (.var 0) (.ret (.lit (.val (.int .i64 1)))) (.jn 14925 [0, 3, 4, 52] (.apick (.var 3) (.ret (.lit (.val (.int .i64 3)))) (.jn 29853 [0, 3, 4, 65] (.apick (.var 3) (.ret (.lit (.val (.int .i64 5)))) (.jn 59709 [0, 3, 88] (.apick (.var 2) (.ret (.lit (.val (.int .i64 3)))) (.jn 119421 [0, 3, 96] (.apick (.var 2) (.ret (.lit (.val (.int .i64 1)))) (.call 74 [(.var 0), (.var 1)] (.og (.ibin .gtr (.var 0) (.lit (.val (.int .i64 12)))) (.apick (.var 0) (.ret (.lit (.val (.int .i64 2)))) (.og (.ibin .add (.var 3) (.lit (.val (.int .i64 1)))) (.jump 0 [(.var 3), (.var 0)])))))) (.og (.ibin .gtr (.var 1) (.lit (.val (.int .i64 0)))) (.gog (.var 0) true false (.ret (.var 1)) (.gog (.var 1) true false (.ret (.var 3)) (.gpick (.var 2) (.call 73 [(.var 1), (.var 0)] (.og (.aun .not (.var 0)) (.jump 0 [(.var 5), (.var 6), (.var 0)]))) (.jump 0 [(.var 3), (.var 4), (.lit (.val (.bool false)))]) (.no))))))) (.og (.ibin .eql (.var 1) (.lit (.val (.int .i64 0)))) (.gog (.var 0) true false (.ret (.var 3)) (.gog (.var 1) true false (.anil (.var 0)) (.gog (.var 2) true false (.fldA 1 (.var 0)) (.gog (.var 3) true false (.lod (.var 0)) (.gog (.var 4) true false (.ibin .neq (.var 0) (.lit (.val (.int .i64 (-1))))) (.og (.pickV (.var 5) (.var 0) (.lit (.val (.bool false)))) (.gog (.var 0) false false (.ret (.var 8)) (.gog (.var 1) false false (.ibin .gtr (.var 0) (.lit (.val (.int .i64 0)))) (.gog (.var 2) false false (.ret (.var 0)) (.gog (.var 0) true true (.ret (.var 12)) (.gog (.var 1) true true (.anil (.var 0)) (.gog (.var 2) true true (.fldA 1 (.var 0)) (.gog (.var 3) true true (.lod (.var 0)) (.gog (.var 4) true true (.ret (.var 15)) (.gog (.var 5) true true (.ibin .sub (.var 0) (.lit (.val (.int .i64 1)))) (.gpick (.var 6) (.call 45 [(.var 2), (.lit (.val (.int .i64 0))), (.var 0)] (.og (.aun .not (.var 0)) (.gog (.var 11) false false (.ret (.var 0)) (.og (.pickV (.var 12) (.lit (.val (.bool true))) (.var 0)) (.jump 0 [(.var 20), (.var 21), (.var 0)]))))) (.gog (.var 9) false false (.ret (.lit (.val (.bool false)))) (.og (.pickV (.var 10) (.lit (.val (.bool true))) (.var 0)) (.jump 0 [(.var 18), (.var 19), (.var 0)]))) (.gog (.var 9) false false (.pickV (.lit (.tup [])) (.lit (.tup [])) (.lit (.val (.bool false)))) (.og (.pickV (.var 10) (.lit (.val (.bool true))) (.var 0)) (.jump 0 [(.var 18), (.var 19), (.var 0)])))))))))))))))))))))) (.og (.anil (.var 2)) (.og (.fldA 0 (.var 0)) (.og (.lod (.var 0)) (.og (.ibin .eql (.var 0) (.lit (.val (.int .i64 3)))) (.gog (.var 0) true false (.ret (.var 6)) (.gog (.var 1) true false (.anil (.var 0)) (.gog (.var 2) true false (.fldA 3 (.var 0)) (.gog (.var 3) true false (.lod (.var 0)) (.gpick (.var 4) (.call 69 [(.var 0)] (.og (.aun .not (.var 0)) (.jump 0 [(.var 10), (.var 11), (.var 12), (.var 0)]))) (.jump 0 [(.var 8), (.var 9), (.var 10), (.lit (.val (.bool false)))]) (.no)))))))))))) (.og (.anil (.var 2)) (.og (.fldA 0 (.var 0)) (.og (.lod (.var 0)) (.og (.ibin .eql (.var 0) (.lit (.val (.int .i64 1)))) (.gog (.var 0) true false (.ret (.var 6)) (.gog (.var 1) true false (.anil (.var 0)) (.gog (.var 2) true false (.fldA 2 (.var 0)) (.gog (.var 3) true false (.lod (.var 0)) (.gpick (.var 4) (.call 72 [(.var 0)] (.og (.aun .not (.var 0)) (.gog (.var 0) false false (.ret (.var 12)) (.gog (.var 1) false false (.anil (.var 0)) (.gog (.var 2) false false (.fldA 0 (.var 0)) (.gog (.var 3) false false (.lod (.var 0)) (.gog (.var 4) false false (.ibin .eql (.var 0) (.lit (.val (.int .i64 2)))) (.gog (.var 5) false false (.ret (.var 0)) (.gog (.var 0) true true (.ret (.var 18)) (.gog (.var 1) true true (.anil (.var 0)) (.gog (.var 2) true true (.fldA 2 (.var 0)) (.gog (.var 3) true true (.lod (.var 0)) (.gpick (.var 4) (.call 45 [(.var 0), (.lit (.val (.int .i64 0))), (.lit (.val (.int .i64 1)))] (.og (.aun .not (.var 0)) (.gog (.var 12) false false (.ret (.var 0)) (.og (.pickV (.var 13) (.lit (.val (.bool true))) (.var 0)) (.jump 0 [(.var 29), (.var 30), (.var 26), (.var 0)]))))) (.gog (.var 10) false false (.ret (.lit (.val (.bool false)))) (.og (.pickV (.var 11) (.lit (.val (.bool true))) (.var 0)) (.jump 0 [(.var 27), (.var 28), (.var 24), (.var 0)]))) (.gog (.var 10) false false (.pickV (.lit (.tup [])) (.lit (.tup [])) (.lit (.val (.bool false)))) (.og (.pickV (.var 11) (.lit (.val (.bool true))) (.var 0)) (.jump 0 [(.var 27), (.var 28), (.var 24), (.var 0)])))))))))))))))) (.og (.anil (.var 10)) (.og (.fldA 0 (.var 0)) (.og (.lod (.var 0)) (.og (.ibin .eql (.var 0) (.lit (.val (.int .i64 2)))) (.gog (.var 0) true true (.ret (.var 14)) (.gog (.var 1) true true (.anil (.var 0)) (.gog (.var 2) true true (.fldA 2 (.var 0)) (.gog (.var 3) true true (.lod (.var 0)) (.gpick (.var 4) (.call 45 [(.var 0), (.lit (.val (.int .i64 0))), (.lit (.val (.int .i64 1)))] (.og (.aun .not (.var 0)) (.jump 0 [(.var 23), (.var 24), (.var 20), (.var 0)]))) (.jump 0 [(.var 21), (.var 22), (.var 18), (.lit (.val (.bool false)))]) (.og (.pickV (.lit (.tup [])) (.lit (.tup [])) (.lit (.val (.bool false)))) (.jump 0 [(.var 22), (.var 23), (.var 19), (.var 0)]))))))))))) (.no))))))))))))))) (.ret (.lit (.val (.int .i64 0))))))) [(.var 6), (.lit (.val (.int .i64 0)))])))))))
set_option maxRecDepth 1000000 in
theorem x49_ok : okF TT Tryz.f49 1 x49 = true := by decide +kernel
set_option maxRecDepth 1000000 in
theorem s_spec_l3Fault_ok {a0 : AV} {σ : AH} {R : AEnd → AH → Prop} (h : s_spec_l3Fault a0 σ R) : acall TP fn_spec_l3Fault [a0] σ R :=
  acall_okF (ρ := [a0]) TT_ok Tryz.func49 rfl x49 x49_ok rfl h

/-- loop.example/g00349/spec.l4Place -/
def s_spec_l4Place (a0 a1 : AV) (σ : AH) (R : AEnd → AH → Prop) : Prop :=
  og (idx 6 a0 a1 σ) fun v9 =>
  og (anil v9) fun v11 =>
  og (fldA 0 v11) fun v12 =>
  og (lod v12 σ) fun v13 =>
  og (ibin .eql v13 (.val (.int .i64 5))) fun v14 =>
  apick v14 (
    og (anil v9) fun v16 =>
    og (fldA 2 v16) fun v17 =>
    og (lod v17 σ) fun v18 =>
    acall TP fn_spec_l1In [v18, (.val (.int .i64 0)), (.val (.int .i64 3))] σ (onr (fun v19 σ =>
    aret v19 σ R) (fun v σ => apan v σ R))) (
    og (anil v9) fun v21 =>
    og (fldA 0 v21) fun v22 =>
    og (lod v22 σ) fun v23 =>
    og (ibin .neq v23 (.val (.int .i64 2))) fun v24 =>
    apick v24 (
      aret (.val (.bool true)) σ R) (
      og (anil v9) fun v26 =>
      og (fldA 2 v26) fun v27 =>
      og (lod v27 σ) fun v28 =>
      acall TP fn_spec_l1In [v28, (.val (.int .i64 0)), (.val (.int .i64 160))] σ (onr (fun v29 σ =>
      og (aun .not v29) fun v30 =>
      apick v30 (
        aret (.val (.bool false)) σ R) (
        og (anil v9) fun v34 =>
        og (fldA 2 v34) fun v35 =>
        og (lod v35 σ) fun v36 =>
        acall TP fn_spec_l4Around [a0, a1, v36] σ (onr (fun v37 σ =>
        jn (X := Tup [4]) (fun x1 σ =>
            aret x1.1 σ R) fun k1 =>
          og (ibin .geq v37 (.val (.int .i64 0))) fun v39 =>
          og (gval v39 true false (some v9)) fun v41 =>
          og (gval v39 true false (anil v41)) fun v42 =>
          og (gval v39 true false (fldA 3 v42)) fun v43 =>
          og (gval v39 true false (lod v43 σ)) fun v44 =>
          og (gval v39 true false (some a0)) fun v45 =>
          og (gval v39 true false (some v37)) fun v46 =>
          og (gval v39 true false (idx 6 v45 v46 σ)) fun v47 =>
          og (gval v39 true false (fldA 2 v47)) fun v48 =>
          og (gval v39 true false (lod v48 σ)) fun v49 =>
          og (gval v39 true false (ibin .sub v49 (.val (.int .i64 1)))) fun v50 =>
          gpick v39 (
            acall TP fn_spec_l1In [v44, (.val (.int .i64 0)), v50] σ (onr (fun v51 σ =>
            (True) ∧
            k1 (v51, ()) σ) (fun v σ => apan v σ R))) (
            k1 ((.val (.bool false)), ()) σ) (False)) (fun v σ => apan v σ R)))) (fun v σ => apan v σ R))))
def x50 : Sx := .og (.idx 6 (.var 1) (.var 0)) (.og (.anil (.var 0)) (.og (.fldA 0 (.var 0)) (.og (.lod (.var 0)) (.og (.ibin .eql (.var 0) (.lit (.val (.int .i64 5)))) (.apick (.var 0) (.og (.anil (.var 4)) (.og (.fldA 2 (.var 0)) (.og (.lod (.var 0)) (.call 45 [(.var 0), (.lit (.val (.int .i64 0))), (.lit (.val (.int .i64 3)))] (.ret (.var 0)))))) (.og (.anil (.var 4)) (.og (.fldA 0 (.var 0)) (.og (.lod (.var 0)) (.og (.ibin .neq (.var 0) (.lit (.val (.int .i64 2)))) (.apick (.var 0) (.ret (.lit (.val (.bool true)))) (.og (.anil (.var 8)) (.og (.fldA 2 (.var 0)) (.og (.lod (.var 0)) (.call 45 [(.var 0), (.lit (.val (.int .i64 0))), (.lit (.val (.int .i64 160)))] (.og (.aun .not (.var 0)) (.apick (.var 0) (.ret (.lit (.val (.bool false)))) (.og (.anil (.var 13)) (.og (.fldA 2 (.var 0)) (.og (.lod (.var 0)) (.call 75 [(.var 18), (.var 17), (.var 0)] (.jn 255 [4] (.ret (.var 0)) (.ord [0, 1, 2, 3, 4, 5, 6, 7, 8, 9, 10, 11, 12, 13, 14, 15] [0, 1, 3, 7, 15, 31, 63, 7, 7, 391, 903, 1927, 3975, 8191, 16383, 32767] (.og (.ibin .geq (.var 0) (.lit (.val (.int .i64 0)))) (.gog (.var 0) true false (.ret (.var 18)) (.gog (.var 1) true false (.anil (.var 0)) (.gog (.var 2) true false (.fldA 3 (.var 0)) (.gog (.var 3) true false (.lod (.var 0)) (.gog (.var 4) true false (.ret (.var 24)) (.gog (.var 5) true false (.ret (.var 6)) (.gog (.var 6) true false (.idx 6 (.var 1) (.var 0)) (.gog (.var 7) true false (.fldA 2 (.var 0)) (.gog (.var 8) true false (.lod (.var 0)) (.gog (.var 9) true false (.ibin .sub (.var 0) (.lit (.val (.int .i64 1)))) (.gpick (.var 10) (.call 45 [(.var 6), (.lit (.val (.int .i64 0))), (.var 0)] (.wat [] (.jump 0 [(.var 0)]))) (.jump 0 [(.lit (.val (.bool false)))]) (.no)))))))))))))))))))))))))))))))))))
set_option maxRecDepth 1000000 in
theorem x50_ok : okF TT Tryz.f50 2 x50 = true := by decide +kernel
set_option maxRecDepth 1000000 in
theorem s_spec_l4Place_ok {a0 a1 : AV} {σ : AH} {R : AEnd → AH → Prop} (h : s_spec_l4Place a0 a1 σ R) : acall TP fn_spec_l4Place [a0, a1] σ R :=
  acall_okF (ρ := [a1, a0]) TT_ok Tryz.func50 rfl x50 x50_ok rfl h

/-- loop.example/g00349/spec.l9Put -/
def s_spec_l9Put (a0 a1 a2 : AV) (σ : AH) (R : AEnd → AH → Prop) : Prop :=
  abox a2 σ fun v5 σ =>
  frz v5 σ fun f5 σ =>
  og (anil a0) fun v8 =>
  og (fldA 1 v8) fun v9 =>
  og (lod v9 σ) fun v10 =>
  og (anil a0) fun v13 =>
  og (fldA 1 v13) fun v14 =>
  og (lod v14 σ) fun v15 =>
  og (idx 2 v15 a1 σ) fun v17 =>
  og (fldA 1 v17) fun v18 =>
  og (lod v18 σ) fun v19 =>
  og (lodA 7 f5 σ) fun v20 =>
  og (bslR 7 [(.val (.int .i64 0)), (.val (.int .i64 0)), (.val (.int .i64 0)), (.val (.int .i64 0)), (.val (.int .i64 0)), (.val (.string ⟨#[]⟩)), (.val (.slice none 0 0))] 1 [(0, v20)]) fun v21 =>
  app 7 v19 v21 σ fun v22 σ =>
  (lod v9 σ = some v10 ∧ True) ∧
  og (idx 2 v10 a1 σ) fun v23 =>
  og (fldA 1 v23) fun v24 =>
  sto 1 v24 v22 σ fun σ =>
  (True) ∧
  og (anil a0) fun v26 =>
  og (fldA 1 v26) fun v27 =>
  og (lod v27 σ) fun v28 =>
  og (idx 2 v28 a1 σ) fun v30 =>
  og (fldA 1 v30) fun v31 =>
  og (lod v31 σ) fun v32 =>
  og (lenS v32) fun v33 =>
  og (ibin .sub v33 (.val (.int .i64 1))) fun v34 =>
  aret v34 σ R
def x51 : Sx := .box (.var 0) (.frz 3 (.var 0) (.ord [0, 1, 2, 3, 4, 5, 6, 7, 8, 9, 10, 11, 12, 13, 14, 15, 16, 17, 18] [0, 1, 3, 7, 0, 0, 32, 96, 224, 0, 992, 2016, 4064, 0, 8192, 32736, 65535, 131071, 262143] (.og (.anil (.var 4)) (.og (.fldA 1 (.var 0)) (.og (.lod (.var 0)) (.og (.anil (.var 7)) (.og (.fldA 1 (.var 0)) (.og (.lod (.var 0)) (.og (.idx 2 (.var 0) (.var 9)) (.og (.fldA 1 (.var 0)) (.og (.lod (.var 0)) (.og (.lodA 7 (.var 9)) (.og (.bslR 7 [(.val (.int .i64 0)), (.val (.int .i64 0)), (.val (.int .i64 0)), (.val (.int .i64 0)), (.val (.int .i64 0)), (.val (.string ⟨#[]⟩)), (.val (.slice none 0 0))] 1 [(0, (.var 0))]) (.app 7 (.var 2) (.var 0) (.wat [⟨none, (.lod (.var 10)), (.var 9)⟩] (.og (.idx 2 (.var 9) (.var 15)) (.og (.fldA 1 (.var 0)) (.sto 1 (.var 0) (.var 2) (.wat [] (.og (.anil (.var 18)) (.og (.fldA 1 (.var 0)) (.og (.lod (.var 0)) (.og (.idx 2 (.var 0) (.var 20)) (.og (.fldA 1 (.var 0)) (.og (.lod (.var 0)) (.og (.lenS (.var 0)) (.og (.ibin .sub (.var 0) (.lit (.val (.int .i64 1)))) (.ret (.var 0)))))))))))))))))))))))))))))
set_option maxRecDepth 1000000 in
theorem x51_ok : okF TT Tryz.f51 3 x51 = true := by decide +kernel
set_option maxRecDepth 1000000 in
theorem s_spec_l9Put_ok {a0 a1 a2 : AV} {σ : AH} {R : AEnd → AH → Prop} (h : s_spec_l9Put a0 a1 a2 σ R) : acall TP fn_spec_l9Put [a0, a1, a2] σ R :=
  acall_okF (ρ := [a2, a1, a0]) TT_ok Tryz.func51 rfl x51 x51_ok rfl h

/-- loop.example/g00349/spec.l9End -/
def s_spec_l9End (a0 a1 a2 : AV) (σ : AH) (R : AEnd → AH → Prop) : Prop :=
  apick a2 (
    og (bld [(.val (.int .i64 0)), (.val (.int .i64 0)), (.val (.int .i64 0)), (.val (.int .i64 0)), (.val (.int .i64 0)), (.val (.string ⟨#[]⟩)), (.val (.slice none 0 0))] [(0, 1), (1, 1), (2, 1), (3, 1), (4, 1), (5, 1), (6, 1)] [(0, (.val (.int .i64 12)))]) fun v9 =>
    acall TP fn_spec_l9Put [a0, a1, v9] σ (onr (fun v10 σ =>
    aret (.tup []) σ R) (fun v σ => apan v σ R))) (
    aret (.tup []) σ R)
def x52 : Sx := .apick (.var 0) (.og (.bld [(.val (.int .i64 0)), (.val (.int .i64 0)), (.val (.int .i64 0)), (.val (.int .i64 0)), (.val (.int .i64 0)), (.val (.string ⟨#[]⟩)), (.val (.slice none 0 0))] [(0, 1), (1, 1), (2, 1), (3, 1), (4, 1), (5, 1), (6, 1)] [(0, (.lit (.val (.int .i64 12))))]) (.call 51 [(.var 3), (.var 2), (.var 0)] (.rets []))) (.rets [])
set_option maxRecDepth 1000000 in
theorem x52_ok : okF TT Tryz.f52 3 x52 = true := by decide +kernel
set_option maxRecDepth 1000000 in
theorem s_spec_l9End_ok {a0 a1 a2 : AV} {σ : AH} {R : AEnd → AH → Prop} (h : s_spec_l9End a0 a1 a2 σ R) : acall TP fn_spec_l9End [a0, a1, a2] σ R :=
  acall_okF (ρ := [a2, a1, a0]) TT_ok Tryz.func52 rfl x52 x52_ok rfl h

/-- loop.example/g00349/spec.l9If -/
def s_spec_l9If (a0 a1 a2 a3 : AV) (σ : AH) (R : AEnd → AH → Prop) : Prop :=
  og (idx 1 a1 (.val (.int .i64 0)) σ) fun v12 =>
  og (lod v12 σ) fun v13 =>
  acall TP fn_spec_l9Make [a0, v13, a2, (.val (.bool false))] σ (onr (fun v15 σ =>
  og (bld [(.val (.int .i64 0)), (.val (.int .i64 0)), (.val (.int .i64 0)), (.val (.int .i64 0)), (.val (.int .i64 0)), (.val (.string ⟨#[]⟩)), (.val (.slice none 0 0))] [(0, 1), (1, 1), (2, 1), (3, 1), (4, 1), (5, 1), (6, 1)] [(0, (.val (.int .i64 6)))]) fun v18 =>
  acall TP fn_spec_l9Put [a0, a2, v18] σ (onr (fun v19 σ =>
  og (idx 1 a1 (.val (.int .i64 1)) σ) fun v22 =>
  og (lod v22 σ) fun v23 =>
  acall TP fn_spec_l9Make [a0, v23, a2, a3] σ (onr (fun v26 σ =>
  jn (X := Tup [0, 1, 2, 3, 8, 9]) (fun x1 σ =>
      og (anil x1.1) fun v34 =>
      og (fldA 1 v34) fun v35 =>
      og (lod v35 σ) fun v36 =>
      og (idx 2 v36 x1.2.2.1 σ) fun v38 =>
      og (fldA 1 v38) fun v39 =>
      og (lod v39 σ) fun v40 =>
      og (anil x1.1) fun v43 =>
      og (fldA 1 v43) fun v44 =>
      og (lod v44 σ) fun v45 =>
      og (idx 2 v45 x1.2.2.1 σ) fun v47 =>
      og (fldA 1 v47) fun v48 =>
      og (lod v48 σ) fun v49 =>
      og (lenS v49) fun v50 =>
      og (idx 7 v40 x1.2.2.2.2.1 σ) fun v51 =>
      og (fldA 1 v51) fun v52 =>
      sto 1 v52 v50 σ fun σ =>
      (True) ∧
      og (idx 1 x1.2.1 (.val (.int .i64 2)) σ) fun v55 =>
      og (lod v55 σ) fun v56 =>
      acall TP fn_spec_l9Make [x1.1, v56, x1.2.2.1, x1.2.2.2.1] σ (onr (fun v59 σ =>
      og (ibin .geq x1.2.2.2.2.2.1 (.val (.int .i64 0))) fun v61 =>
      apick v61 (
        og (anil x1.1) fun v63 =>
        og (fldA 1 v63) fun v64 =>
        og (lod v64 σ) fun v65 =>
        og (idx 2 v65 x1.2.2.1 σ) fun v67 =>
        og (fldA 1 v67) fun v68 =>
        og (lod v68 σ) fun v69 =>
        og (anil x1.1) fun v72 =>
        og (fldA 1 v72) fun v73 =>
        og (lod v73 σ) fun v74 =>
        og (idx 2 v74 x1.2.2.1 σ) fun v76 =>
        og (fldA 1 v76) fun v77 =>
        og (lod v77 σ) fun v78 =>
        og (lenS v78) fun v79 =>
        og (idx 7 v69 x1.2.2.2.2.2.1 σ) fun v80 =>
        og (fldA 1 v80) fun v81 =>
        sto 1 v81 v79 σ fun σ =>
        (True) ∧
        aret (.tup []) σ R) (
        aret (.tup []) σ R)) (fun v σ => apan v σ R))) fun k1 =>
    og (aun .not a3) fun v28 =>
    apick v28 (
      og (bld [(.val (.int .i64 0)), (.val (.int .i64 0)), (.val (.int .i64 0)), (.val (.int .i64 0)), (.val (.int .i64 0)), (.val (.string ⟨#[]⟩)), (.val (.slice none 0 0))] [(0, 1), (1, 1), (2, 1), (3, 1), (4, 1), (5, 1), (6, 1)] [(0, (.val (.int .i64 5)))]) fun v31 =>
      acall TP fn_spec_l9Put [a0, a2, v31] σ (onr (fun v32 σ =>
      k1 (a0, a1, a2, a3, v19, v32, ()) σ) (fun v σ => apan v σ R))) (
      k1 (a0, a1, a2, a3, v19, (.val (.int .i64 (-1))), ()) σ)) (fun v σ => apan v σ R))) (fun v σ => apan v σ R))) (fun v σ => apan v σ R))
def x53 : Sx := .og (.idx 1 (.var 2) (.lit (.val (.int .i64 0)))) (.og (.lod (.var 0)) (.call 29 [(.var 5), (.var 0), (.var 3), (.lit (.val (.bool false)))] (.og (.bld [(.val (.int .i64 0)), (.val (.int .i64 0)), (.val (.int .i64 0)), (.val (.int .i64 0)), (.val (.int .i64 0)), (.val (.string ⟨#[]⟩)), (.val (.slice none 0 0))] [(0, 1), (1, 1), (2, 1), (3, 1), (4, 1), (5, 1), (6, 1)] [(0, (.lit (.val (.int .i64 6))))]) (.call 51 [(.var 7), (.var 5), (.var 0)] (.og (.idx 1 (.var 7) (.lit (.val (.int .i64 1)))) (.og (.lod (.var 0)) (.call 29 [(.var 10), (.var 0), (.var 8), (.var 7)] (.jn 63 [0, 1, 2, 3, 8, 9] (.ord [0, 1, 2, 3, 4, 5, 6, 7, 8, 9, 10, 11, 12, 13, 14, 15, 16, 17, 18, 19, 20] [0, 1, 3, 7, 0, 31, 63, 127, 0, 0, 512, 1536, 3584, 0, 15872, 32256, 65024, 130560, 262143, 524287, 1048575] (.og (.anil (.var 0)) (.og (.fldA 1 (.var 0)) (.og (.lod (.var 0)) (.og (.idx 2 (.var 0) (.var 5)) (.og (.fldA 1 (.var 0)) (.og (.lod (.var 0)) (.og (.anil (.var 6)) (.og (.fldA 1 (.var 0)) (.og (.lod (.var 0)) (.og (.idx 2 (.var 0) (.var 11)) (.og (.fldA 1 (.var 0)) (.og (.lod (.var 0)) (.og (.lenS (.var 0)) (.og (.idx 7 (.var 7) (.var 17)) (.og (.fldA 1 (.var 0)) (.sto 1 (.var 0) (.var 2) (.wat [] (.og (.idx 1 (.var 16) (.lit (.val (.int .i64 2)))) (.og (.lod (.var 0)) (.call 29 [(.var 17), (.var 0), (.var 19), (.var 20)] (.og (.ibin .geq (.var 23) (.lit (.val (.int .i64 0)))) (.apick (.var 0) (.ord [0, 1, 2, 3, 4, 5, 6, 7, 8, 9, 10, 11, 12, 13, 14, 15, 16, 17, 18, 19, 20] [0, 1, 3, 7, 0, 31, 63, 127, 0, 0, 512, 1536, 3584, 0, 15872, 32256, 65024, 130560, 262143, 524287, 1048575] (.og (.anil (.var 19)) (.og (.fldA 1 (.var 0)) (.og (.lod (.var 0)) (.og (.idx 2 (.var 0) (.var 24)) (.og (.fldA 1 (.var 0)) (.og (.lod (.var 0)) (.og (.anil (.var 25)) (.og (.fldA 1 (.var 0)) (.og (.lod (.var 0)) (.og (.idx 2 (.var 0) (.var 30)) (.og (.fldA 1 (.var 0)) (.og (.lod (.var 0)) (.og (.lenS (.var 0)) (.og (.idx 7 (.var 7) (.var 37)) (.og (.fldA 1 (.var 0)) (.sto 1 (.var 0) (.var 2) (.wat [] (.rets []))))))))))))))))))) (.rets [])))))))))))))))))))))))) (.og (.aun .not (.var 8)) (.apick (.var 0) (.og (.bld [(.val (.int .i64 0)), (.val (.int .i64 0)), (.val (.int .i64 0)), (.val (.int .i64 0)), (.val (.int .i64 0)), (.val (.string ⟨#[]⟩)), (.val (.slice none 0 0))] [(0, 1), (1, 1), (2, 1), (3, 1), (4, 1), (5, 1), (6, 1)] [(0, (.lit (.val (.int .i64 5))))]) (.call 51 [(.var 13), (.var 11), (.var 0)] (.jump 0 [(.var 14), (.var 13), (.var 12), (.var 11), (.var 6), (.var 0)]))) (.jump 0 [(.var 12), (.var 11), (.var 10), (.var 9), (.var 4), (.lit (.val (.int .i64 (-1))))])))))))))))
set_option maxRecDepth 1000000 in
theorem x53_ok : okF TT Tryz.f53 4 x53 = true := by decide +kernel
set_option maxRecDepth 1000000 in
theorem s_spec_l9If_ok {a0 a1 a2 a3 : AV} {σ : AH} {R : AEnd → AH → Prop} (h : s_spec_l9If a0 a1 a2 a3 σ R) : acall TP fn_spec_l9If [a0, a1, a2, a3] σ R :=
  acall_okF (ρ := [a3, a2, a1, a0]) TT_ok Tryz.func53 rfl x53 x53_ok rfl h

end Go.Proofs.YtmmhaiidcfgbbaaGreatDoor.E
