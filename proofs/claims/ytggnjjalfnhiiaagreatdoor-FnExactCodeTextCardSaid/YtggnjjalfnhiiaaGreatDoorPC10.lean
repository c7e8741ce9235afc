import Derived.Test.YtggnjjalfnhiiaaGreatDoorPC9
/- What functions come to. Printed by mkg.py. -/
namespace Go.Proofs.YtggnjjalfnhiiaaGreatDoor.E
open Go Go.RowKit
set_option linter.unusedVariables false
set_option linter.unusedSectionVars false
variable [Lam]
/-- loop.example/g00349/laws.FnExactCodeText -/
def s_laws_FnExactCodeText (a0 : AV) (σ : AH) (R : AEnd → AH → Prop) : Prop :=
  acall TP fn_laws_szBlockS [a0, (.val (.int .i64 1048576))] σ (onr (fun v9 σ =>
  og (ibin .lss v9 (.val (.int .i64 0))) fun v11 =>
  apick v11 (
    aret (.val (.bool true)) σ R) (
    acall TP fn_laws_toBlockS [a0] σ (onr (fun v13 σ =>
    acall TP fn_spec_CodeText [v13] σ (onr (fun v14 σ =>
    new [(.val (.int .i64 0)), (.val (.string ⟨#[]⟩))] σ fun v4 σ =>
    sto 2 v4 v14 σ fun σ =>
    frz v4 σ fun f4 σ =>
    acall TP fn_laws_toBlockS [a0] σ (onr (fun v16 σ =>
    acall TP fn_impl_CodeText [v16] σ (onr (fun v18 σ =>
    new [(.val (.int .i64 0)), (.val (.string ⟨#[]⟩))] σ fun v6 σ =>
    sto 2 v6 v18 σ fun σ =>
    frz v6 σ fun f6 σ =>
    og (lodA 2 f6 σ) fun v19 =>
    og (lodA 2 f4 σ) fun v20 =>
    acall TP fn_laws_eqTextResult [v19, v20] σ (onr (fun v21 σ =>
    og (aun .not v21) fun v22 =>
    apick v22 (
      aret (.val (.bool false)) σ R) (
      acall TP fn_laws_toBlockS [a0] σ (onr (fun v25 σ =>
      acall TP fn_laws_eqBlockS [v16, v25] σ (onr (fun v26 σ =>
      og (aun .not v26) fun v27 =>
      apick v27 (
        aret (.val (.bool false)) σ R) (
        aret (.val (.bool true)) σ R)) (fun v σ => apan v σ R))) (fun v σ => apan v σ R)))) (fun v σ => apan v σ R))) (fun v σ => apan v σ R))) (fun v σ => apan v σ R))) (fun v σ => apan v σ R))) (fun v σ => apan v σ R)))) (fun v σ => apan v σ R))
def x3 : Sx := .call 6 [(.var 0), (.lit (.val (.int .i64 1048576)))] (.og (.ibin .lss (.var 0) (.lit (.val (.int .i64 0)))) (.apick (.var 0) (.ret (.lit (.val (.bool true)))) (.call 8 [(.var 2)] (.call 7 [(.var 0)] (.new [(.val (.int .i64 0)), (.val (.string ⟨#[]⟩))] (.sto 2 (.var 0) (.var 1) (.frz 5 (.var 0) (.call 8 [(.var 6)] (.call 9 [(.var 0)] (.new [(.val (.int .i64 0)), (.val (.string ⟨#[]⟩))] (.sto 2 (.var 0) (.var 1) (.frz 9 (.var 0) (.og (.lodA 2 (.var 0)) (.og (.lodA 2 (.var 5)) (.call 10 [(.var 1), (.var 0)] (.og (.aun .not (.var 0)) (.apick (.var 0) (.ret (.lit (.val (.bool false)))) (.call 8 [(.var 14)] (.call 11 [(.var 8), (.var 0)] (.og (.aun .not (.var 0)) (.apick (.var 0) (.ret (.lit (.val (.bool false)))) (.ret (.lit (.val (.bool true)))))))))))))))))))))))))
set_option maxRecDepth 1000000 in
theorem x3_ok : okF TT Tryz.f3 1 x3 = true := by decide +kernel
set_option maxRecDepth 1000000 in
theorem s_laws_FnExactCodeText_ok {a0 : AV} {σ : AH} {R : AEnd → AH → Prop} (h : s_laws_FnExactCodeText a0 σ R) : acall TP fn_laws_FnExactCodeText [a0] σ R :=
  acall_okF (ρ := [a0]) TT_ok Tryz.func3 rfl x3 x3_ok rfl h

/-- loop.example/g00349/laws.szBlockS -/
def s_laws_szBlockS (a0 a1 : AV) (σ : AH) (R : AEnd → AH → Prop) : Prop :=
  og (lenS a0) fun v8 =>
  og (ibin .sub a1 v8) fun v9 =>
  og (ibin .lss v9 (.val (.int .i64 0))) fun v11 =>
  apick v11 (
    aret (.val (.int .i64 (-1))) σ R) (
    lp (X := Tup [0, 1, 5]) (fun R1 y1 σ =>
      og (lenS y1.1) fun v14 =>
      og (ibin .lss y1.2.2.1 v14) fun v15 =>
      apick v15 (
        og (idx 2 y1.1 y1.2.2.1 σ) fun v20 =>
        og (lodA 2 v20 σ) fun v21 =>
        acall TP fn_laws_szBlock [v21, y1.2.1] σ (onr (fun v23 σ =>
        og (ibin .lss v23 (.val (.int .i64 0))) fun v25 =>
        apick v25 (
          aret (.val (.int .i64 (-1))) σ R) (
          og (ibin .add y1.2.2.1 (.val (.int .i64 1))) fun v17 =>
          R1 (y1.1, v23, v17, ()) σ)) (fun v σ => apan v σ R))) (
        aret y1.2.1 σ R)) (a0, v9, (.val (.int .i64 0)), ()) σ)
def x6 : Sx := .og (.lenS (.var 1)) (.og (.ibin .sub (.var 1) (.var 0)) (.og (.ibin .lss (.var 0) (.lit (.val (.int .i64 0)))) (.apick (.var 0) (.ret (.lit (.val (.int .i64 (-1))))) (.lp [0, 1, 5] (.og (.lenS (.var 0)) (.og (.ibin .lss (.var 3) (.var 0)) (.apick (.var 0) (.og (.idx 2 (.var 2) (.var 4)) (.og (.lodA 2 (.var 0)) (.call 20 [(.var 0), (.var 5)] (.og (.ibin .lss (.var 0) (.lit (.val (.int .i64 0)))) (.apick (.var 0) (.ret (.lit (.val (.int .i64 (-1))))) (.og (.ibin .add (.var 8) (.lit (.val (.int .i64 1)))) (.jump 0 [(.var 7), (.var 2), (.var 0)]))))))) (.ret (.var 3))))) [(.var 4), (.var 1), (.lit (.val (.int .i64 0)))]))))
set_option maxRecDepth 1000000 in
theorem x6_ok : okF TT Tryz.f6 2 x6 = true := by decide +kernel
set_option maxRecDepth 1000000 in
theorem s_laws_szBlockS_ok {a0 a1 : AV} {σ : AH} {R : AEnd → AH → Prop} (h : s_laws_szBlockS a0 a1 σ R) : acall TP fn_laws_szBlockS [a0, a1] σ R :=
  acall_okF (ρ := [a1, a0]) TT_ok Tryz.func6 rfl x6 x6_ok rfl h

/-- loop.example/g00349/spec.CodeText -/
def s_spec_CodeText (a0 : AV) (σ : AH) (R : AEnd → AH → Prop) : Prop :=
  new [(.val (.int .i64 0)), (.val (.string ⟨#[]⟩))] σ fun v2 σ =>
  acall TP fn_spec_l9Fault [a0] σ (onr (fun v8 σ =>
  og (ibin .neq v8 (.val (.int .i64 0))) fun v10 =>
  apick v10 (
    og (bld [(.val (.int .i64 0)), (.val (.string ⟨#[]⟩))] [(0, 1), (1, 1)] [(0, v8)]) fun v12 =>
    sto 2 v2 v12 σ fun σ =>
    og (lodA 2 v2 σ) fun r2 =>
    aret r2 σ R) (
    lp (X := Tup [0, 2, 4, 5]) (fun R1 y1 σ =>
      og (lenS y1.1) fun v15 =>
      og (ibin .lss y1.2.2.2.1 v15) fun v16 =>
      og (gval v16 true false (some y1.2.2.1)) fun v18 =>
      og (gval v16 true false (lenStr v18)) fun v19 =>
      og (gval v16 true false (ibin .leq v19 (.val (.int .i64 6000)))) fun v20 =>
      og (pickV v16 v20 (.val (.bool false))) fun v21 =>
      apick v21 (
        og (sbin .add y1.2.2.1 (.val (.string ⟨#[98, 108, 111, 99, 107, 32]⟩))) fun v25 =>
        og (idx 2 y1.1 y1.2.2.2.1 σ) fun v32 =>
        og (fldA 0 v32) fun v33 =>
        og (lod v33 σ) fun v34 =>
        acall TP fn_spec_l1Digits [y1.2.2.2.1] σ (onr (fun v27 σ =>
        (lod v33 σ = some v34 ∧ idx 2 y1.1 y1.2.2.2.1 σ = some v32 ∧ True) ∧
        og (sbin .add v25 v27) fun v28 =>
        og (sbin .add v28 (.val (.string ⟨#[32]⟩))) fun v29 =>
        acall TP fn_spec_l1Digits [v34] σ (onr (fun v35 σ =>
        (True) ∧
        og (sbin .add v29 v35) fun v36 =>
        og (sbin .add v36 (.val (.string ⟨#[10]⟩))) fun v37 =>
        lp (X := Tup [0, 2, 4, 5, 6]) (fun R2 y2 σ =>
          og (idx 2 y2.1 y2.2.2.2.1 σ) fun v41 =>
          og (fldA 1 v41) fun v42 =>
          og (lod v42 σ) fun v43 =>
          og (lenS v43) fun v44 =>
          og (ibin .lss y2.2.2.2.2.1 v44) fun v45 =>
          og (gval v45 true false (some y2.2.2.1)) fun v47 =>
          og (gval v45 true false (lenStr v47)) fun v48 =>
          og (gval v45 true false (ibin .leq v48 (.val (.int .i64 6000)))) fun v49 =>
          og (pickV v45 v49 (.val (.bool false))) fun v50 =>
          apick v50 (
            og (idx 2 y2.1 y2.2.2.2.1 σ) fun v60 =>
            og (fldA 1 v60) fun v61 =>
            og (lod v61 σ) fun v62 =>
            og (idx 7 v62 y2.2.2.2.2.1 σ) fun v64 =>
            acall TP fn_spec_l1Digits [y2.2.2.2.2.1] σ (onr (fun v55 σ =>
            (idx 7 v62 y2.2.2.2.2.1 σ = some v64 ∧ lod v61 σ = some v62 ∧ idx 2 y2.1 y2.2.2.2.1 σ = some v60 ∧ True) ∧
            og (sbin .add y2.2.2.1 v55) fun v56 =>
            og (sbin .add v56 (.val (.string ⟨#[58, 32]⟩))) fun v57 =>
            acall TP fn_spec_l9Text [v64] σ (onr (fun v65 σ =>
            (True) ∧
            og (sbin .add v57 v65) fun v66 =>
            og (sbin .add v66 (.val (.string ⟨#[10]⟩))) fun v67 =>
            og (ibin .add y2.2.2.2.2.1 (.val (.int .i64 1))) fun v52 =>
            R2 (y2.1, y2.2.1, v67, y2.2.2.2.1, v52, ()) σ) (fun v σ => apan v σ R))) (fun v σ => apan v σ R))) (
            og (ibin .add y2.2.2.2.1 (.val (.int .i64 1))) fun v23 =>
            R1 (y2.1, y2.2.1, y2.2.2.1, v23, ()) σ)) (y1.1, y1.2.1, v37, y1.2.2.2.1, (.val (.int .i64 0)), ()) σ) (fun v σ => apan v σ R))) (fun v σ => apan v σ R))) (
        og (lenStr y1.2.2.1) fun v69 =>
        og (ibin .gtr v69 (.val (.int .i64 6000))) fun v70 =>
        apick v70 (
          og (bld [(.val (.int .i64 0)), (.val (.string ⟨#[]⟩))] [(0, 1), (1, 1)] [(0, (.val (.int .i64 2)))]) fun v71 =>
          sto 2 y1.2.1 v71 σ fun σ =>
          og (lodA 2 y1.2.1 σ) fun r2 =>
          aret r2 σ R) (
          og (bld [(.val (.int .i64 0)), (.val (.string ⟨#[]⟩))] [(0, 1), (1, 1)] [(1, y1.2.2.1)]) fun v73 =>
          sto 2 y1.2.1 v73 σ fun σ =>
          og (lodA 2 y1.2.1 σ) fun r2 =>
          aret r2 σ R))) (a0, v2, (.val (.string ⟨#[]⟩)), (.val (.int .i64 0)), ()) σ)) (fun v σ => apan v σ R))
def x7 : Sx := .new [(.val (.int .i64 0)), (.val (.string ⟨#[]⟩))] (.call 21 [(.var 1)] (.og (.ibin .neq (.var 0) (.lit (.val (.int .i64 0)))) (.apick (.var 0) (.og (.bld [(.val (.int .i64 0)), (.val (.string ⟨#[]⟩))] [(0, 1), (1, 1)] [(0, (.var 1))]) (.sto 2 (.var 3) (.var 0) (.og (.lodA 2 (.var 3)) (.ret (.var 0))))) (.lp [0, 2, 4, 5] (.og (.lenS (.var 0)) (.og (.ibin .lss (.var 4) (.var 0)) (.gog (.var 0) true false (.ret (.var 4)) (.gog (.var 1) true false (.lenStr (.var 0)) (.gog (.var 2) true false (.ibin .leq (.var 0) (.lit (.val (.int .i64 6000)))) (.og (.pickV (.var 3) (.var 0) (.lit (.val (.bool false)))) (.apick (.var 0) (.ord [0, 1, 2, 6, 7, 8, 9, 10, 3, 4, 5, 11, 12, 13, 14] [0, 1, 0, 4, 15, 31, 0, 0, 192, 448, 960, 1996, 4095, 8191, 16383] (.og (.sbin .add (.var 8) (.lit (.val (.string ⟨#[98, 108, 111, 99, 107, 32]⟩)))) (.og (.idx 2 (.var 7) (.var 10)) (.og (.fldA 0 (.var 0)) (.og (.lod (.var 0)) (.call 22 [(.var 13)] (.wat [⟨none, (.lod (.var 2)), (.var 1)⟩, ⟨none, (.idx 2 (.var 11) (.var 14)), (.var 3)⟩] (.og (.sbin .add (.var 4) (.var 0)) (.og (.sbin .add (.var 0) (.lit (.val (.string ⟨#[32]⟩)))) (.call 22 [(.var 3)] (.wat [] (.og (.sbin .add (.var 1) (.var 0)) (.og (.sbin .add (.var 0) (.lit (.val (.string ⟨#[10]⟩)))) (.lp [0, 2, 4, 5, 6] (.og (.idx 2 (.var 0) (.var 3)) (.og (.fldA 1 (.var 0)) (.og (.lod (.var 0)) (.og (.lenS (.var 0)) (.og (.ibin .lss (.var 8) (.var 0)) (.gog (.var 0) true false (.ret (.var 7)) (.gog (.var 1) true false (.lenStr (.var 0)) (.gog (.var 2) true false (.ibin .leq (.var 0) (.lit (.val (.int .i64 6000)))) (.og (.pickV (.var 3) (.var 0) (.lit (.val (.bool false)))) (.apick (.var 0) (.ord [0, 1, 5, 6, 7, 8, 9, 10, 11, 2, 3, 4, 12, 13, 14, 15] [0, 0, 2, 7, 15, 0, 0, 96, 224, 480, 0, 2016, 4070, 8191, 16383, 32767] (.og (.idx 2 (.var 9) (.var 12)) (.og (.fldA 1 (.var 0)) (.og (.lod (.var 0)) (.og (.idx 7 (.var 0) (.var 16)) (.call 22 [(.var 17)] (.wat [⟨none, (.idx 7 (.var 2) (.var 18)), (.var 1)⟩, ⟨none, (.lod (.var 3)), (.var 2)⟩, ⟨none, (.idx 2 (.var 14) (.var 17)), (.var 4)⟩] (.og (.sbin .add (.var 16) (.var 0)) (.og (.sbin .add (.var 0) (.lit (.val (.string ⟨#[58, 32]⟩)))) (.call 23 [(.var 3)] (.wat [] (.og (.sbin .add (.var 1) (.var 0)) (.og (.sbin .add (.var 0) (.lit (.val (.string ⟨#[10]⟩)))) (.og (.ibin .add (.var 23) (.lit (.val (.int .i64 1)))) (.jump 0 [(.var 20), (.var 21), (.var 1), (.var 23), (.var 0)]))))))))))))))) (.og (.ibin .add (.var 12) (.lit (.val (.int .i64 1)))) (.jump 1 [(.var 10), (.var 11), (.var 12), (.var 0)])))))))))))) [(.var 16), (.var 17), (.var 0), (.var 19), (.lit (.val (.int .i64 0)))])))))))))))))) (.og (.lenStr (.var 8)) (.og (.ibin .gtr (.var 0) (.lit (.val (.int .i64 6000)))) (.apick (.var 0) (.og (.bld [(.val (.int .i64 0)), (.val (.string ⟨#[]⟩))] [(0, 1), (1, 1)] [(0, (.lit (.val (.int .i64 2))))]) (.sto 2 (.var 10) (.var 0) (.og (.lodA 2 (.var 10)) (.ret (.var 0))))) (.og (.bld [(.val (.int .i64 0)), (.val (.string ⟨#[]⟩))] [(0, 1), (1, 1)] [(1, (.var 10))]) (.sto 2 (.var 10) (.var 0) (.og (.lodA 2 (.var 10)) (.ret (.var 0))))))))))))))) [(.var 3), (.var 2), (.lit (.val (.string ⟨#[]⟩))), (.lit (.val (.int .i64 0)))]))))
set_option maxRecDepth 1000000 in
theorem x7_ok : okF TT Tryz.f7 1 x7 = true := by decide +kernel
set_option maxRecDepth 1000000 in
theorem s_spec_CodeText_ok {a0 : AV} {σ : AH} {R : AEnd → AH → Prop} (h : s_spec_CodeText a0 σ R) : acall TP fn_spec_CodeText [a0] σ R :=
  acall_okF (ρ := [a0]) TT_ok Tryz.func7 rfl x7 x7_ok rfl h

/-- loop.example/g00349/laws.toBlockS -/
def s_laws_toBlockS (a0 : AV) (σ : AH) (R : AEnd → AH → Prop) : Prop :=
  og (lenS a0) fun v6 =>
  amake TT ty_LRiLRiiiiisLRiiisEEE v6 v6 σ fun v7 σ =>
  lp (X := Tup [0, 3, 4]) (fun R1 y1 σ =>
    og (lenS y1.1) fun v10 =>
    og (ibin .lss y1.2.2.1 v10) fun v11 =>
    apick v11 (
      og (idx 2 y1.1 y1.2.2.1 σ) fun v18 =>
      og (lodA 2 v18 σ) fun v19 =>
      acall TP fn_laws_toBlock [v19] σ (onr (fun v20 σ =>
      og (idx 2 y1.2.1 y1.2.2.1 σ) fun v21 =>
      sto 2 v21 v20 σ fun σ =>
      og (ibin .add y1.2.2.1 (.val (.int .i64 1))) fun v13 =>
      R1 (y1.1, y1.2.1, v13, ()) σ) (fun v σ => apan v σ R))) (
      aret y1.2.1 σ R)) (a0, v7, (.val (.int .i64 0)), ()) σ
def x8 : Sx := .og (.lenS (.var 0)) (.mks 27 (.var 0) (.var 0) (.lp [0, 3, 4] (.og (.lenS (.var 0)) (.og (.ibin .lss (.var 3) (.var 0)) (.apick (.var 0) (.og (.idx 2 (.var 2) (.var 4)) (.og (.lodA 2 (.var 0)) (.call 24 [(.var 0)] (.og (.idx 2 (.var 6) (.var 7)) (.sto 2 (.var 0) (.var 1) (.og (.ibin .add (.var 8) (.lit (.val (.int .i64 1)))) (.jump 0 [(.var 7), (.var 8), (.var 0)]))))))) (.ret (.var 3))))) [(.var 2), (.var 0), (.lit (.val (.int .i64 0)))]))
set_option maxRecDepth 1000000 in
theorem x8_ok : okF TT Tryz.f8 1 x8 = true := by decide +kernel
set_option maxRecDepth 1000000 in
theorem s_laws_toBlockS_ok {a0 : AV} {σ : AH} {R : AEnd → AH → Prop} (h : s_laws_toBlockS a0 σ R) : acall TP fn_laws_toBlockS [a0] σ R :=
  acall_okF (ρ := [a0]) TT_ok Tryz.func8 rfl x8 x8_ok rfl h

/-- loop.example/g00349/laws.eqTextResult -/
def s_laws_eqTextResult (a0 a1 : AV) (σ : AH) (R : AEnd → AH → Prop) : Prop :=
  abox a0 σ fun v2 σ =>
  abox a1 σ fun v3 σ =>
  frz v2 σ fun f2 σ =>
  frz v3 σ fun f3 σ =>
  og (fldA 0 f2) fun v5 =>
  og (lod v5 σ) fun v6 =>
  og (fldA 0 f3) fun v7 =>
  og (lod v7 σ) fun v8 =>
  og (ibin .neq v6 v8) fun v9 =>
  apick v9 (
    aret (.val (.bool false)) σ R) (
    og (fldA 1 f2) fun v10 =>
    og (lod v10 σ) fun v11 =>
    og (fldA 1 f3) fun v12 =>
    og (lod v12 σ) fun v13 =>
    og (sbin .neq v11 v13) fun v14 =>
    apick v14 (
      aret (.val (.bool false)) σ R) (
      aret (.val (.bool true)) σ R))
def x10 : Sx := .box (.var 1) (.box (.var 1) (.frz 2 (.var 1) (.frz 3 (.var 1) (.og (.fldA 0 (.var 1)) (.og (.lod (.var 0)) (.og (.fldA 0 (.var 2)) (.og (.lod (.var 0)) (.og (.ibin .neq (.var 2) (.var 0)) (.apick (.var 0) (.ret (.lit (.val (.bool false)))) (.og (.fldA 1 (.var 6)) (.og (.lod (.var 0)) (.og (.fldA 1 (.var 7)) (.og (.lod (.var 0)) (.og (.sbin .neq (.var 2) (.var 0)) (.apick (.var 0) (.ret (.lit (.val (.bool false)))) (.ret (.lit (.val (.bool true)))))))))))))))))))
set_option maxRecDepth 1000000 in
theorem x10_ok : okF TT Tryz.f10 2 x10 = true := by decide +kernel
set_option maxRecDepth 1000000 in
theorem s_laws_eqTextResult_ok {a0 a1 : AV} {σ : AH} {R : AEnd → AH → Prop} (h : s_laws_eqTextResult a0 a1 σ R) : acall TP fn_laws_eqTextResult [a0, a1] σ R :=
  acall_okF (ρ := [a1, a0]) TT_ok Tryz.func10 rfl x10 x10_ok rfl h

/-- loop.example/g00349/laws.eqBlockS -/
def s_laws_eqBlockS (a0 a1 : AV) (σ : AH) (R : AEnd → AH → Prop) : Prop :=
  og (lenS a0) fun v7 =>
  og (lenS a1) fun v9 =>
  og (ibin .neq v7 v9) fun v10 =>
  apick v10 (
    aret (.val (.bool false)) σ R) (
    lp (X := Tup [0, 1, 5]) (fun R1 y1 σ =>
      og (lenS y1.1) fun v13 =>
      og (ibin .lss y1.2.2.1 v13) fun v14 =>
      apick v14 (
        og (idx 2 y1.1 y1.2.2.1 σ) fun v19 =>
        og (lodA 2 v19 σ) fun v20 =>
        og (idx 2 y1.2.1 y1.2.2.1 σ) fun v23 =>
        og (lodA 2 v23 σ) fun v24 =>
        acall TP fn_laws_eqBlock [v20, v24] σ (onr (fun v25 σ =>
        (True) ∧
        og (aun .not v25) fun v26 =>
        apick v26 (
          aret (.val (.bool false)) σ R) (
          og (ibin .add y1.2.2.1 (.val (.int .i64 1))) fun v16 =>
          R1 (y1.1, y1.2.1, v16, ()) σ)) (fun v σ => apan v σ R))) (
        aret (.val (.bool true)) σ R)) (a0, a1, (.val (.int .i64 0)), ()) σ)
def x11 : Sx := .og (.lenS (.var 1)) (.og (.lenS (.var 1)) (.og (.ibin .neq (.var 1) (.var 0)) (.apick (.var 0) (.ret (.lit (.val (.bool false)))) (.lp [0, 1, 5] (.og (.lenS (.var 0)) (.og (.ibin .lss (.var 3) (.var 0)) (.apick (.var 0) (.ord [0, 1, 2, 3, 4, 5, 6, 7, 8, 9] [0, 0, 3, 7, 0, 0, 48, 112, 255, 511] (.og (.idx 2 (.var 2) (.var 4)) (.og (.lodA 2 (.var 0)) (.og (.idx 2 (.var 5) (.var 6)) (.og (.lodA 2 (.var 0)) (.call 31 [(.var 2), (.var 0)] (.wat [] (.og (.aun .not (.var 0)) (.apick (.var 0) (.ret (.lit (.val (.bool false)))) (.og (.ibin .add (.var 10) (.lit (.val (.int .i64 1)))) (.jump 0 [(.var 9), (.var 10), (.var 0)]))))))))))) (.ret (.lit (.val (.bool true))))))) [(.var 4), (.var 3), (.lit (.val (.int .i64 0)))]))))
set_option maxRecDepth 1000000 in
theorem x11_ok : okF TT Tryz.f11 2 x11 = true := by decide +kernel
set_option maxRecDepth 1000000 in
theorem s_laws_eqBlockS_ok {a0 a1 : AV} {σ : AH} {R : AEnd → AH → Prop} (h : s_laws_eqBlockS a0 a1 σ R) : acall TP fn_laws_eqBlockS [a0, a1] σ R :=
  acall_okF (ρ := [a1, a0]) TT_ok Tryz.func11 rfl x11 x11_ok rfl h

/-- loop.example/g00349/laws.szBlock -/
def s_laws_szBlock (a0 a1 : AV) (σ : AH) (R : AEnd → AH → Prop) : Prop :=
  abox a0 σ fun v2 σ =>
  frz v2 σ fun f2 σ =>
  og (fldA 1 f2) fun v5 =>
  og (lod v5 σ) fun v6 =>
  acall TP fn_laws_szOpS [v6, a1] σ (onr (fun v8 σ =>
  og (ibin .lss v8 (.val (.int .i64 0))) fun v10 =>
  apick v10 (
    aret (.val (.int .i64 (-1))) σ R) (
    aret v8 σ R)) (fun v σ => apan v σ R))
def x20 : Sx := .box (.var 1) (.frz 2 (.var 0) (.og (.fldA 1 (.var 0)) (.og (.lod (.var 0)) (.call 38 [(.var 0), (.var 4)] (.og (.ibin .lss (.var 0) (.lit (.val (.int .i64 0)))) (.apick (.var 0) (.ret (.lit (.val (.int .i64 (-1))))) (.ret (.var 1))))))))
set_option maxRecDepth 1000000 in
theorem x20_ok : okF TT Tryz.f20 2 x20 = true := by decide +kernel
set_option maxRecDepth 1000000 in
theorem s_laws_szBlock_ok {a0 a1 : AV} {σ : AH} {R : AEnd → AH → Prop} (h : s_laws_szBlock a0 a1 σ R) : acall TP fn_laws_szBlock [a0, a1] σ R :=
  acall_okF (ρ := [a1, a0]) TT_ok Tryz.func20 rfl x20 x20_ok rfl h

/-- loop.example/g00349/spec.l9Fault -/
def s_spec_l9Fault (a0 : AV) (σ : AH) (R : AEnd → AH → Prop) : Prop :=
  og (lenS a0) fun v6 =>
  og (ibin .gtr v6 (.val (.int .i64 60))) fun v7 =>
  apick v7 (
    aret (.val (.int .i64 2)) σ R) (
    lp (X := Tup [0, 3]) (fun R1 y1 σ =>
      og (lenS y1.1) fun v10 =>
      og (ibin .lss y1.2.1 v10) fun v11 =>
      apick v11 (
        og (idx 2 y1.1 y1.2.1 σ) fun v16 =>
        acall TP fn_spec_l9Block [v16] σ (onr (fun v17 σ =>
        og (ibin .neq v17 (.val (.int .i64 0))) fun v19 =>
        apick v19 (
          aret v17 σ R) (
          og (ibin .add y1.2.1 (.val (.int .i64 1))) fun v13 =>
          R1 (y1.1, v13, ()) σ)) (fun v σ => apan v σ R))) (
        aret (.val (.int .i64 0)) σ R)) (a0, (.val (.int .i64 0)), ()) σ)
def x21 : Sx := .og (.lenS (.var 0)) (.og (.ibin .gtr (.var 0) (.lit (.val (.int .i64 60)))) (.apick (.var 0) (.ret (.lit (.val (.int .i64 2)))) (.lp [0, 3] (.og (.lenS (.var 0)) (.og (.ibin .lss (.var 2) (.var 0)) (.apick (.var 0) (.og (.idx 2 (.var 2) (.var 3)) (.call 39 [(.var 0)] (.og (.ibin .neq (.var 0) (.lit (.val (.int .i64 0)))) (.apick (.var 0) (.ret (.var 1)) (.og (.ibin .add (.var 6) (.lit (.val (.int .i64 1)))) (.jump 0 [(.var 6), (.var 0)])))))) (.ret (.lit (.val (.int .i64 0))))))) [(.var 2), (.lit (.val (.int .i64 0)))])))
set_option maxRecDepth 1000000 in
theorem x21_ok : okF TT Tryz.f21 1 x21 = true := by decide +kernel
set_option maxRecDepth 1000000 in
theorem s_spec_l9Fault_ok {a0 : AV} {σ : AH} {R : AEnd → AH → Prop} (h : s_spec_l9Fault a0 σ R) : acall TP fn_spec_l9Fault [a0] σ R :=
  acall_okF (ρ := [a0]) TT_ok Tryz.func21 rfl x21 x21_ok rfl h

/-- loop.example/g00349/spec.l1Digits -/
def s_spec_l1Digits (a0 : AV) (σ : AH) (R : AEnd → AH → Prop) : Prop :=
  og (ibin .lss a0 (.val (.int .i64 0))) fun v4 =>
  apick v4 (
    og (aun .neg a0) fun v6 =>
    acall TP fn_spec_l1Digits [v6] σ (onr (fun v7 σ =>
    og (sbin .add (.val (.string ⟨#[45]⟩)) v7) fun v8 =>
    aret v8 σ R) (fun v σ => apan v σ R))) (
    og (ibin .lss a0 (.val (.int .i64 10))) fun v10 =>
    apick v10 (
      og (ibin .add (.val (.int .i64 48)) a0) fun v12 =>
      og (convI .u8 v12) fun v13 =>
      bsl 1 [(.val (.int .u8 0))] 1 [(0, v13)] σ fun v14 σ =>
      aconv TT ty_Lb ty_s v14 σ fun v15 σ =>
      aret v15 σ R) (
      og (ibin .quo a0 (.val (.int .i64 10))) fun v17 =>
      og (ibin .rem a0 (.val (.int .i64 10))) fun v20 =>
      og (ibin .add (.val (.int .i64 48)) v20) fun v21 =>
      og (convI .u8 v21) fun v22 =>
      og (bslR 1 [(.val (.int .u8 0))] 1 [(0, v22)]) fun v23 =>
      og (b2s v23) fun v24 =>
      acall TP fn_spec_l1Digits [v17] σ (onr (fun v18 σ =>
      (True) ∧
      og (sbin .add v18 v24) fun v25 =>
      aret v25 σ R) (fun v σ => apan v σ R))))
def x22 : Sx := .og (.ibin .lss (.var 0) (.lit (.val (.int .i64 0)))) (.apick (.var 0) (.og (.aun .neg (.var 1)) (.call 22 [(.var 0)] (.og (.sbin .add (.lit (.val (.string ⟨#[45]⟩))) (.var 0)) (.ret (.var 0))))) (.og (.ibin .lss (.var 1) (.lit (.val (.int .i64 10)))) (.apick (.var 0) (.og (.ibin .add (.lit (.val (.int .i64 48))) (.var 2)) (.og (.conv .u8 (.var 0)) (.bsl 1 [(.val (.int .u8 0))] 1 [(0, (.var 0))] (.cnv 59 9 (.var 0) (.ret (.var 0)))))) (.ord [0, 1, 3, 4, 5, 6, 7, 8, 2, 9, 10] [0, 1, 3, 0, 8, 24, 56, 120, 248, 511, 1023] (.og (.ibin .quo (.var 2) (.lit (.val (.int .i64 10)))) (.og (.ibin .rem (.var 3) (.lit (.val (.int .i64 10)))) (.og (.ibin .add (.lit (.val (.int .i64 48))) (.var 0)) (.og (.conv .u8 (.var 0)) (.og (.bslR 1 [(.val (.int .u8 0))] 1 [(0, (.var 0))]) (.og (.b2s (.var 0)) (.call 22 [(.var 5)] (.wat [] (.og (.sbin .add (.var 0) (.var 1)) (.ret (.var 0)))))))))))))))
set_option maxRecDepth 1000000 in
theorem x22_ok : okF TT Tryz.f22 1 x22 = true := by decide +kernel
set_option maxRecDepth 1000000 in
theorem s_spec_l1Digits_ok {a0 : AV} {σ : AH} {R : AEnd → AH → Prop} (h : s_spec_l1Digits a0 σ R) : acall TP fn_spec_l1Digits [a0] σ R :=
  acall_okF (ρ := [a0]) TT_ok Tryz.func22 rfl x22 x22_ok rfl h

/-- loop.example/g00349/spec.l9Text -/
def s_spec_l9Text (a0 : AV) (σ : AH) (R : AEnd → AH → Prop) : Prop :=
  bsl 1 [(.val (.string ⟨#[]⟩))] 17 [(0, (.val (.string ⟨#[]⟩))), (1, (.val (.string ⟨#[99, 111, 110, 115, 116]⟩))), (2, (.val (.string ⟨#[108, 111, 99, 97, 108]⟩))), (3, (.val (.string ⟨#[103, 108, 111, 98, 97, 108]⟩))), (4, (.val (.string ⟨#[99, 108, 111, 115, 117, 114, 101]⟩))), (5, (.val (.string ⟨#[106, 117, 109, 112]⟩))), (6, (.val (.string ⟨#[105, 102, 110, 111, 116]⟩))), (7, (.val (.string ⟨#[112, 111, 112]⟩))), (8, (.val (.string ⟨#[115, 101, 116]⟩))), (9, (.val (.string ⟨#[100, 101, 102]⟩))), (10, (.val (.string ⟨#[99, 97, 108, 108]⟩))), (11, (.val (.string ⟨#[116, 97, 105, 108]⟩))), (12, (.val (.string ⟨#[114, 101, 116, 117, 114, 110]⟩))), (13, (.val (.string ⟨#[99, 111, 110, 115, 116, 114, 101, 116]⟩))), (14, (.val (.string ⟨#[108, 111, 99, 97, 108, 114, 101, 116]⟩))), (15, (.val (.string ⟨#[108, 111, 99, 97, 108, 115]⟩))), (16, (.val (.string ⟨#[108, 111, 99, 97, 108, 105, 102, 110, 111, 116]⟩)))] σ fun v7 σ =>
  frz v7 σ fun f7 σ =>
  og (anil a0) fun v10 =>
  og (fldA 0 v10) fun v11 =>
  og (lod v11 σ) fun v12 =>
  og (idx 1 f7 v12 σ) fun v13 =>
  og (lod v13 σ) fun v14 =>
  jn (X := Tup [0, 4]) (fun x1 σ =>
      jn (X := Tup [0, 4]) (fun x2 σ =>
          acall TP fn_spec_l9All [x2.1] σ (onr (fun v41 σ =>
          lp (X := Tup [0, 4, 5, 6]) (fun R3 y3 σ =>
            og (anil y3.1) fun v44 =>
            og (fldA 0 v44) fun v45 =>
            og (lod v45 σ) fun v46 =>
            acall TP fn_spec_l9Nums [v46] σ (onr (fun v47 σ =>
            og (ibin .lss y3.2.2.2.1 v47) fun v48 =>
            apick v48 (
              og (sbin .add y3.2.1 (.val (.string ⟨#[32]⟩))) fun v52 =>
              og (idx 1 y3.2.2.1 y3.2.2.2.1 σ) fun v55 =>
              og (lod v55 σ) fun v56 =>
              acall TP fn_spec_l1Digits [v56] σ (onr (fun v57 σ =>
              og (sbin .add v52 v57) fun v58 =>
              og (ibin .add y3.2.2.2.1 (.val (.int .i64 1))) fun v50 =>
              R3 (y3.1, v58, y3.2.2.1, v50, ()) σ) (fun v σ => apan v σ R))) (
              aret y3.2.1 σ R)) (fun v σ => apan v σ R))) (x2.1, x2.2.1, v41, (.val (.int .i64 0)), ()) σ) (fun v σ => apan v σ R))) fun k2 =>
        og (anil x1.1) fun v28 =>
        og (fldA 0 v28) fun v29 =>
        og (lod v29 σ) fun v30 =>
        acall TP fn_spec_l9Const [v30] σ (onr (fun v31 σ =>
        apick v31 (
          og (sbin .add x1.2.1 (.val (.string ⟨#[32]⟩))) fun v33 =>
          og (anil x1.1) fun v35 =>
          og (fldA 6 v35) fun v36 =>
          og (lod v36 σ) fun v37 =>
          acall TP fn_spec_l3Write [v37, (.val (.int .i64 0))] σ (onr (fun v38 σ =>
          og (sbin .add v33 v38) fun v39 =>
          k2 (x1.1, v39, ()) σ) (fun v σ => apan v σ R))) (
          k2 (x1.1, x1.2.1, ()) σ)) (fun v σ => apan v σ R))) fun k1 =>
    og (anil a0) fun v16 =>
    og (fldA 0 v16) fun v17 =>
    og (lod v17 σ) fun v18 =>
    acall TP fn_spec_l9Named [v18] σ (onr (fun v19 σ =>
    apick v19 (
      og (sbin .add v14 (.val (.string ⟨#[32]⟩))) fun v21 =>
      og (anil a0) fun v23 =>
      og (fldA 5 v23) fun v24 =>
      og (lod v24 σ) fun v25 =>
      og (sbin .add v21 v25) fun v26 =>
      k1 (a0, v26, ()) σ) (
      k1 (a0, v14, ()) σ)) (fun v σ => apan v σ R))
def x23 : Sx := .bsl 1 [(.val (.string ⟨#[]⟩))] 17 [(0, (.lit (.val (.string ⟨#[]⟩)))), (1, (.lit (.val (.string ⟨#[99, 111, 110, 115, 116]⟩)))), (2, (.lit (.val (.string ⟨#[108, 111, 99, 97, 108]⟩)))), (3, (.lit (.val (.string ⟨#[103, 108, 111, 98, 97, 108]⟩)))), (4, (.lit (.val (.string ⟨#[99, 108, 111, 115, 117, 114, 101]⟩)))), (5, (.lit (.val (.string ⟨#[106, 117, 109, 112]⟩)))), (6, (.lit (.val (.string ⟨#[105, 102, 110, 111, 116]⟩)))), (7, (.lit (.val (.string ⟨#[112, 111, 112]⟩)))), (8, (.lit (.val (.string ⟨#[115, 101, 116]⟩)))), (9, (.lit (.val (.string ⟨#[100, 101, 102]⟩)))), (10, (.lit (.val (.string ⟨#[99, 97, 108, 108]⟩)))), (11, (.lit (.val (.string ⟨#[116, 97, 105, 108]⟩)))), (12, (.lit (.val (.string ⟨#[114, 101, 116, 117, 114, 110]⟩)))), (13, (.lit (.val (.string ⟨#[99, 111, 110, 115, 116, 114, 101, 116]⟩)))), (14, (.lit (.val (.string ⟨#[108, 111, 99, 97, 108, 114, 101, 116]⟩)))), (15, (.lit (.val (.string ⟨#[108, 111, 99, 97, 108, 115]⟩)))), (16, (.lit (.val (.string ⟨#[108, 111, 99, 97, 108, 105, 102, 110, 111, 116]⟩))))] (.frz 1 (.var 0) (.og (.anil (.var 2)) (.og (.fldA 0 (.var 0)) (.og (.lod (.var 0)) (.og (.idx 1 (.var 3) (.var 0)) (.og (.lod (.var 0)) (.jn 31 [0, 4] (.jn 63 [0, 4] (.call 43 [(.var 0)] (.lp [0, 4, 5, 6] (.og (.anil (.var 0)) (.og (.fldA 0 (.var 0)) (.og (.lod (.var 0)) (.call 44 [(.var 0)] (.og (.ibin .lss (.var 7) (.var 0)) (.apick (.var 0) (.og (.sbin .add (.var 6) (.lit (.val (.string ⟨#[32]⟩)))) (.og (.idx 1 (.var 8) (.var 9)) (.og (.lod (.var 0)) (.call 22 [(.var 0)] (.og (.sbin .add (.var 3) (.var 0)) (.og (.ibin .add (.var 13) (.lit (.val (.int .i64 1)))) (.jump 0 [(.var 11), (.var 1), (.var 13), (.var 0)]))))))) (.ret (.var 6)))))))) [(.var 1), (.var 2), (.var 0), (.lit (.val (.int .i64 0)))])) (.og (.anil (.var 0)) (.og (.fldA 0 (.var 0)) (.og (.lod (.var 0)) (.call 41 [(.var 0)] (.apick (.var 0) (.og (.sbin .add (.var 5) (.lit (.val (.string ⟨#[32]⟩)))) (.og (.anil (.var 5)) (.og (.fldA 6 (.var 0)) (.og (.lod (.var 0)) (.call 42 [(.var 0), (.lit (.val (.int .i64 0)))] (.og (.sbin .add (.var 4) (.var 0)) (.jump 0 [(.var 10), (.var 0)]))))))) (.jump 0 [(.var 4), (.var 5)]))))))) (.og (.anil (.var 7)) (.og (.fldA 0 (.var 0)) (.og (.lod (.var 0)) (.call 40 [(.var 0)] (.apick (.var 0) (.og (.sbin .add (.var 4) (.lit (.val (.string ⟨#[32]⟩)))) (.og (.anil (.var 12)) (.og (.fldA 5 (.var 0)) (.og (.lod (.var 0)) (.og (.sbin .add (.var 3) (.var 0)) (.jump 0 [(.var 16), (.var 0)])))))) (.jump 0 [(.var 11), (.var 4)])))))))))))))
set_option maxRecDepth 1000000 in
theorem x23_ok : okF TT Tryz.f23 1 x23 = true := by decide +kernel
set_option maxRecDepth 1000000 in
theorem s_spec_l9Text_ok {a0 : AV} {σ : AH} {R : AEnd → AH → Prop} (h : s_spec_l9Text a0 σ R) : acall TP fn_spec_l9Text [a0] σ R :=
  acall_okF (ρ := [a0]) TT_ok Tryz.func23 rfl x23 x23_ok rfl h

/-- loop.example/g00349/laws.toBlock -/
def s_laws_toBlock (a0 : AV) (σ : AH) (R : AEnd → AH → Prop) : Prop :=
  abox a0 σ fun v1 σ =>
  new [(.val (.int .i64 0)), (.val (.slice none 0 0))] σ fun v2 σ =>
  frz v1 σ fun f1 σ =>
  new [(.val (.int .i64 0)), (.val (.slice none 0 0))] σ fun v3 σ =>
  og (fldA 0 f1) fun v4 =>
  og (lod v4 σ) fun v5 =>
  og (fldA 0 v3) fun v6 =>
  sto 1 v6 v5 σ fun σ =>
  og (fldA 1 f1) fun v7 =>
  og (lod v7 σ) fun v8 =>
  acall TP fn_laws_toOpS [v8] σ (onr (fun v9 σ =>
  og (fldA 1 v3) fun v10 =>
  sto 1 v10 v9 σ fun σ =>
  frz v3 σ fun f3 σ =>
  og (lodA 2 f3 σ) fun v11 =>
  sto 2 v2 v11 σ fun σ =>
  og (lodA 2 v2 σ) fun r2 =>
  aret r2 σ R) (fun v σ => apan v σ R))
def x24 : Sx := .box (.var 0) (.new [(.val (.int .i64 0)), (.val (.slice none 0 0))] (.frz 1 (.var 1) (.new [(.val (.int .i64 0)), (.val (.slice none 0 0))] (.og (.fldA 0 (.var 1)) (.og (.lod (.var 0)) (.og (.fldA 0 (.var 2)) (.sto 1 (.var 0) (.var 1) (.og (.fldA 1 (.var 4)) (.og (.lod (.var 0)) (.call 45 [(.var 0)] (.og (.fldA 1 (.var 6)) (.sto 1 (.var 0) (.var 1) (.frz 4 (.var 7) (.og (.lodA 2 (.var 0)) (.sto 2 (.var 11) (.var 0) (.og (.lodA 2 (.var 11)) (.ret (.var 0))))))))))))))))))
set_option maxRecDepth 1000000 in
theorem x24_ok : okF TT Tryz.f24 1 x24 = true := by decide +kernel
set_option maxRecDepth 1000000 in
theorem s_laws_toBlock_ok {a0 : AV} {σ : AH} {R : AEnd → AH → Prop} (h : s_laws_toBlock a0 σ R) : acall TP fn_laws_toBlock [a0] σ R :=
  acall_okF (ρ := [a0]) TT_ok Tryz.func24 rfl x24 x24_ok rfl h

/-- loop.example/g00349/impl.opsFault -/
def s_impl_opsFault (a0 : AV) (σ : AH) (R : AEnd → AH → Prop) : Prop :=
  og (lenS a0) fun v7 =>
  og (ibin .gtr v7 (.val (.int .i64 60))) fun v8 =>
  apick v8 (
    aret (.val (.int .i64 2)) σ R) (
    og (lenS a0) fun v10 =>
    lp (X := Tup [9, 10, 11]) (fun R1 y1 σ =>
      og (ibin .lss y1.2.2.1 y1.2.1) fun v12 =>
      apick v12 (
        og (idx 2 y1.1 y1.2.2.1 σ) fun v13 =>
        og (lodA 2 v13 σ) fun v14 =>
        new [(.val (.int .i64 0)), (.val (.slice none 0 0))] σ fun v4 σ =>
        sto 2 v4 v14 σ fun σ =>
        frz v4 σ fun f4 σ =>
        og (lodA 2 f4 σ) fun v15 =>
        acall TP fn_impl_blockFault [v15] σ (onr (fun v16 σ =>
        og (ibin .neq v16 (.val (.int .i64 0))) fun v18 =>
        apick v18 (
          aret v16 σ R) (
          og (ibin .add y1.2.2.1 (.val (.int .i64 1))) fun v20 =>
          R1 (y1.1, y1.2.1, v20, ()) σ)) (fun v σ => apan v σ R))) (
        aret (.val (.int .i64 0)) σ R)) (a0, v10, (.val (.int .i64 0)), ()) σ)
def x25 : Sx := .og (.lenS (.var 0)) (.og (.ibin .gtr (.var 0) (.lit (.val (.int .i64 60)))) (.apick (.var 0) (.ret (.lit (.val (.int .i64 2)))) (.og (.lenS (.var 2)) (.lp [9, 10, 11] (.og (.ibin .lss (.var 2) (.var 1)) (.apick (.var 0) (.og (.idx 2 (.var 1) (.var 3)) (.og (.lodA 2 (.var 0)) (.new [(.val (.int .i64 0)), (.val (.slice none 0 0))] (.sto 2 (.var 0) (.var 1) (.frz 6 (.var 0) (.og (.lodA 2 (.var 0)) (.call 46 [(.var 0)] (.og (.ibin .neq (.var 0) (.lit (.val (.int .i64 0)))) (.apick (.var 0) (.ret (.var 1)) (.og (.ibin .add (.var 10) (.lit (.val (.int .i64 1)))) (.jump 0 [(.var 9), (.var 10), (.var 0)]))))))))))) (.ret (.lit (.val (.int .i64 0)))))) [(.var 3), (.var 0), (.lit (.val (.int .i64 0)))]))))
set_option maxRecDepth 1000000 in
theorem x25_ok : okF TT Tryz.f25 1 x25 = true := by decide +kernel
set_option maxRecDepth 1000000 in
theorem s_impl_opsFault_ok {a0 : AV} {σ : AH} {R : AEnd → AH → Prop} (h : s_impl_opsFault a0 σ R) : acall TP fn_impl_opsFault [a0] σ R :=
  acall_okF (ρ := [a0]) TT_ok Tryz.func25 rfl x25 x25_ok rfl h

/-- (loop.example/g00349/impl.Op).text -/
def s_impl_Op_text (a0 : AV) (σ : AH) (R : AEnd → AH → Prop) : Prop :=
  abox a0 σ fun v1 σ =>
  frz v1 σ fun f1 σ =>
  bsl 1 [(.val (.string ⟨#[]⟩))] 16 [(0, (.val (.string ⟨#[99, 111, 110, 115, 116]⟩))), (1, (.val (.string ⟨#[108, 111, 99, 97, 108]⟩))), (2, (.val (.string ⟨#[103, 108, 111, 98, 97, 108]⟩))), (3, (.val (.string ⟨#[99, 108, 111, 115, 117, 114, 101]⟩))), (4, (.val (.string ⟨#[106, 117, 109, 112]⟩))), (5, (.val (.string ⟨#[105, 102, 110, 111, 116]⟩))), (6, (.val (.string ⟨#[112, 111, 112]⟩))), (7, (.val (.string ⟨#[115, 101, 116]⟩))), (8, (.val (.string ⟨#[100, 101, 102]⟩))), (9, (.val (.string ⟨#[99, 97, 108, 108]⟩))), (10, (.val (.string ⟨#[116, 97, 105, 108]⟩))), (11, (.val (.string ⟨#[114, 101, 116, 117, 114, 110]⟩))), (12, (.val (.string ⟨#[99, 111, 110, 115, 116, 114, 101, 116]⟩))), (13, (.val (.string ⟨#[108, 111, 99, 97, 108, 114, 101, 116]⟩))), (14, (.val (.string ⟨#[108, 111, 99, 97, 108, 115]⟩))), (15, (.val (.string ⟨#[108, 111, 99, 97, 108, 105, 102, 110, 111, 116]⟩)))] σ fun v6 σ =>
  og (fldA 0 f1) fun v7 =>
  og (lod v7 σ) fun v8 =>
  og (ibin .sub v8 (.val (.int .i64 1))) fun v9 =>
  og (idx 1 v6 v9 σ) fun v10 =>
  og (lod v10 σ) fun v11 =>
  bsl 1 [(.val (.string ⟨#[]⟩))] 1 [(0, v11)] σ fun v12 σ =>
  jn (X := Tup [1, 3]) (fun x1 σ =>
      og (fldA 1 x1.1) fun v32 =>
      og (lod v32 σ) fun v33 =>
      og (fldA 2 x1.1) fun v34 =>
      og (lod v34 σ) fun v35 =>
      og (fldA 3 x1.1) fun v36 =>
      og (lod v36 σ) fun v37 =>
      og (fldA 4 x1.1) fun v38 =>
      og (lod v38 σ) fun v39 =>
      og (bslR 1 [(.val (.int .i64 0))] 4 [(0, v33), (1, v35), (2, v37), (3, v39)]) fun v40 =>
      og (fldA 0 x1.1) fun v41 =>
      og (lod v41 σ) fun v42 =>
      acall TP fn_impl_opNums [v42] σ (onr (fun v43 σ =>
      (lod v38 σ = some v39 ∧ lod v36 σ = some v37 ∧ lod v34 σ = some v35 ∧ lod v32 σ = some v33 ∧ True) ∧
      og (slc 1 v40 none (some v43) none σ) fun v44 =>
      og (lenS v44) fun v45 =>
      lp (X := Tup [3, 44, 45, 46]) (fun R2 y2 σ =>
        og (ibin .lss y2.2.2.2.1 y2.2.2.1) fun v47 =>
        apick v47 (
          og (idx 1 y2.2.1 y2.2.2.2.1 σ) fun v48 =>
          og (lod v48 σ) fun v49 =>
          acall TP fn_impl_dec [v49] σ (onr (fun v52 σ =>
          bsl 1 [(.val (.string ⟨#[]⟩))] 1 [(0, v52)] σ fun v53 σ =>
          app 1 y2.1 v53 σ fun v54 σ =>
          og (ibin .add y2.2.2.2.1 (.val (.int .i64 1))) fun v55 =>
          R2 (v54, y2.2.1, y2.2.2.1, v55, ()) σ) (fun v σ => apan v σ R))) (
          acall TP fn_strings_Join [y2.1, (.val (.string ⟨#[32]⟩))] σ (onr (fun v57 σ =>
          aret v57 σ R) (fun v σ => apan v σ R)))) (x1.2.1, v44, v45, (.val (.int .i64 0)), ()) σ) (fun v σ => apan v σ R))) fun k1 =>
    og (fldA 0 f1) fun v14 =>
    og (lod v14 σ) fun v15 =>
    acall TP fn_impl_opNamed [v15] σ (onr (fun v16 σ =>
    apick v16 (
      og (fldA 5 f1) fun v18 =>
      og (lod v18 σ) fun v19 =>
      bsl 1 [(.val (.string ⟨#[]⟩))] 1 [(0, v19)] σ fun v20 σ =>
      app 1 v12 v20 σ fun v21 σ =>
      k1 (f1, v21, ()) σ) (
      og (fldA 0 f1) fun v23 =>
      og (lod v23 σ) fun v24 =>
      acall TP fn_impl_opData [v24] σ (onr (fun v25 σ =>
      apick v25 (
        og (fldA 6 f1) fun v27 =>
        og (lod v27 σ) fun v28 =>
        acall TP fn_impl_written [v28, (.val (.int .i64 0))] σ (onr (fun v29 σ =>
        bsl 1 [(.val (.string ⟨#[]⟩))] 1 [(0, v29)] σ fun v30 σ =>
        app 1 v12 v30 σ fun v31 σ =>
        k1 (f1, v31, ()) σ) (fun v σ => apan v σ R))) (
        k1 (f1, v12, ()) σ)) (fun v σ => apan v σ R)))) (fun v σ => apan v σ R))
def x28 : Sx := .box (.var 0) (.frz 1 (.var 0) (.bsl 1 [(.val (.string ⟨#[]⟩))] 16 [(0, (.lit (.val (.string ⟨#[99, 111, 110, 115, 116]⟩)))), (1, (.lit (.val (.string ⟨#[108, 111, 99, 97, 108]⟩)))), (2, (.lit (.val (.string ⟨#[103, 108, 111, 98, 97, 108]⟩)))), (3, (.lit (.val (.string ⟨#[99, 108, 111, 115, 117, 114, 101]⟩)))), (4, (.lit (.val (.string ⟨#[106, 117, 109, 112]⟩)))), (5, (.lit (.val (.string ⟨#[105, 102, 110, 111, 116]⟩)))), (6, (.lit (.val (.string ⟨#[112, 111, 112]⟩)))), (7, (.lit (.val (.string ⟨#[115, 101, 116]⟩)))), (8, (.lit (.val (.string ⟨#[100, 101, 102]⟩)))), (9, (.lit (.val (.string ⟨#[99, 97, 108, 108]⟩)))), (10, (.lit (.val (.string ⟨#[116, 97, 105, 108]⟩)))), (11, (.lit (.val (.string ⟨#[114, 101, 116, 117, 114, 110]⟩)))), (12, (.lit (.val (.string ⟨#[99, 111, 110, 115, 116, 114, 101, 116]⟩)))), (13, (.lit (.val (.string ⟨#[108, 111, 99, 97, 108, 114, 101, 116]⟩)))), (14, (.lit (.val (.string ⟨#[108, 111, 99, 97, 108, 115]⟩)))), (15, (.lit (.val (.string ⟨#[108, 111, 99, 97, 108, 105, 102, 110, 111, 116]⟩))))] (.og (.fldA 0 (.var 1)) (.og (.lod (.var 0)) (.og (.ibin .sub (.var 0) (.lit (.val (.int .i64 1)))) (.og (.idx 1 (.var 3) (.var 0)) (.og (.lod (.var 0)) (.bsl 1 [(.val (.string ⟨#[]⟩))] 1 [(0, (.var 0))] (.jn 15 [1, 3] (.ord [0, 1, 2, 3, 4, 5, 6, 7, 8, 9, 10, 14, 11, 12, 13] [0, 1, 0, 4, 0, 16, 0, 64, 255, 0, 512, 1536, 4095, 8191, 0] (.og (.fldA 1 (.var 0)) (.og (.lod (.var 0)) (.og (.fldA 2 (.var 2)) (.og (.lod (.var 0)) (.og (.fldA 3 (.var 4)) (.og (.lod (.var 0)) (.og (.fldA 4 (.var 6)) (.og (.lod (.var 0)) (.og (.bslR 1 [(.val (.int .i64 0))] 4 [(0, (.var 6)), (1, (.var 4)), (2, (.var 2)), (3, (.var 0))]) (.og (.fldA 0 (.var 9)) (.og (.lod (.var 0)) (.call 52 [(.var 0)] (.wat [⟨none, (.lod (.var 5)), (.var 4)⟩, ⟨none, (.lod (.var 7)), (.var 6)⟩, ⟨none, (.lod (.var 9)), (.var 8)⟩, ⟨none, (.lod (.var 11)), (.var 10)⟩] (.og (.slc 1 (.var 3) none (some (.var 0)) none) (.og (.lenS (.var 0)) (.lp [3, 44, 45, 46] (.og (.ibin .lss (.var 3) (.var 2)) (.apick (.var 0) (.og (.idx 1 (.var 2) (.var 4)) (.og (.lod (.var 0)) (.call 27 [(.var 0)] (.bsl 1 [(.val (.string ⟨#[]⟩))] 1 [(0, (.var 0))] (.app 1 (.var 5) (.var 0) (.og (.ibin .add (.var 9) (.lit (.val (.int .i64 1)))) (.jump 0 [(.var 1), (.var 8), (.var 9), (.var 0)]))))))) (.call 53 [(.var 1), (.lit (.val (.string ⟨#[32]⟩)))] (.ret (.var 0))))) [(.var 15), (.var 1), (.var 0), (.lit (.val (.int .i64 0)))]))))))))))))))))) (.og (.fldA 0 (.var 7)) (.og (.lod (.var 0)) (.call 49 [(.var 0)] (.apick (.var 0) (.og (.fldA 5 (.var 10)) (.og (.lod (.var 0)) (.bsl 1 [(.val (.string ⟨#[]⟩))] 1 [(0, (.var 0))] (.app 1 (.var 6) (.var 0) (.jump 0 [(.var 14), (.var 0)]))))) (.og (.fldA 0 (.var 10)) (.og (.lod (.var 0)) (.call 50 [(.var 0)] (.apick (.var 0) (.og (.fldA 6 (.var 13)) (.og (.lod (.var 0)) (.call 51 [(.var 0), (.lit (.val (.int .i64 0)))] (.bsl 1 [(.val (.string ⟨#[]⟩))] 1 [(0, (.var 0))] (.app 1 (.var 10) (.var 0) (.jump 0 [(.var 18), (.var 0)])))))) (.jump 0 [(.var 13), (.var 6)]))))))))))))))))))
set_option maxRecDepth 1000000 in
theorem x28_ok : okF TT Tryz.f28 1 x28 = true := by decide +kernel
set_option maxRecDepth 1000000 in
theorem s_impl_Op_text_ok {a0 : AV} {σ : AH} {R : AEnd → AH → Prop} (h : s_impl_Op_text a0 σ R) : acall TP fn_impl_Op_text [a0] σ R :=
  acall_okF (ρ := [a0]) TT_ok Tryz.func28 rfl x28 x28_ok rfl h

/-- loop.example/g00349/laws.eqBlock -/
def s_laws_eqBlock (a0 a1 : AV) (σ : AH) (R : AEnd → AH → Prop) : Prop :=
  abox a0 σ fun v2 σ =>
  abox a1 σ fun v3 σ =>
  frz v2 σ fun f2 σ =>
  frz v3 σ fun f3 σ =>
  og (fldA 0 f2) fun v5 =>
  og (lod v5 σ) fun v6 =>
  og (fldA 0 f3) fun v7 =>
  og (lod v7 σ) fun v8 =>
  og (ibin .neq v6 v8) fun v9 =>
  apick v9 (
    aret (.val (.bool false)) σ R) (
    og (fldA 1 f2) fun v10 =>
    og (lod v10 σ) fun v11 =>
    og (fldA 1 f3) fun v12 =>
    og (lod v12 σ) fun v13 =>
    acall TP fn_laws_eqOpS [v11, v13] σ (onr (fun v14 σ =>
    og (aun .not v14) fun v15 =>
    apick v15 (
      aret (.val (.bool false)) σ R) (
      aret (.val (.bool true)) σ R)) (fun v σ => apan v σ R)))
def x31 : Sx := .box (.var 1) (.box (.var 1) (.frz 2 (.var 1) (.frz 3 (.var 1) (.og (.fldA 0 (.var 1)) (.og (.lod (.var 0)) (.og (.fldA 0 (.var 2)) (.og (.lod (.var 0)) (.og (.ibin .neq (.var 2) (.var 0)) (.apick (.var 0) (.ret (.lit (.val (.bool false)))) (.og (.fldA 1 (.var 6)) (.og (.lod (.var 0)) (.og (.fldA 1 (.var 7)) (.og (.lod (.var 0)) (.call 54 [(.var 2), (.var 0)] (.og (.aun .not (.var 0)) (.apick (.var 0) (.ret (.lit (.val (.bool false)))) (.ret (.lit (.val (.bool true))))))))))))))))))))
set_option maxRecDepth 1000000 in
theorem x31_ok : okF TT Tryz.f31 2 x31 = true := by decide +kernel
set_option maxRecDepth 1000000 in
theorem s_laws_eqBlock_ok {a0 a1 : AV} {σ : AH} {R : AEnd → AH → Prop} (h : s_laws_eqBlock a0 a1 σ R) : acall TP fn_laws_eqBlock [a0, a1] σ R :=
  acall_okF (ρ := [a1, a0]) TT_ok Tryz.func31 rfl x31 x31_ok rfl h

/-- loop.example/g00349/laws.szOpS -/
def s_laws_szOpS (a0 a1 : AV) (σ : AH) (R : AEnd → AH → Prop) : Prop :=
  og (lenS a0) fun v8 =>
  og (ibin .sub a1 v8) fun v9 =>
  og (ibin .lss v9 (.val (.int .i64 0))) fun v11 =>
  apick v11 (
    aret (.val (.int .i64 (-1))) σ R) (
    lp (X := Tup [0, 1, 5]) (fun R1 y1 σ =>
      og (lenS y1.1) fun v14 =>
      og (ibin .lss y1.2.2.1 v14) fun v15 =>
      apick v15 (
        og (idx 7 y1.1 y1.2.2.1 σ) fun v20 =>
        og (lodA 7 v20 σ) fun v21 =>
        acall TP fn_laws_szOp [v21, y1.2.1] σ (onr (fun v23 σ =>
        og (ibin .lss v23 (.val (.int .i64 0))) fun v25 =>
        apick v25 (
          aret (.val (.int .i64 (-1))) σ R) (
          og (ibin .add y1.2.2.1 (.val (.int .i64 1))) fun v17 =>
          R1 (y1.1, v23, v17, ()) σ)) (fun v σ => apan v σ R))) (
        aret y1.2.1 σ R)) (a0, v9, (.val (.int .i64 0)), ()) σ)
def x38 : Sx := .og (.lenS (.var 1)) (.og (.ibin .sub (.var 1) (.var 0)) (.og (.ibin .lss (.var 0) (.lit (.val (.int .i64 0)))) (.apick (.var 0) (.ret (.lit (.val (.int .i64 (-1))))) (.lp [0, 1, 5] (.og (.lenS (.var 0)) (.og (.ibin .lss (.var 3) (.var 0)) (.apick (.var 0) (.og (.idx 7 (.var 2) (.var 4)) (.og (.lodA 7 (.var 0)) (.call 67 [(.var 0), (.var 5)] (.og (.ibin .lss (.var 0) (.lit (.val (.int .i64 0)))) (.apick (.var 0) (.ret (.lit (.val (.int .i64 (-1))))) (.og (.ibin .add (.var 8) (.lit (.val (.int .i64 1)))) (.jump 0 [(.var 7), (.var 2), (.var 0)]))))))) (.ret (.var 3))))) [(.var 4), (.var 1), (.lit (.val (.int .i64 0)))]))))
set_option maxRecDepth 1000000 in
theorem x38_ok : okF TT Tryz.f38 2 x38 = true := by decide +kernel
set_option maxRecDepth 1000000 in
theorem s_laws_szOpS_ok {a0 a1 : AV} {σ : AH} {R : AEnd → AH → Prop} (h : s_laws_szOpS a0 a1 σ R) : acall TP fn_laws_szOpS [a0, a1] σ R :=
  acall_okF (ρ := [a1, a0]) TT_ok Tryz.func38 rfl x38 x38_ok rfl h

/-- loop.example/g00349/spec.l9Block -/
def s_spec_l9Block (a0 : AV) (σ : AH) (R : AEnd → AH → Prop) : Prop :=
  og (anil a0) fun v6 =>
  og (fldA 0 v6) fun v7 =>
  og (lod v7 σ) fun v8 =>
  acall TP fn_spec_l1In [v8, (.val (.int .i64 0)), (.val (.int .i64 3))] σ (onr (fun v9 σ =>
  og (aun .not v9) fun v10 =>
  apick v10 (
    aret (.val (.int .i64 3)) σ R) (
    og (anil a0) fun v12 =>
    og (fldA 1 v12) fun v13 =>
    og (lod v13 σ) fun v14 =>
    og (lenS v14) fun v15 =>
    og (ibin .gtr v15 (.val (.int .i64 200))) fun v16 =>
    apick v16 (
      aret (.val (.int .i64 2)) σ R) (
      lp (X := Tup [0, 3]) (fun R1 y1 σ =>
        og (anil y1.1) fun v19 =>
        og (fldA 1 v19) fun v20 =>
        og (lod v20 σ) fun v21 =>
        og (lenS v21) fun v22 =>
        og (ibin .lss y1.2.1 v22) fun v23 =>
        apick v23 (
          og (anil y1.1) fun v27 =>
          og (fldA 1 v27) fun v28 =>
          og (lod v28 σ) fun v29 =>
          og (idx 7 v29 y1.2.1 σ) fun v31 =>
          acall TP fn_spec_l9Op [v31] σ (onr (fun v32 σ =>
          og (ibin .neq v32 (.val (.int .i64 0))) fun v34 =>
          apick v34 (
            aret v32 σ R) (
            og (ibin .add y1.2.1 (.val (.int .i64 1))) fun v25 =>
            R1 (y1.1, v25, ()) σ)) (fun v σ => apan v σ R))) (
          aret (.val (.int .i64 0)) σ R)) (a0, (.val (.int .i64 0)), ()) σ))) (fun v σ => apan v σ R))
def x39 : Sx := .og (.anil (.var 0)) (.og (.fldA 0 (.var 0)) (.og (.lod (.var 0)) (.call 68 [(.var 0), (.lit (.val (.int .i64 0))), (.lit (.val (.int .i64 3)))] (.og (.aun .not (.var 0)) (.apick (.var 0) (.ret (.lit (.val (.int .i64 3)))) (.og (.anil (.var 5)) (.og (.fldA 1 (.var 0)) (.og (.lod (.var 0)) (.og (.lenS (.var 0)) (.og (.ibin .gtr (.var 0) (.lit (.val (.int .i64 200)))) (.apick (.var 0) (.ret (.lit (.val (.int .i64 2)))) (.lp [0, 3] (.og (.anil (.var 0)) (.og (.fldA 1 (.var 0)) (.og (.lod (.var 0)) (.og (.lenS (.var 0)) (.og (.ibin .lss (.var 5) (.var 0)) (.apick (.var 0) (.og (.anil (.var 5)) (.og (.fldA 1 (.var 0)) (.og (.lod (.var 0)) (.og (.idx 7 (.var 0) (.var 9)) (.call 69 [(.var 0)] (.og (.ibin .neq (.var 0) (.lit (.val (.int .i64 0)))) (.apick (.var 0) (.ret (.var 1)) (.og (.ibin .add (.var 12) (.lit (.val (.int .i64 1)))) (.jump 0 [(.var 12), (.var 0)]))))))))) (.ret (.lit (.val (.int .i64 0)))))))))) [(.var 10), (.lit (.val (.int .i64 0)))]))))))))))))
set_option maxRecDepth 1000000 in
theorem x39_ok : okF TT Tryz.f39 1 x39 = true := by decide +kernel
set_option maxRecDepth 1000000 in
theorem s_spec_l9Block_ok {a0 : AV} {σ : AH} {R : AEnd → AH → Prop} (h : s_spec_l9Block a0 σ R) : acall TP fn_spec_l9Block [a0] σ R :=
  acall_okF (ρ := [a0]) TT_ok Tryz.func39 rfl x39 x39_ok rfl h

/-- loop.example/g00349/spec.l9Named -/
def s_spec_l9Named (a0 : AV) (σ : AH) (R : AEnd → AH → Prop) : Prop :=
  og (ibin .eql a0 (.val (.int .i64 3))) fun v4 =>
  og (gval v4 false false (some a0)) fun v6 =>
  og (gval v4 false false (ibin .eql v6 (.val (.int .i64 8)))) fun v7 =>
  og (pickV v4 (.val (.bool true)) v7) fun v8 =>
  og (gval v8 false false (some a0)) fun v10 =>
  og (gval v8 false false (ibin .eql v10 (.val (.int .i64 9)))) fun v11 =>
  og (pickV v8 (.val (.bool true)) v11) fun v12 =>
  aret v12 σ R
def x40 : Sx := .og (.ibin .eql (.var 0) (.lit (.val (.int .i64 3)))) (.gog (.var 0) false false (.ret (.var 1)) (.gog (.var 1) false false (.ibin .eql (.var 0) (.lit (.val (.int .i64 8)))) (.og (.pickV (.var 2) (.lit (.val (.bool true))) (.var 0)) (.gog (.var 0) false false (.ret (.var 4)) (.gog (.var 1) false false (.ibin .eql (.var 0) (.lit (.val (.int .i64 9)))) (.og (.pickV (.var 2) (.lit (.val (.bool true))) (.var 0)) (.ret (.var 0))))))))
set_option maxRecDepth 1000000 in
theorem x40_ok : okF TT Tryz.f40 1 x40 = true := by decide +kernel
set_option maxRecDepth 1000000 in
theorem s_spec_l9Named_ok {a0 : AV} {σ : AH} {R : AEnd → AH → Prop} (h : s_spec_l9Named a0 σ R) : acall TP fn_spec_l9Named [a0] σ R :=
  acall_okF (ρ := [a0]) TT_ok Tryz.func40 rfl x40 x40_ok rfl h

/-- loop.example/g00349/spec.l9Const -/
def s_spec_l9Const (a0 : AV) (σ : AH) (R : AEnd → AH → Prop) : Prop :=
  og (ibin .eql a0 (.val (.int .i64 1))) fun v4 =>
  og (gval v4 false false (some a0)) fun v6 =>
  og (gval v4 false false (ibin .eql v6 (.val (.int .i64 13)))) fun v7 =>
  og (pickV v4 (.val (.bool true)) v7) fun v8 =>
  aret v8 σ R
def x41 : Sx := .og (.ibin .eql (.var 0) (.lit (.val (.int .i64 1)))) (.gog (.var 0) false false (.ret (.var 1)) (.gog (.var 1) false false (.ibin .eql (.var 0) (.lit (.val (.int .i64 13)))) (.og (.pickV (.var 2) (.lit (.val (.bool true))) (.var 0)) (.ret (.var 0)))))
set_option maxRecDepth 1000000 in
theorem x41_ok : okF TT Tryz.f41 1 x41 = true := by decide +kernel
set_option maxRecDepth 1000000 in
theorem s_spec_l9Const_ok {a0 : AV} {σ : AH} {R : AEnd → AH → Prop} (h : s_spec_l9Const a0 σ R) : acall TP fn_spec_l9Const [a0] σ R :=
  acall_okF (ρ := [a0]) TT_ok Tryz.func41 rfl x41 x41_ok rfl h

/-- loop.example/g00349/spec.l3Write -/
def s_spec_l3Write (a0 a1 : AV) (σ : AH) (R : AEnd → AH → Prop) : Prop :=
  og (idx 4 a0 a1 σ) fun v11 =>
  og (anil v11) fun v13 =>
  og (fldA 0 v13) fun v14 =>
  og (lod v14 σ) fun v15 =>
  og (ibin .eql v15 (.val (.int .i64 1))) fun v17 =>
  apick v17 (
    og (anil v11) fun v19 =>
    og (fldA 2 v19) fun v20 =>
    og (lod v20 σ) fun v21 =>
    acall TP fn_spec_l1Digits [v21] σ (onr (fun v22 σ =>
    aret v22 σ R) (fun v σ => apan v σ R))) (
    og (ibin .eql v15 (.val (.int .i64 2))) fun v24 =>
    apick v24 (
      bsl 1 [(.val (.string ⟨#[]⟩))] 2 [(0, (.val (.string ⟨#[35, 102]⟩))), (1, (.val (.string ⟨#[35, 116]⟩)))] σ fun v25 σ =>
      og (anil v11) fun v27 =>
      og (fldA 2 v27) fun v28 =>
      og (lod v28 σ) fun v29 =>
      og (idx 1 v25 v29 σ) fun v30 =>
      og (lod v30 σ) fun v31 =>
      aret v31 σ R) (
      og (ibin .eql v15 (.val (.int .i64 3))) fun v33 =>
      apick v33 (
        og (anil v11) fun v35 =>
        og (fldA 3 v35) fun v36 =>
        og (lod v36 σ) fun v37 =>
        aret v37 σ R) (
        acall TP fn_spec_l3Parts [a0, a1] σ (onr (fun v40 σ =>
        lp (X := Tup [0, 6, 7, 8]) (fun R1 y1 σ =>
          og (lenS y1.2.2.1) fun v43 =>
          og (ibin .lss y1.2.2.2.1 v43) fun v44 =>
          apick v44 (
            jn (X := Tup [0, 6, 7, 8]) (fun x2 σ =>
                og (idx 1 x2.2.2.1 x2.2.2.2.1 σ) fun v55 =>
                og (lod v55 σ) fun v56 =>
                acall TP fn_spec_l3Write [x2.1, v56] σ (onr (fun v57 σ =>
                og (sbin .add x2.2.1 v57) fun v58 =>
                og (ibin .add x2.2.2.2.1 (.val (.int .i64 1))) fun v46 =>
                R1 (x2.1, v58, x2.2.2.1, v46, ()) σ) (fun v σ => apan v σ R))) fun k2 =>
              og (ibin .gtr y1.2.2.2.1 (.val (.int .i64 0))) fun v48 =>
              apick v48 (
                og (sbin .add y1.2.1 (.val (.string ⟨#[32]⟩))) fun v50 =>
                k2 (y1.1, v50, y1.2.2.1, y1.2.2.2.1, ()) σ) (
                k2 (y1.1, y1.2.1, y1.2.2.1, y1.2.2.2.1, ()) σ)) (
            og (sbin .add y1.2.1 (.val (.string ⟨#[41]⟩))) fun v60 =>
            aret v60 σ R)) (a0, (.val (.string ⟨#[40]⟩)), v40, (.val (.int .i64 0)), ()) σ) (fun v σ => apan v σ R)))))
def x42 : Sx := .og (.idx 4 (.var 1) (.var 0)) (.og (.anil (.var 0)) (.og (.fldA 0 (.var 0)) (.og (.lod (.var 0)) (.og (.ibin .eql (.var 0) (.lit (.val (.int .i64 1)))) (.apick (.var 0) (.og (.anil (.var 4)) (.og (.fldA 2 (.var 0)) (.og (.lod (.var 0)) (.call 22 [(.var 0)] (.ret (.var 0)))))) (.og (.ibin .eql (.var 1) (.lit (.val (.int .i64 2)))) (.apick (.var 0) (.bsl 1 [(.val (.string ⟨#[]⟩))] 2 [(0, (.lit (.val (.string ⟨#[35, 102]⟩)))), (1, (.lit (.val (.string ⟨#[35, 116]⟩))))] (.og (.anil (.var 6)) (.og (.fldA 2 (.var 0)) (.og (.lod (.var 0)) (.og (.idx 1 (.var 3) (.var 0)) (.og (.lod (.var 0)) (.ret (.var 0)))))))) (.og (.ibin .eql (.var 2) (.lit (.val (.int .i64 3)))) (.apick (.var 0) (.og (.anil (.var 6)) (.og (.fldA 3 (.var 0)) (.og (.lod (.var 0)) (.ret (.var 0))))) (.call 70 [(.var 8), (.var 7)] (.lp [0, 6, 7, 8] (.og (.lenS (.var 2)) (.og (.ibin .lss (.var 4) (.var 0)) (.apick (.var 0) (.jn 16201 [0, 6, 7, 8] (.og (.idx 1 (.var 2) (.var 3)) (.og (.lod (.var 0)) (.call 42 [(.var 2), (.var 0)] (.og (.sbin .add (.var 4) (.var 0)) (.og (.ibin .add (.var 7) (.lit (.val (.int .i64 1)))) (.jump 0 [(.var 5), (.var 1), (.var 7), (.var 0)])))))) (.og (.ibin .gtr (.var 5) (.lit (.val (.int .i64 0)))) (.apick (.var 0) (.og (.sbin .add (.var 4) (.lit (.val (.string ⟨#[32]⟩)))) (.jump 0 [(.var 4), (.var 0), (.var 6), (.var 7)])) (.jump 0 [(.var 3), (.var 4), (.var 5), (.var 6)])))) (.og (.sbin .add (.var 3) (.lit (.val (.string ⟨#[41]⟩)))) (.ret (.var 0)))))) [(.var 9), (.lit (.val (.string ⟨#[40]⟩))), (.var 0), (.lit (.val (.int .i64 0)))])))))))))))
set_option maxRecDepth 1000000 in
theorem x42_ok : okF TT Tryz.f42 2 x42 = true := by decide +kernel
set_option maxRecDepth 1000000 in
theorem s_spec_l3Write_ok {a0 a1 : AV} {σ : AH} {R : AEnd → AH → Prop} (h : s_spec_l3Write a0 a1 σ R) : acall TP fn_spec_l3Write [a0, a1] σ R :=
  acall_okF (ρ := [a1, a0]) TT_ok Tryz.func42 rfl x42 x42_ok rfl h

/-- loop.example/g00349/spec.l9All -/
def s_spec_l9All (a0 : AV) (σ : AH) (R : AEnd → AH → Prop) : Prop :=
  og (anil a0) fun v4 =>
  og (fldA 1 v4) fun v5 =>
  og (lod v5 σ) fun v6 =>
  og (anil a0) fun v8 =>
  og (fldA 2 v8) fun v9 =>
  og (lod v9 σ) fun v10 =>
  og (anil a0) fun v12 =>
  og (fldA 3 v12) fun v13 =>
  og (lod v13 σ) fun v14 =>
  og (anil a0) fun v16 =>
  og (fldA 4 v16) fun v17 =>
  og (lod v17 σ) fun v18 =>
  og (bslR 1 [(.val (.int .i64 0))] 4 [(0, v6), (1, v10), (2, v14), (3, v18)]) fun v19 =>
  aret v19 σ R
def x43 : Sx := .ord [0, 1, 2, 3, 4, 5, 6, 7, 8, 9, 10, 11, 12, 13, 14, 15, 16, 17] [0, 1, 3, 7, 0, 16, 48, 112, 0, 256, 768, 1792, 0, 4096, 12288, 28672, 65535, 131071] (.og (.anil (.var 0)) (.og (.fldA 1 (.var 0)) (.og (.lod (.var 0)) (.og (.anil (.var 3)) (.og (.fldA 2 (.var 0)) (.og (.lod (.var 0)) (.og (.anil (.var 6)) (.og (.fldA 3 (.var 0)) (.og (.lod (.var 0)) (.og (.anil (.var 9)) (.og (.fldA 4 (.var 0)) (.og (.lod (.var 0)) (.og (.bslR 1 [(.val (.int .i64 0))] 4 [(0, (.var 9)), (1, (.var 6)), (2, (.var 3)), (3, (.var 0))]) (.ret (.var 0)))))))))))))))
set_option maxRecDepth 1000000 in
theorem x43_ok : okF TT Tryz.f43 1 x43 = true := by decide +kernel
set_option maxRecDepth 1000000 in
theorem s_spec_l9All_ok {a0 : AV} {σ : AH} {R : AEnd → AH → Prop} (h : s_spec_l9All a0 σ R) : acall TP fn_spec_l9All [a0] σ R :=
  acall_okF (ρ := [a0]) TT_ok Tryz.func43 rfl x43 x43_ok rfl h

/-- loop.example/g00349/spec.l9Nums -/
def s_spec_l9Nums (a0 : AV) (σ : AH) (R : AEnd → AH → Prop) : Prop :=
  jn (X := Tup [3, 4]) (fun x1 σ =>
      apick x1.2.1 (
        aret (.val (.int .i64 1)) σ R) (
        jn (X := Tup [3, 10]) (fun x2 σ =>
            apick x2.2.1 (
              aret (.val (.int .i64 2)) σ R) (
              og (ibin .eql x2.1 (.val (.int .i64 16))) fun v14 =>
              apick v14 (
                aret (.val (.int .i64 3)) σ R) (
                og (ibin .eql x2.1 (.val (.int .i64 15))) fun v16 =>
                apick v16 (
                  aret (.val (.int .i64 4)) σ R) (
                  aret (.val (.int .i64 0)) σ R)))) fun k2 =>
          og (ibin .eql x1.1 (.val (.int .i64 2))) fun v11 =>
          apick v11 (
            k2 (x1.1, v11, ()) σ) (
            og (ibin .eql x1.1 (.val (.int .i64 14))) fun v12 =>
            k2 (x1.1, v12, ()) σ))) fun k1 =>
    og (ibin .eql a0 (.val (.int .i64 4))) fun v5 =>
    apick v5 (
      k1 (a0, v5, ()) σ) (
      og (ibin .eql a0 (.val (.int .i64 5))) fun v6 =>
      apick v6 (
        k1 (a0, v6, ()) σ) (
        og (ibin .eql a0 (.val (.int .i64 6))) fun v7 =>
        apick v7 (
          k1 (a0, v7, ()) σ) (
          og (ibin .eql a0 (.val (.int .i64 10))) fun v8 =>
          apick v8 (
            k1 (a0, v8, ()) σ) (
            og (ibin .eql a0 (.val (.int .i64 11))) fun v9 =>
            k1 (a0, v9, ()) σ))))
def x44 : Sx := .jn 53 [3, 4] (.apick (.var 1) (.ret (.lit (.val (.int .i64 1)))) (.jn 215 [3, 10] (.apick (.var 1) (.ret (.lit (.val (.int .i64 2)))) (.og (.ibin .eql (.var 0) (.lit (.val (.int .i64 16)))) (.apick (.var 0) (.ret (.lit (.val (.int .i64 3)))) (.og (.ibin .eql (.var 1) (.lit (.val (.int .i64 15)))) (.apick (.var 0) (.ret (.lit (.val (.int .i64 4)))) (.ret (.lit (.val (.int .i64 0))))))))) (.og (.ibin .eql (.var 0) (.lit (.val (.int .i64 2)))) (.apick (.var 0) (.jump 0 [(.var 1), (.var 0)]) (.og (.ibin .eql (.var 1) (.lit (.val (.int .i64 14)))) (.jump 0 [(.var 2), (.var 0)])))))) (.og (.ibin .eql (.var 0) (.lit (.val (.int .i64 4)))) (.apick (.var 0) (.jump 0 [(.var 1), (.var 0)]) (.og (.ibin .eql (.var 1) (.lit (.val (.int .i64 5)))) (.apick (.var 0) (.jump 0 [(.var 2), (.var 0)]) (.og (.ibin .eql (.var 2) (.lit (.val (.int .i64 6)))) (.apick (.var 0) (.jump 0 [(.var 3), (.var 0)]) (.og (.ibin .eql (.var 3) (.lit (.val (.int .i64 10)))) (.apick (.var 0) (.jump 0 [(.var 4), (.var 0)]) (.og (.ibin .eql (.var 4) (.lit (.val (.int .i64 11)))) (.jump 0 [(.var 5), (.var 0)]))))))))))
set_option maxRecDepth 1000000 in
theorem x44_ok : okF TT Tryz.f44 1 x44 = true := by decide +kernel
set_option maxRecDepth 1000000 in
theorem s_spec_l9Nums_ok {a0 : AV} {σ : AH} {R : AEnd → AH → Prop} (h : s_spec_l9Nums a0 σ R) : acall TP fn_spec_l9Nums [a0] σ R :=
  acall_okF (ρ := [a0]) TT_ok Tryz.func44 rfl x44 x44_ok rfl h

/-- loop.example/g00349/laws.toOpS -/
def s_laws_toOpS (a0 : AV) (σ : AH) (R : AEnd → AH → Prop) : Prop :=
  og (lenS a0) fun v6 =>
  amake TT ty_LRiiiiisLRiiisEE v6 v6 σ fun v7 σ =>
  lp (X := Tup [0, 3, 4]) (fun R1 y1 σ =>
    og (lenS y1.1) fun v10 =>
    og (ibin .lss y1.2.2.1 v10) fun v11 =>
    apick v11 (
      og (idx 7 y1.1 y1.2.2.1 σ) fun v18 =>
      og (lodA 7 v18 σ) fun v19 =>
      acall TP fn_laws_toOp [v19] σ (onr (fun v20 σ =>
      og (idx 7 y1.2.1 y1.2.2.1 σ) fun v21 =>
      sto 7 v21 v20 σ fun σ =>
      og (ibin .add y1.2.2.1 (.val (.int .i64 1))) fun v13 =>
      R1 (y1.1, y1.2.1, v13, ()) σ) (fun v σ => apan v σ R))) (
      aret y1.2.1 σ R)) (a0, v7, (.val (.int .i64 0)), ()) σ
def x45 : Sx := .og (.lenS (.var 0)) (.mks 49 (.var 0) (.var 0) (.lp [0, 3, 4] (.og (.lenS (.var 0)) (.og (.ibin .lss (.var 3) (.var 0)) (.apick (.var 0) (.og (.idx 7 (.var 2) (.var 4)) (.og (.lodA 7 (.var 0)) (.call 71 [(.var 0)] (.og (.idx 7 (.var 6) (.var 7)) (.sto 7 (.var 0) (.var 1) (.og (.ibin .add (.var 8) (.lit (.val (.int .i64 1)))) (.jump 0 [(.var 7), (.var 8), (.var 0)]))))))) (.ret (.var 3))))) [(.var 2), (.var 0), (.lit (.val (.int .i64 0)))]))
set_option maxRecDepth 1000000 in
theorem x45_ok : okF TT Tryz.f45 1 x45 = true := by decide +kernel
set_option maxRecDepth 1000000 in
theorem s_laws_toOpS_ok {a0 : AV} {σ : AH} {R : AEnd → AH → Prop} (h : s_laws_toOpS a0 σ R) : acall TP fn_laws_toOpS [a0] σ R :=
  acall_okF (ρ := [a0]) TT_ok Tryz.func45 rfl x45 x45_ok rfl h

/-- loop.example/g00349/impl.blockFault -/
def s_impl_blockFault (a0 : AV) (σ : AH) (R : AEnd → AH → Prop) : Prop :=
  abox a0 σ fun v1 σ =>
  frz v1 σ fun f1 σ =>
  og (fldA 0 f1) fun v7 =>
  og (lod v7 σ) fun v8 =>
  acall TP fn_impl_in [v8, (.val (.int .i64 0)), (.val (.int .i64 3))] σ (onr (fun v9 σ =>
  og (aun .not v9) fun v10 =>
  apick v10 (
    aret (.val (.int .i64 3)) σ R) (
    og (fldA 1 f1) fun v12 =>
    og (lod v12 σ) fun v13 =>
    og (lenS v13) fun v14 =>
    og (ibin .gtr v14 (.val (.int .i64 200))) fun v15 =>
    apick v15 (
      aret (.val (.int .i64 2)) σ R) (
      og (fldA 1 f1) fun v16 =>
      og (lod v16 σ) fun v17 =>
      og (lenS v17) fun v18 =>
      lp (X := Tup [17, 18, 19]) (fun R1 y1 σ =>
        og (ibin .lss y1.2.2.1 y1.2.1) fun v20 =>
        apick v20 (
          og (idx 7 y1.1 y1.2.2.1 σ) fun v21 =>
          og (lodA 7 v21 σ) fun v22 =>
          new [(.val (.int .i64 0)), (.val (.int .i64 0)), (.val (.int .i64 0)), (.val (.int .i64 0)), (.val (.int .i64 0)), (.val (.string ⟨#[]⟩)), (.val (.slice none 0 0))] σ fun v4 σ =>
          sto 7 v4 v22 σ fun σ =>
          frz v4 σ fun f4 σ =>
          og (lodA 7 f4 σ) fun v23 =>
          acall TP fn_impl_OpFault [v23] σ (onr (fun v24 σ =>
          og (ibin .neq v24 (.val (.int .i64 0))) fun v26 =>
          apick v26 (
            aret v24 σ R) (
            og (ibin .add y1.2.2.1 (.val (.int .i64 1))) fun v28 =>
            R1 (y1.1, y1.2.1, v28, ()) σ)) (fun v σ => apan v σ R))) (
          aret (.val (.int .i64 0)) σ R)) (v17, v18, (.val (.int .i64 0)), ()) σ))) (fun v σ => apan v σ R))
def x46 : Sx := .box (.var 0) (.frz 1 (.var 0) (.og (.fldA 0 (.var 0)) (.og (.lod (.var 0)) (.call 72 [(.var 0), (.lit (.val (.int .i64 0))), (.lit (.val (.int .i64 3)))] (.og (.aun .not (.var 0)) (.apick (.var 0) (.ret (.lit (.val (.int .i64 3)))) (.og (.fldA 1 (.var 4)) (.og (.lod (.var 0)) (.og (.lenS (.var 0)) (.og (.ibin .gtr (.var 0) (.lit (.val (.int .i64 200)))) (.apick (.var 0) (.ret (.lit (.val (.int .i64 2)))) (.og (.fldA 1 (.var 8)) (.og (.lod (.var 0)) (.og (.lenS (.var 0)) (.lp [17, 18, 19] (.og (.ibin .lss (.var 2) (.var 1)) (.apick (.var 0) (.og (.idx 7 (.var 1) (.var 3)) (.og (.lodA 7 (.var 0)) (.new [(.val (.int .i64 0)), (.val (.int .i64 0)), (.val (.int .i64 0)), (.val (.int .i64 0)), (.val (.int .i64 0)), (.val (.string ⟨#[]⟩)), (.val (.slice none 0 0))] (.sto 7 (.var 0) (.var 1) (.frz 6 (.var 0) (.og (.lodA 7 (.var 0)) (.call 73 [(.var 0)] (.og (.ibin .neq (.var 0) (.lit (.val (.int .i64 0)))) (.apick (.var 0) (.ret (.var 1)) (.og (.ibin .add (.var 10) (.lit (.val (.int .i64 1)))) (.jump 0 [(.var 9), (.var 10), (.var 0)]))))))))))) (.ret (.lit (.val (.int .i64 0)))))) [(.var 1), (.var 0), (.lit (.val (.int .i64 0)))])))))))))))))))
set_option maxRecDepth 1000000 in
theorem x46_ok : okF TT Tryz.f46 1 x46 = true := by decide +kernel
set_option maxRecDepth 1000000 in
theorem s_impl_blockFault_ok {a0 : AV} {σ : AH} {R : AEnd → AH → Prop} (h : s_impl_blockFault a0 σ R) : acall TP fn_impl_blockFault [a0] σ R :=
  acall_okF (ρ := [a0]) TT_ok Tryz.func46 rfl x46 x46_ok rfl h

/-- loop.example/g00349/impl.opNamed -/
def s_impl_opNamed (a0 : AV) (σ : AH) (R : AEnd → AH → Prop) : Prop :=
  og (ibin .eql a0 (.val (.int .i64 3))) fun v4 =>
  og (gval v4 false false (some a0)) fun v6 =>
  og (gval v4 false false (ibin .eql v6 (.val (.int .i64 8)))) fun v7 =>
  og (pickV v4 (.val (.bool true)) v7) fun v8 =>
  og (gval v8 false false (some a0)) fun v10 =>
  og (gval v8 false false (ibin .eql v10 (.val (.int .i64 9)))) fun v11 =>
  og (pickV v8 (.val (.bool true)) v11) fun v12 =>
  aret v12 σ R
def x49 : Sx := .og (.ibin .eql (.var 0) (.lit (.val (.int .i64 3)))) (.gog (.var 0) false false (.ret (.var 1)) (.gog (.var 1) false false (.ibin .eql (.var 0) (.lit (.val (.int .i64 8)))) (.og (.pickV (.var 2) (.lit (.val (.bool true))) (.var 0)) (.gog (.var 0) false false (.ret (.var 4)) (.gog (.var 1) false false (.ibin .eql (.var 0) (.lit (.val (.int .i64 9)))) (.og (.pickV (.var 2) (.lit (.val (.bool true))) (.var 0)) (.ret (.var 0))))))))
set_option maxRecDepth 1000000 in
theorem x49_ok : okF TT Tryz.f49 1 x49 = true := by decide +kernel
set_option maxRecDepth 1000000 in
theorem s_impl_opNamed_ok {a0 : AV} {σ : AH} {R : AEnd → AH → Prop} (h : s_impl_opNamed a0 σ R) : acall TP fn_impl_opNamed [a0] σ R :=
  acall_okF (ρ := [a0]) TT_ok Tryz.func49 rfl x49 x49_ok rfl h

/-- loop.example/g00349/impl.opData -/
def s_impl_opData (a0 : AV) (σ : AH) (R : AEnd → AH → Prop) : Prop :=
  og (ibin .eql a0 (.val (.int .i64 1))) fun v4 =>
  og (gval v4 false false (some a0)) fun v6 =>
  og (gval v4 false false (ibin .eql v6 (.val (.int .i64 13)))) fun v7 =>
  og (pickV v4 (.val (.bool true)) v7) fun v8 =>
  aret v8 σ R
def x50 : Sx := .og (.ibin .eql (.var 0) (.lit (.val (.int .i64 1)))) (.gog (.var 0) false false (.ret (.var 1)) (.gog (.var 1) false false (.ibin .eql (.var 0) (.lit (.val (.int .i64 13)))) (.og (.pickV (.var 2) (.lit (.val (.bool true))) (.var 0)) (.ret (.var 0)))))
set_option maxRecDepth 1000000 in
theorem x50_ok : okF TT Tryz.f50 1 x50 = true := by decide +kernel
set_option maxRecDepth 1000000 in
theorem s_impl_opData_ok {a0 : AV} {σ : AH} {R : AEnd → AH → Prop} (h : s_impl_opData a0 σ R) : acall TP fn_impl_opData [a0] σ R :=
  acall_okF (ρ := [a0]) TT_ok Tryz.func50 rfl x50 x50_ok rfl h

/-- loop.example/g00349/impl.written -/
def s_impl_written (a0 a1 : AV) (σ : AH) (R : AEnd → AH → Prop) : Prop :=
  og (idx 4 a0 a1 σ) fun v11 =>
  og (lodA 4 v11 σ) fun v12 =>
  new [(.val (.int .i64 0)), (.val (.int .i64 0)), (.val (.int .i64 0)), (.val (.string ⟨#[]⟩))] σ fun v5 σ =>
  sto 4 v5 v12 σ fun σ =>
  frz v5 σ fun f5 σ =>
  og (fldA 0 f5) fun v13 =>
  og (lod v13 σ) fun v14 =>
  og (ibin .eql v14 (.val (.int .i64 1))) fun v16 =>
  apick v16 (
    og (fldA 2 f5) fun v17 =>
    og (lod v17 σ) fun v18 =>
    acall TP fn_impl_dec [v18] σ (onr (fun v19 σ =>
    aret v19 σ R) (fun v σ => apan v σ R))) (
    og (ibin .eql v14 (.val (.int .i64 2))) fun v21 =>
    apick v21 (
      og (fldA 2 f5) fun v22 =>
      og (lod v22 σ) fun v23 =>
      acall TP fn_impl_boolText [v23] σ (onr (fun v24 σ =>
      aret v24 σ R) (fun v σ => apan v σ R))) (
      og (ibin .eql v14 (.val (.int .i64 3))) fun v26 =>
      apick v26 (
        og (fldA 3 f5) fun v27 =>
        og (lod v27 σ) fun v28 =>
        aret v28 σ R) (
        bsl 1 [(.val (.string ⟨#[]⟩))] 0 [] σ fun v29 σ =>
        acall TP fn_impl_parts [a0, a1] σ (onr (fun v32 σ =>
        og (lenS v32) fun v33 =>
        lp (X := Tup [0, 6, 32, 33, 34]) (fun R1 y1 σ =>
          og (ibin .lss y1.2.2.2.2.1 y1.2.2.2.1) fun v35 =>
          apick v35 (
            og (idx 1 y1.2.2.1 y1.2.2.2.2.1 σ) fun v36 =>
            og (lod v36 σ) fun v37 =>
            acall TP fn_impl_written [y1.1, v37] σ (onr (fun v41 σ =>
            bsl 1 [(.val (.string ⟨#[]⟩))] 1 [(0, v41)] σ fun v42 σ =>
            app 1 y1.2.1 v42 σ fun v43 σ =>
            og (ibin .add y1.2.2.2.2.1 (.val (.int .i64 1))) fun v44 =>
            R1 (y1.1, v43, y1.2.2.1, y1.2.2.2.1, v44, ()) σ) (fun v σ => apan v σ R))) (
            acall TP fn_strings_Join [y1.2.1, (.val (.string ⟨#[32]⟩))] σ (onr (fun v46 σ =>
            og (sbin .add (.val (.string ⟨#[40]⟩)) v46) fun v47 =>
            og (sbin .add v47 (.val (.string ⟨#[41]⟩))) fun v48 =>
            aret v48 σ R) (fun v σ => apan v σ R)))) (a0, v29, v32, v33, (.val (.int .i64 0)), ()) σ) (fun v σ => apan v σ R)))))
def x51 : Sx := .og (.idx 4 (.var 1) (.var 0)) (.og (.lodA 4 (.var 0)) (.new [(.val (.int .i64 0)), (.val (.int .i64 0)), (.val (.int .i64 0)), (.val (.string ⟨#[]⟩))] (.sto 4 (.var 0) (.var 1) (.frz 4 (.var 0) (.og (.fldA 0 (.var 0)) (.og (.lod (.var 0)) (.og (.ibin .eql (.var 0) (.lit (.val (.int .i64 1)))) (.apick (.var 0) (.og (.fldA 2 (.var 3)) (.og (.lod (.var 0)) (.call 27 [(.var 0)] (.ret (.var 0))))) (.og (.ibin .eql (.var 1) (.lit (.val (.int .i64 2)))) (.apick (.var 0) (.og (.fldA 2 (.var 4)) (.og (.lod (.var 0)) (.call 76 [(.var 0)] (.ret (.var 0))))) (.og (.ibin .eql (.var 2) (.lit (.val (.int .i64 3)))) (.apick (.var 0) (.og (.fldA 3 (.var 5)) (.og (.lod (.var 0)) (.ret (.var 0)))) (.bsl 1 [(.val (.string ⟨#[]⟩))] 0 [] (.call 77 [(.var 11), (.var 10)] (.og (.lenS (.var 0)) (.lp [0, 6, 32, 33, 34] (.og (.ibin .lss (.var 4) (.var 3)) (.apick (.var 0) (.og (.idx 1 (.var 3) (.var 5)) (.og (.lod (.var 0)) (.call 51 [(.var 3), (.var 0)] (.bsl 1 [(.val (.string ⟨#[]⟩))] 1 [(0, (.var 0))] (.app 1 (.var 6) (.var 0) (.og (.ibin .add (.var 10) (.lit (.val (.int .i64 1)))) (.jump 0 [(.var 7), (.var 1), (.var 9), (.var 10), (.var 0)]))))))) (.call 53 [(.var 2), (.lit (.val (.string ⟨#[32]⟩)))] (.og (.sbin .add (.lit (.val (.string ⟨#[40]⟩))) (.var 0)) (.og (.sbin .add (.var 0) (.lit (.val (.string ⟨#[41]⟩)))) (.ret (.var 0))))))) [(.var 13), (.var 2), (.var 1), (.var 0), (.lit (.val (.int .i64 0)))]))))))))))))))))
set_option maxRecDepth 1000000 in
theorem x51_ok : okF TT Tryz.f51 2 x51 = true := by decide +kernel
set_option maxRecDepth 1000000 in
theorem s_impl_written_ok {a0 a1 : AV} {σ : AH} {R : AEnd → AH → Prop} (h : s_impl_written a0 a1 σ R) : acall TP fn_impl_written [a0, a1] σ R :=
  acall_okF (ρ := [a1, a0]) TT_ok Tryz.func51 rfl x51 x51_ok rfl h

/-- loop.example/g00349/impl.opNums -/
def s_impl_opNums (a0 : AV) (σ : AH) (R : AEnd → AH → Prop) : Prop :=
  jn (X := Tup [3, 4]) (fun x1 σ =>
      apick x1.2.1 (
        aret (.val (.int .i64 1)) σ R) (
        jn (X := Tup [3, 10]) (fun x2 σ =>
            apick x2.2.1 (
              aret (.val (.int .i64 2)) σ R) (
              og (ibin .eql x2.1 (.val (.int .i64 16))) fun v14 =>
              apick v14 (
                aret (.val (.int .i64 3)) σ R) (
                og (ibin .eql x2.1 (.val (.int .i64 15))) fun v16 =>
                apick v16 (
                  aret (.val (.int .i64 4)) σ R) (
                  aret (.val (.int .i64 0)) σ R)))) fun k2 =>
          og (ibin .eql x1.1 (.val (.int .i64 2))) fun v11 =>
          apick v11 (
            k2 (x1.1, v11, ()) σ) (
            og (ibin .eql x1.1 (.val (.int .i64 14))) fun v12 =>
            k2 (x1.1, v12, ()) σ))) fun k1 =>
    og (ibin .eql a0 (.val (.int .i64 4))) fun v5 =>
    apick v5 (
      k1 (a0, v5, ()) σ) (
      og (ibin .eql a0 (.val (.int .i64 5))) fun v6 =>
      apick v6 (
        k1 (a0, v6, ()) σ) (
        og (ibin .eql a0 (.val (.int .i64 6))) fun v7 =>
        apick v7 (
          k1 (a0, v7, ()) σ) (
          og (ibin .eql a0 (.val (.int .i64 10))) fun v8 =>
          apick v8 (
            k1 (a0, v8, ()) σ) (
            og (ibin .eql a0 (.val (.int .i64 11))) fun v9 =>
            k1 (a0, v9, ()) σ))))
def x52 : Sx := .jn 53 [3, 4] (.apick (.var 1) (.ret (.lit (.val (.int .i64 1)))) (.jn 215 [3, 10] (.apick (.var 1) (.ret (.lit (.val (.int .i64 2)))) (.og (.ibin .eql (.var 0) (.lit (.val (.int .i64 16)))) (.apick (.var 0) (.ret (.lit (.val (.int .i64 3)))) (.og (.ibin .eql (.var 1) (.lit (.val (.int .i64 15)))) (.apick (.var 0) (.ret (.lit (.val (.int .i64 4)))) (.ret (.lit (.val (.int .i64 0))))))))) (.og (.ibin .eql (.var 0) (.lit (.val (.int .i64 2)))) (.apick (.var 0) (.jump 0 [(.var 1), (.var 0)]) (.og (.ibin .eql (.var 1) (.lit (.val (.int .i64 14)))) (.jump 0 [(.var 2), (.var 0)])))))) (.og (.ibin .eql (.var 0) (.lit (.val (.int .i64 4)))) (.apick (.var 0) (.jump 0 [(.var 1), (.var 0)]) (.og (.ibin .eql (.var 1) (.lit (.val (.int .i64 5)))) (.apick (.var 0) (.jump 0 [(.var 2), (.var 0)]) (.og (.ibin .eql (.var 2) (.lit (.val (.int .i64 6)))) (.apick (.var 0) (.jump 0 [(.var 3), (.var 0)]) (.og (.ibin .eql (.var 3) (.lit (.val (.int .i64 10)))) (.apick (.var 0) (.jump 0 [(.var 4), (.var 0)]) (.og (.ibin .eql (.var 4) (.lit (.val (.int .i64 11)))) (.jump 0 [(.var 5), (.var 0)]))))))))))
set_option maxRecDepth 1000000 in
theorem x52_ok : okF TT Tryz.f52 1 x52 = true := by decide +kernel
set_option maxRecDepth 1000000 in
theorem s_impl_opNums_ok {a0 : AV} {σ : AH} {R : AEnd → AH → Prop} (h : s_impl_opNums a0 σ R) : acall TP fn_impl_opNums [a0] σ R :=
  acall_okF (ρ := [a0]) TT_ok Tryz.func52 rfl x52 x52_ok rfl h

/-- loop.example/g00349/laws.eqOpS -/
def s_laws_eqOpS (a0 a1 : AV) (σ : AH) (R : AEnd → AH → Prop) : Prop :=
  og (lenS a0) fun v7 =>
  og (lenS a1) fun v9 =>
  og (ibin .neq v7 v9) fun v10 =>
  apick v10 (
    aret (.val (.bool false)) σ R) (
    lp (X := Tup [0, 1, 5]) (fun R1 y1 σ =>
      og (lenS y1.1) fun v13 =>
      og (ibin .lss y1.2.2.1 v13) fun v14 =>
      apick v14 (
        og (idx 7 y1.1 y1.2.2.1 σ) fun v19 =>
        og (lodA 7 v19 σ) fun v20 =>
        og (idx 7 y1.2.1 y1.2.2.1 σ) fun v23 =>
        og (lodA 7 v23 σ) fun v24 =>
        acall TP fn_laws_eqOp [v20, v24] σ (onr (fun v25 σ =>
        (True) ∧
        og (aun .not v25) fun v26 =>
        apick v26 (
          aret (.val (.bool false)) σ R) (
          og (ibin .add y1.2.2.1 (.val (.int .i64 1))) fun v16 =>
          R1 (y1.1, y1.2.1, v16, ()) σ)) (fun v σ => apan v σ R))) (
        aret (.val (.bool true)) σ R)) (a0, a1, (.val (.int .i64 0)), ()) σ)
def x54 : Sx := .og (.lenS (.var 1)) (.og (.lenS (.var 1)) (.og (.ibin .neq (.var 1) (.var 0)) (.apick (.var 0) (.ret (.lit (.val (.bool false)))) (.lp [0, 1, 5] (.og (.lenS (.var 0)) (.og (.ibin .lss (.var 3) (.var 0)) (.apick (.var 0) (.ord [0, 1, 2, 3, 4, 5, 6, 7, 8, 9] [0, 0, 3, 7, 0, 0, 48, 112, 255, 511] (.og (.idx 7 (.var 2) (.var 4)) (.og (.lodA 7 (.var 0)) (.og (.idx 7 (.var 5) (.var 6)) (.og (.lodA 7 (.var 0)) (.call 79 [(.var 2), (.var 0)] (.wat [] (.og (.aun .not (.var 0)) (.apick (.var 0) (.ret (.lit (.val (.bool false)))) (.og (.ibin .add (.var 10) (.lit (.val (.int .i64 1)))) (.jump 0 [(.var 9), (.var 10), (.var 0)]))))))))))) (.ret (.lit (.val (.bool true))))))) [(.var 4), (.var 3), (.lit (.val (.int .i64 0)))]))))
set_option maxRecDepth 1000000 in
theorem x54_ok : okF TT Tryz.f54 2 x54 = true := by decide +kernel
set_option maxRecDepth 1000000 in
theorem s_laws_eqOpS_ok {a0 a1 : AV} {σ : AH} {R : AEnd → AH → Prop} (h : s_laws_eqOpS a0 a1 σ R) : acall TP fn_laws_eqOpS [a0, a1] σ R :=
  acall_okF (ρ := [a1, a0]) TT_ok Tryz.func54 rfl x54 x54_ok rfl h

/-- loop.example/g00349/laws.szOp -/
def s_laws_szOp (a0 a1 : AV) (σ : AH) (R : AEnd → AH → Prop) : Prop :=
  abox a0 σ fun v2 σ =>
  frz v2 σ fun f2 σ =>
  og (fldA 5 f2) fun v6 =>
  og (lod v6 σ) fun v7 =>
  og (lenStr v7) fun v8 =>
  og (ibin .sub a1 v8) fun v9 =>
  og (ibin .lss v9 (.val (.int .i64 0))) fun v11 =>
  apick v11 (
    aret (.val (.int .i64 (-1))) σ R) (
    og (fldA 6 f2) fun v12 =>
    og (lod v12 σ) fun v13 =>
    acall TP fn_laws_szDatumS [v13, v9] σ (onr (fun v15 σ =>
    og (ibin .lss v15 (.val (.int .i64 0))) fun v17 =>
    apick v17 (
      aret (.val (.int .i64 (-1))) σ R) (
      aret v15 σ R)) (fun v σ => apan v σ R)))
def x67 : Sx := .box (.var 1) (.frz 2 (.var 0) (.og (.fldA 5 (.var 0)) (.og (.lod (.var 0)) (.og (.lenStr (.var 0)) (.og (.ibin .sub (.var 5) (.var 0)) (.og (.ibin .lss (.var 0) (.lit (.val (.int .i64 0)))) (.apick (.var 0) (.ret (.lit (.val (.int .i64 (-1))))) (.og (.fldA 6 (.var 5)) (.og (.lod (.var 0)) (.call 95 [(.var 0), (.var 3)] (.og (.ibin .lss (.var 0) (.lit (.val (.int .i64 0)))) (.apick (.var 0) (.ret (.lit (.val (.int .i64 (-1))))) (.ret (.var 1))))))))))))))
set_option maxRecDepth 1000000 in
theorem x67_ok : okF TT Tryz.f67 2 x67 = true := by decide +kernel
set_option maxRecDepth 1000000 in
theorem s_laws_szOp_ok {a0 a1 : AV} {σ : AH} {R : AEnd → AH → Prop} (h : s_laws_szOp a0 a1 σ R) : acall TP fn_laws_szOp [a0, a1] σ R :=
  acall_okF (ρ := [a1, a0]) TT_ok Tryz.func67 rfl x67 x67_ok rfl h

/-- loop.example/g00349/spec.l1In -/
def s_spec_l1In (a0 a1 a2 : AV) (σ : AH) (R : AEnd → AH → Prop) : Prop :=
  og (ibin .geq a0 a1) fun v9 =>
  og (gval v9 true false (some a0)) fun v11 =>
  og (gval v9 true false (some a2)) fun v12 =>
  og (gval v9 true false (ibin .leq v11 v12)) fun v13 =>
  og (pickV v9 v13 (.val (.bool false))) fun v14 =>
  aret v14 σ R
def x68 : Sx := .og (.ibin .geq (.var 2) (.var 1)) (.gog (.var 0) true false (.ret (.var 3)) (.gog (.var 1) true false (.ret (.var 2)) (.gog (.var 2) true false (.ibin .leq (.var 1) (.var 0)) (.og (.pickV (.var 3) (.var 0) (.lit (.val (.bool false)))) (.ret (.var 0))))))
set_option maxRecDepth 1000000 in
theorem x68_ok : okF TT Tryz.f68 3 x68 = true := by decide +kernel
set_option maxRecDepth 1000000 in
theorem s_spec_l1In_ok {a0 a1 a2 : AV} {σ : AH} {R : AEnd → AH → Prop} (h : s_spec_l1In a0 a1 a2 σ R) : acall TP fn_spec_l1In [a0, a1, a2] σ R :=
  acall_okF (ρ := [a2, a1, a0]) TT_ok Tryz.func68 rfl x68 x68_ok rfl h

/-- loop.example/g00349/spec.l9Op -/
def s_spec_l9Op (a0 : AV) (σ : AH) (R : AEnd → AH → Prop) : Prop :=
  og (anil a0) fun v7 =>
  og (fldA 0 v7) fun v8 =>
  og (lod v8 σ) fun v9 =>
  acall TP fn_spec_l1In [v9, (.val (.int .i64 1)), (.val (.int .i64 16))] σ (onr (fun v10 σ =>
  og (aun .not v10) fun v11 =>
  apick v11 (
    aret (.val (.int .i64 1)) σ R) (
    acall TP fn_spec_l9All [a0] σ (onr (fun v13 σ =>
    og (anil a0) fun v15 =>
    og (fldA 0 v15) fun v16 =>
    og (lod v16 σ) fun v17 =>
    acall TP fn_spec_l9Nums [v17] σ (onr (fun v18 σ =>
    lp (X := Tup [0, 3, 4]) (fun R1 y1 σ =>
      og (ibin .lss y1.2.2.1 (.val (.int .i64 4))) fun v20 =>
      apick v20 (
        og (idx 1 y1.2.1 y1.2.2.1 σ) fun v25 =>
        og (lod v25 σ) fun v26 =>
        og (ibin .neq v26 (.val (.int .i64 0))) fun v27 =>
        apick v27 (
          aret (.val (.int .i64 1)) σ R) (
          og (ibin .add y1.2.2.1 (.val (.int .i64 1))) fun v22 =>
          R1 (y1.1, y1.2.1, v22, ()) σ)) (
        jn (X := Tup [0, 3, 56]) (fun x2 σ =>
            apick x2.2.2.1 (
              aret (.val (.int .i64 1)) σ R) (
              lp (X := Tup [0, 3, 5]) (fun R3 y3 σ =>
                og (ibin .lss y3.2.2.1 (.val (.int .i64 4))) fun v58 =>
                apick v58 (
                  og (idx 1 y3.2.1 y3.2.2.1 σ) fun v63 =>
                  og (lod v63 σ) fun v64 =>
                  acall TP fn_spec_l1In [v64, (.val (.int .i64 0)), (.val (.int .i64 999))] σ (onr (fun v65 σ =>
                  og (aun .not v65) fun v66 =>
                  apick v66 (
                    aret (.val (.int .i64 3)) σ R) (
                    og (ibin .add y3.2.2.1 (.val (.int .i64 1))) fun v60 =>
                    R3 (y3.1, y3.2.1, v60, ()) σ)) (fun v σ => apan v σ R))) (
                  og (anil y3.1) fun v68 =>
                  og (fldA 0 v68) fun v69 =>
                  og (lod v69 σ) fun v70 =>
                  og (ibin .eql v70 (.val (.int .i64 10))) fun v71 =>
                  og (gval v71 false false (some y3.1)) fun v73 =>
                  og (gval v71 false false (anil v73)) fun v74 =>
                  og (gval v71 false false (fldA 0 v74)) fun v75 =>
                  og (gval v71 false false (lod v75 σ)) fun v76 =>
                  og (gval v71 false false (ibin .eql v76 (.val (.int .i64 11)))) fun v77 =>
                  og (pickV v71 (.val (.bool true)) v77) fun v78 =>
                  og (gval v78 true false (some y3.1)) fun v80 =>
                  og (gval v78 true false (anil v80)) fun v81 =>
                  og (gval v78 true false (fldA 1 v81)) fun v82 =>
                  og (gval v78 true false (lod v82 σ)) fun v83 =>
                  og (gval v78 true false (ibin .gtr v83 (.val (.int .i64 3)))) fun v84 =>
                  og (pickV v78 v84 (.val (.bool false))) fun v85 =>
                  apick v85 (
                    aret (.val (.int .i64 3)) σ R) (
                    jn (X := Tup [0, 98]) (fun x4 σ =>
                        apick x4.2.1 (
                          aret (.val (.int .i64 5)) σ R) (
                          og (anil x4.1) fun v100 =>
                          og (fldA 0 v100) fun v101 =>
                          og (lod v101 σ) fun v102 =>
                          acall TP fn_spec_l9Const [v102] σ (onr (fun v103 σ =>
                          apick v103 (
                            og (anil x4.1) fun v105 =>
                            og (fldA 6 v105) fun v106 =>
                            og (lod v106 σ) fun v107 =>
                            acall TP fn_spec_l3Fault [v107] σ (onr (fun v108 σ =>
                            aret v108 σ R) (fun v σ => apan v σ R))) (
                            aret (.val (.int .i64 0)) σ R)) (fun v σ => apan v σ R)))) fun k4 =>
                      og (anil y3.1) fun v87 =>
                      og (fldA 0 v87) fun v88 =>
                      og (lod v88 σ) fun v89 =>
                      acall TP fn_spec_l9Named [v89] σ (onr (fun v90 σ =>
                      og (gval v90 true false (some y3.1)) fun v92 =>
                      og (gval v90 true false (anil v92)) fun v93 =>
                      og (gval v90 true false (fldA 5 v93)) fun v94 =>
                      og (gval v90 true false (lod v94 σ)) fun v95 =>
                      gpick v90 (
                        acall TP fn_spec_l2Sym [v95] σ (onr (fun v96 σ =>
                        og (aun .not v96) fun v97 =>
                        k4 (y3.1, v97, ()) σ) (fun v σ => apan v σ R))) (
                        k4 (y3.1, (.val (.bool false)), ()) σ) (False)) (fun v σ => apan v σ R))))) (x2.1, x2.2.1, (.val (.int .i64 0)), ()) σ)) fun k2 =>
          og (anil y1.1) fun v29 =>
          og (fldA 0 v29) fun v30 =>
          og (lod v30 σ) fun v31 =>
          acall TP fn_spec_l9Named [v31] σ (onr (fun v32 σ =>
          og (aun .not v32) fun v33 =>
          og (gval v33 true false (some y1.1)) fun v35 =>
          og (gval v33 true false (anil v35)) fun v36 =>
          og (gval v33 true false (fldA 5 v36)) fun v37 =>
          og (gval v33 true false (lod v37 σ)) fun v38 =>
          og (gval v33 true false (sbin .neq v38 (.val (.string ⟨#[]⟩)))) fun v39 =>
          og (pickV v33 v39 (.val (.bool false))) fun v40 =>
          og (gval v40 false false (some y1.1)) fun v42 =>
          og (gval v40 false false (anil v42)) fun v43 =>
          og (gval v40 false false (fldA 0 v43)) fun v44 =>
          og (gval v40 false false (lod v44 σ)) fun v45 =>
          gpick v40 (
            k2 (y1.1, y1.2.1, (.val (.bool true)), ()) σ) (
            acall TP fn_spec_l9Const [v45] σ (onr (fun v46 σ =>
            og (aun .not v46) fun v47 =>
            og (gval v47 true true (some y1.1)) fun v49 =>
            og (gval v47 true true (anil v49)) fun v50 =>
            og (gval v47 true true (fldA 6 v50)) fun v51 =>
            og (gval v47 true true (lod v51 σ)) fun v52 =>
            og (gval v47 true true (lenS v52)) fun v53 =>
            og (gval v47 true true (ibin .gtr v53 (.val (.int .i64 0)))) fun v54 =>
            og (pickV v47 v54 (.val (.bool false))) fun v55 =>
            k2 (y1.1, y1.2.1, v55, ()) σ) (fun v σ => apan v σ R))) (False)) (fun v σ => apan v σ R)))) (a0, v13, v18, ()) σ) (fun v σ => apan v σ R))) (fun v σ => apan v σ R)))) (fun v σ => apan v σ R))
def x69 : Sx := .og (.anil (.var 0)) (.og (.fldA 0 (.var 0)) (.og (.lod (.var 0)) (.call 68 [(.var 0), (.lit (.val (.int .i64 1))), (.lit (.val (.int .i64 16)))] (.og (.aun .not (.var 0)) (.apick (.var 0) (.ret (.lit (.val (.int .i64 1)))) (.call 43 [(.var 5)] (.og (.anil (.var 6)) (.og (.fldA 0 (.var 0)) (.og (.lod (.var 0)) (.call 44 [(.var 0)] (.lp [0, 3, 4] (.og (.ibin .lss (.var 2) (.lit (.val (.int .i64 4)))) (.apick (.var 0) (.og (.idx 1 (.var 2) (.var 3)) (.og (.lod (.var 0)) (.og (.ibin .neq (.var 0) (.lit (.val (.int .i64 0)))) (.apick (.var 0) (.ret (.lit (.val (.int .i64 1)))) (.og (.ibin .add (.var 6) (.lit (.val (.int .i64 1)))) (.jump 0 [(.var 5), (.var 6), (.var 0)])))))) (.jn 125 [0, 3, 56] (.apick (.var 2) (.ret (.lit (.val (.int .i64 1)))) (.lp [0, 3, 5] (.og (.ibin .lss (.var 2) (.lit (.val (.int .i64 4)))) (.apick (.var 0) (.og (.idx 1 (.var 2) (.var 3)) (.og (.lod (.var 0)) (.call 68 [(.var 0), (.lit (.val (.int .i64 0))), (.lit (.val (.int .i64 999)))] (.og (.aun .not (.var 0)) (.apick (.var 0) (.ret (.lit (.val (.int .i64 3)))) (.og (.ibin .add (.var 7) (.lit (.val (.int .i64 1)))) (.jump 0 [(.var 6), (.var 7), (.var 0)]))))))) (.og (.anil (.var 1)) (.og (.fldA 0 (.var 0)) (.og (.lod (.var 0)) (.og (.ibin .eql (.var 0) (.lit (.val (.int .i64 10)))) (.gog (.var 0) false false (.ret (.var 5)) (.gog (.var 1) false false (.anil (.var 0)) (.gog (.var 2) false false (.fldA 0 (.var 0)) (.gog (.var 3) false false (.lod (.var 0)) (.gog (.var 4) false false (.ibin .eql (.var 0) (.lit (.val (.int .i64 11)))) (.og (.pickV (.var 5) (.lit (.val (.bool true))) (.var 0)) (.gog (.var 0) true false (.ret (.var 11)) (.gog (.var 1) true false (.anil (.var 0)) (.gog (.var 2) true false (.fldA 1 (.var 0)) (.gog (.var 3) true false (.lod (.var 0)) (.gog (.var 4) true false (.ibin .gtr (.var 0) (.lit (.val (.int .i64 3)))) (.og (.pickV (.var 5) (.var 0) (.lit (.val (.bool false)))) (.apick (.var 0) (.ret (.lit (.val (.int .i64 3)))) (.jn 1021 [0, 98] (.apick (.var 1) (.ret (.lit (.val (.int .i64 5)))) (.og (.anil (.var 0)) (.og (.fldA 0 (.var 0)) (.og (.lod (.var 0)) (.call 41 [(.var 0)] (.apick (.var 0) (.og (.anil (.var 4)) (.og (.fldA 6 (.var 0)) (.og (.lod (.var 0)) (.call 97 [(.var 0)] (.ret (.var 0)))))) (.ret (.lit (.val (.int .i64 0)))))))))) (.og (.anil (.var 17)) (.og (.fldA 0 (.var 0)) (.og (.lod (.var 0)) (.call 40 [(.var 0)] (.gog (.var 0) true false (.ret (.var 21)) (.gog (.var 1) true false (.anil (.var 0)) (.gog (.var 2) true false (.fldA 5 (.var 0)) (.gog (.var 3) true false (.lod (.var 0)) (.gpick (.var 4) (.call 96 [(.var 0)] (.og (.aun .not (.var 0)) (.jump 0 [(.var 27), (.var 0)]))) (.jump 0 [(.var 25), (.lit (.val (.bool false)))]) (.no)))))))))))))))))))))))))))))) [(.var 0), (.var 1), (.lit (.val (.int .i64 0)))])) (.og (.anil (.var 1)) (.og (.fldA 0 (.var 0)) (.og (.lod (.var 0)) (.call 40 [(.var 0)] (.og (.aun .not (.var 0)) (.gog (.var 0) true false (.ret (.var 6)) (.gog (.var 1) true false (.anil (.var 0)) (.gog (.var 2) true false (.fldA 5 (.var 0)) (.gog (.var 3) true false (.lod (.var 0)) (.gog (.var 4) true false (.sbin .neq (.var 0) (.lit (.val (.string ⟨#[]⟩)))) (.og (.pickV (.var 5) (.var 0) (.lit (.val (.bool false)))) (.gog (.var 0) false false (.ret (.var 12)) (.gog (.var 1) false false (.anil (.var 0)) (.gog (.var 2) false false (.fldA 0 (.var 0)) (.gog (.var 3) false false (.lod (.var 0)) (.gpick (.var 4) (.jump 0 [(.var 16), (.var 17), (.lit (.val (.bool true)))]) (.call 41 [(.var 0)] (.og (.aun .not (.var 0)) (.gog (.var 0) true true (.ret (.var 18)) (.gog (.var 1) true true (.anil (.var 0)) (.gog (.var 2) true true (.fldA 6 (.var 0)) (.gog (.var 3) true true (.lod (.var 0)) (.gog (.var 4) true true (.lenS (.var 0)) (.gog (.var 5) true true (.ibin .gtr (.var 0) (.lit (.val (.int .i64 0)))) (.og (.pickV (.var 6) (.var 0) (.lit (.val (.bool false)))) (.jump 0 [(.var 25), (.var 26), (.var 0)])))))))))) (.no)))))))))))))))))))) [(.var 10), (.var 4), (.var 0)])))))))))))
set_option maxRecDepth 1000000 in
theorem x69_ok : okF TT Tryz.f69 1 x69 = true := by decide +kernel
set_option maxRecDepth 1000000 in
theorem s_spec_l9Op_ok {a0 : AV} {σ : AH} {R : AEnd → AH → Prop} (h : s_spec_l9Op a0 σ R) : acall TP fn_spec_l9Op [a0] σ R :=
  acall_okF (ρ := [a0]) TT_ok Tryz.func69 rfl x69 x69_ok rfl h

/-- loop.example/g00349/spec.l3Parts -/
def s_spec_l3Parts (a0 a1 : AV) (σ : AH) (R : AEnd → AH → Prop) : Prop :=
  bsl 1 [(.val (.int .i64 0))] 0 [] σ fun v7 σ =>
  lp (X := Tup [0, 1, 5, 6]) (fun R1 y1 σ =>
    og (lenS y1.1) fun v10 =>
    og (ibin .lss y1.2.2.2.1 v10) fun v11 =>
    apick v11 (
      jn (X := Tup [0, 1, 5, 6]) (fun x2 σ =>
          og (ibin .add x2.2.2.2.1 (.val (.int .i64 1))) fun v13 =>
          R1 (x2.1, x2.2.1, x2.2.2.1, v13, ()) σ) fun k2 =>
        og (idx 4 y1.1 y1.2.2.2.1 σ) fun v16 =>
        og (fldA 1 v16) fun v17 =>
        og (lod v17 σ) fun v18 =>
        og (ibin .eql v18 y1.2.1) fun v20 =>
        apick v20 (
          bsl 1 [(.val (.int .i64 0))] 1 [(0, y1.2.2.2.1)] σ fun v23 σ =>
          app 1 y1.2.2.1 v23 σ fun v24 σ =>
          k2 (y1.1, y1.2.1, v24, y1.2.2.2.1, ()) σ) (
          k2 (y1.1, y1.2.1, y1.2.2.1, y1.2.2.2.1, ()) σ)) (
      aret y1.2.2.1 σ R)) (a0, a1, v7, (.val (.int .i64 0)), ()) σ
def x70 : Sx := .bsl 1 [(.val (.int .i64 0))] 0 [] (.lp [0, 1, 5, 6] (.og (.lenS (.var 0)) (.og (.ibin .lss (.var 4) (.var 0)) (.apick (.var 0) (.jn 467 [0, 1, 5, 6] (.og (.ibin .add (.var 3) (.lit (.val (.int .i64 1)))) (.jump 0 [(.var 1), (.var 2), (.var 3), (.var 0)])) (.og (.idx 4 (.var 2) (.var 5)) (.og (.fldA 1 (.var 0)) (.og (.lod (.var 0)) (.og (.ibin .eql (.var 0) (.var 6)) (.apick (.var 0) (.bsl 1 [(.val (.int .i64 0))] 1 [(0, (.var 9))] (.app 1 (.var 9) (.var 0) (.jump 0 [(.var 8), (.var 9), (.var 0), (.var 11)]))) (.jump 0 [(.var 6), (.var 7), (.var 8), (.var 9)]))))))) (.ret (.var 4))))) [(.var 2), (.var 1), (.var 0), (.lit (.val (.int .i64 0)))])
set_option maxRecDepth 1000000 in
theorem x70_ok : okF TT Tryz.f70 2 x70 = true := by decide +kernel
set_option maxRecDepth 1000000 in
theorem s_spec_l3Parts_ok {a0 a1 : AV} {σ : AH} {R : AEnd → AH → Prop} (h : s_spec_l3Parts a0 a1 σ R) : acall TP fn_spec_l3Parts [a0, a1] σ R :=
  acall_okF (ρ := [a1, a0]) TT_ok Tryz.func70 rfl x70 x70_ok rfl h

/-- loop.example/g00349/laws.toOp -/
def s_laws_toOp (a0 : AV) (σ : AH) (R : AEnd → AH → Prop) : Prop :=
  abox a0 σ fun v1 σ =>
  new [(.val (.int .i64 0)), (.val (.int .i64 0)), (.val (.int .i64 0)), (.val (.int .i64 0)), (.val (.int .i64 0)), (.val (.string ⟨#[]⟩)), (.val (.slice none 0 0))] σ fun v2 σ =>
  frz v1 σ fun f1 σ =>
  new [(.val (.int .i64 0)), (.val (.int .i64 0)), (.val (.int .i64 0)), (.val (.int .i64 0)), (.val (.int .i64 0)), (.val (.string ⟨#[]⟩)), (.val (.slice none 0 0))] σ fun v3 σ =>
  og (fldA 0 f1) fun v4 =>
  og (lod v4 σ) fun v5 =>
  og (fldA 0 v3) fun v6 =>
  sto 1 v6 v5 σ fun σ =>
  og (fldA 1 f1) fun v7 =>
  og (lod v7 σ) fun v8 =>
  og (fldA 1 v3) fun v9 =>
  sto 1 v9 v8 σ fun σ =>
  og (fldA 2 f1) fun v10 =>
  og (lod v10 σ) fun v11 =>
  og (fldA 2 v3) fun v12 =>
  sto 1 v12 v11 σ fun σ =>
  og (fldA 3 f1) fun v13 =>
  og (lod v13 σ) fun v14 =>
  og (fldA 3 v3) fun v15 =>
  sto 1 v15 v14 σ fun σ =>
  og (fldA 4 f1) fun v16 =>
  og (lod v16 σ) fun v17 =>
  og (fldA 4 v3) fun v18 =>
  sto 1 v18 v17 σ fun σ =>
  og (fldA 5 f1) fun v19 =>
  og (lod v19 σ) fun v20 =>
  og (fldA 5 v3) fun v21 =>
  sto 1 v21 v20 σ fun σ =>
  og (fldA 6 f1) fun v22 =>
  og (lod v22 σ) fun v23 =>
  acall TP fn_laws_toDatumS [v23] σ (onr (fun v24 σ =>
  og (fldA 6 v3) fun v25 =>
  sto 1 v25 v24 σ fun σ =>
  frz v3 σ fun f3 σ =>
  og (lodA 7 f3 σ) fun v26 =>
  sto 7 v2 v26 σ fun σ =>
  og (lodA 7 v2 σ) fun r2 =>
  aret r2 σ R) (fun v σ => apan v σ R))
def x71 : Sx := .box (.var 0) (.new [(.val (.int .i64 0)), (.val (.int .i64 0)), (.val (.int .i64 0)), (.val (.int .i64 0)), (.val (.int .i64 0)), (.val (.string ⟨#[]⟩)), (.val (.slice none 0 0))] (.frz 1 (.var 1) (.new [(.val (.int .i64 0)), (.val (.int .i64 0)), (.val (.int .i64 0)), (.val (.int .i64 0)), (.val (.int .i64 0)), (.val (.string ⟨#[]⟩)), (.val (.slice none 0 0))] (.og (.fldA 0 (.var 1)) (.og (.lod (.var 0)) (.og (.fldA 0 (.var 2)) (.sto 1 (.var 0) (.var 1) (.og (.fldA 1 (.var 4)) (.og (.lod (.var 0)) (.og (.fldA 1 (.var 5)) (.sto 1 (.var 0) (.var 1) (.og (.fldA 2 (.var 7)) (.og (.lod (.var 0)) (.og (.fldA 2 (.var 8)) (.sto 1 (.var 0) (.var 1) (.og (.fldA 3 (.var 10)) (.og (.lod (.var 0)) (.og (.fldA 3 (.var 11)) (.sto 1 (.var 0) (.var 1) (.og (.fldA 4 (.var 13)) (.og (.lod (.var 0)) (.og (.fldA 4 (.var 14)) (.sto 1 (.var 0) (.var 1) (.og (.fldA 5 (.var 16)) (.og (.lod (.var 0)) (.og (.fldA 5 (.var 17)) (.sto 1 (.var 0) (.var 1) (.og (.fldA 6 (.var 19)) (.og (.lod (.var 0)) (.call 98 [(.var 0)] (.og (.fldA 6 (.var 21)) (.sto 1 (.var 0) (.var 1) (.frz 4 (.var 22) (.og (.lodA 7 (.var 0)) (.sto 7 (.var 26) (.var 0) (.og (.lodA 7 (.var 26)) (.ret (.var 0))))))))))))))))))))))))))))))))))))))
set_option maxRecDepth 1000000 in
theorem x71_ok : okF TT Tryz.f71 1 x71 = true := by decide +kernel
set_option maxRecDepth 1000000 in
theorem s_laws_toOp_ok {a0 : AV} {σ : AH} {R : AEnd → AH → Prop} (h : s_laws_toOp a0 σ R) : acall TP fn_laws_toOp [a0] σ R :=
  acall_okF (ρ := [a0]) TT_ok Tryz.func71 rfl x71 x71_ok rfl h

/-- loop.example/g00349/impl.in -/
def s_impl_in (a0 a1 a2 : AV) (σ : AH) (R : AEnd → AH → Prop) : Prop :=
  og (ibin .leq a1 a0) fun v9 =>
  og (gval v9 true false (some a0)) fun v11 =>
  og (gval v9 true false (some a2)) fun v12 =>
  og (gval v9 true false (ibin .leq v11 v12)) fun v13 =>
  og (pickV v9 v13 (.val (.bool false))) fun v14 =>
  aret v14 σ R
def x72 : Sx := .og (.ibin .leq (.var 1) (.var 2)) (.gog (.var 0) true false (.ret (.var 3)) (.gog (.var 1) true false (.ret (.var 2)) (.gog (.var 2) true false (.ibin .leq (.var 1) (.var 0)) (.og (.pickV (.var 3) (.var 0) (.lit (.val (.bool false)))) (.ret (.var 0))))))
set_option maxRecDepth 1000000 in
theorem x72_ok : okF TT Tryz.f72 3 x72 = true := by decide +kernel
set_option maxRecDepth 1000000 in
theorem s_impl_in_ok {a0 a1 a2 : AV} {σ : AH} {R : AEnd → AH → Prop} (h : s_impl_in a0 a1 a2 σ R) : acall TP fn_impl_in [a0, a1, a2] σ R :=
  acall_okF (ρ := [a2, a1, a0]) TT_ok Tryz.func72 rfl x72 x72_ok rfl h

/-- loop.example/g00349/impl.OpFault -/
def s_impl_OpFault (a0 : AV) (σ : AH) (R : AEnd → AH → Prop) : Prop :=
  abox a0 σ fun v1 σ =>
  frz v1 σ fun f1 σ =>
  og (fldA 1 f1) fun v5 =>
  og (lod v5 σ) fun v6 =>
  og (fldA 2 f1) fun v7 =>
  og (lod v7 σ) fun v8 =>
  og (fldA 3 f1) fun v9 =>
  og (lod v9 σ) fun v10 =>
  og (fldA 4 f1) fun v11 =>
  og (lod v11 σ) fun v12 =>
  bsl 1 [(.val (.int .i64 0))] 4 [(0, v6), (1, v8), (2, v10), (3, v12)] σ fun v13 σ =>
  frz v13 σ fun f13 σ =>
  jn (X := Tup [1, 3, 14]) (fun x1 σ =>
      apick x1.2.2.1 (
        aret (.val (.int .i64 1)) σ R) (
        acall TP fn_slices_ContainsFunc [x1.2.1, (.clo (.func fn_impl_OpFault_2) [] [])] σ (onr (fun v53 σ =>
        og (gval v53 false false (fldA 0 x1.1)) fun v55 =>
        og (gval v53 false false (lod v55 σ)) fun v56 =>
        og (gval v53 false false (ibin .eql v56 (.val (.int .i64 10)))) fun v57 =>
        og (gval v53 false false (some v57)) fun v58 =>
        og (gval v58 false true (fldA 0 x1.1)) fun v59 =>
        og (gval v58 false true (lod v59 σ)) fun v60 =>
        og (gval v58 false true (ibin .eql v60 (.val (.int .i64 11)))) fun v61 =>
        og (gval v53 false false (pickV v58 (.val (.bool true)) v61)) fun v62 =>
        og (gval v53 false false (some v62)) fun v63 =>
        og (gval v63 true true (fldA 1 x1.1)) fun v64 =>
        og (gval v63 true true (lod v64 σ)) fun v65 =>
        og (gval v63 true true (ibin .gtr v65 (.val (.int .i64 3)))) fun v66 =>
        og (gval v53 false false (pickV v63 v66 (.val (.bool false)))) fun v67 =>
        og (pickV v53 (.val (.bool true)) v67) fun v68 =>
        apick v68 (
          aret (.val (.int .i64 3)) σ R) (
          og (fldA 0 x1.1) fun v70 =>
          og (lod v70 σ) fun v71 =>
          acall TP fn_impl_opNamed [v71] σ (onr (fun v72 σ =>
          apick v72 (
            og (fldA 5 x1.1) fun v73 =>
            og (lod v73 σ) fun v74 =>
            acall TP fn_impl_SymFault [v74] σ (onr (fun v75 σ =>
            aret v75 σ R) (fun v σ => apan v σ R))) (
            og (fldA 0 x1.1) fun v77 =>
            og (lod v77 σ) fun v78 =>
            acall TP fn_impl_opData [v78] σ (onr (fun v79 σ =>
            apick v79 (
              og (fldA 6 x1.1) fun v80 =>
              og (lod v80 σ) fun v81 =>
              acall TP fn_impl_DataFault [v81] σ (onr (fun v82 σ =>
              aret v82 σ R) (fun v σ => apan v σ R))) (
              aret (.val (.int .i64 0)) σ R)) (fun v σ => apan v σ R)))) (fun v σ => apan v σ R)))) (fun v σ => apan v σ R)))) fun k1 =>
    og (fldA 0 f1) fun v15 =>
    og (lod v15 σ) fun v16 =>
    acall TP fn_impl_in [v16, (.val (.int .i64 1)), (.val (.int .i64 16))] σ (onr (fun v17 σ =>
    og (aun .not v17) fun v18 =>
    og (gval v18 false false (some f13)) fun v20 =>
    og (gval v18 false false (fldA 0 f1)) fun v21 =>
    og (gval v18 false false (lod v21 σ)) fun v22 =>
    gpick v18 (
      k1 (f1, f13, (.val (.bool true)), ()) σ) (
      acall TP fn_impl_opNums [v22] σ (onr (fun v23 σ =>
      og (slc 1 v20 (some v23) none none σ) fun v24 =>
      acall TP fn_slices_ContainsFunc [v24, (.clo (.func fn_impl_OpFault_1) [] [])] σ (onr (fun v26 σ =>
      og (gval v26 false false (fldA 5 f1)) fun v29 =>
      og (gval v26 false false (lod v29 σ)) fun v30 =>
      og (gval v26 false false (sbin .neq v30 (.val (.string ⟨#[]⟩)))) fun v31 =>
      og (gval v26 false false (some v31)) fun v32 =>
      og (gval v32 true true (fldA 0 f1)) fun v33 =>
      og (gval v32 true true (lod v33 σ)) fun v34 =>
      gpick v32 (
        acall TP fn_impl_opNamed [v34] σ (onr (fun v35 σ =>
        og (aun .not v35) fun v36 =>
        og (gval v26 false false (some v36)) fun v37 =>
        og (pickV v26 (.val (.bool true)) v37) fun v38 =>
        og (gval v38 false false (fldA 6 f1)) fun v40 =>
        og (gval v38 false false (lod v40 σ)) fun v41 =>
        og (gval v38 false false (lenS v41)) fun v42 =>
        og (gval v38 false false (ibin .gtr v42 (.val (.int .i64 0)))) fun v43 =>
        og (gval v38 false false (some v43)) fun v44 =>
        og (gval v44 true true (fldA 0 f1)) fun v45 =>
        og (gval v44 true true (lod v45 σ)) fun v46 =>
        gpick v44 (
          acall TP fn_impl_opData [v46] σ (onr (fun v47 σ =>
          og (aun .not v47) fun v48 =>
          og (gval v38 false false (some v48)) fun v49 =>
          og (pickV v38 (.val (.bool true)) v49) fun v50 =>
          k1 (f1, f13, v50, ()) σ) (fun v σ => apan v σ R))) (
          og (gval v38 false false (some (.val (.bool false)))) fun v49 =>
          og (pickV v38 (.val (.bool true)) v49) fun v50 =>
          k1 (f1, f13, v50, ()) σ) (
          og (gval v38 false false (pickV (.tup []) (.tup []) (.val (.bool false)))) fun v49 =>
          og (pickV v38 (.val (.bool true)) v49) fun v50 =>
          k1 (f1, f13, v50, ()) σ)) (fun v σ => apan v σ R))) (
        og (gval v26 false false (some (.val (.bool false)))) fun v37 =>
        og (pickV v26 (.val (.bool true)) v37) fun v38 =>
        og (gval v38 false false (fldA 6 f1)) fun v40 =>
        og (gval v38 false false (lod v40 σ)) fun v41 =>
        og (gval v38 false false (lenS v41)) fun v42 =>
        og (gval v38 false false (ibin .gtr v42 (.val (.int .i64 0)))) fun v43 =>
        og (gval v38 false false (some v43)) fun v44 =>
        og (gval v44 true true (fldA 0 f1)) fun v45 =>
        og (gval v44 true true (lod v45 σ)) fun v46 =>
        gpick v44 (
          acall TP fn_impl_opData [v46] σ (onr (fun v47 σ =>
          og (aun .not v47) fun v48 =>
          og (gval v38 false false (some v48)) fun v49 =>
          og (pickV v38 (.val (.bool true)) v49) fun v50 =>
          k1 (f1, f13, v50, ()) σ) (fun v σ => apan v σ R))) (
          og (gval v38 false false (some (.val (.bool false)))) fun v49 =>
          og (pickV v38 (.val (.bool true)) v49) fun v50 =>
          k1 (f1, f13, v50, ()) σ) (
          og (gval v38 false false (pickV (.tup []) (.tup []) (.val (.bool false)))) fun v49 =>
          og (pickV v38 (.val (.bool true)) v49) fun v50 =>
          k1 (f1, f13, v50, ()) σ)) (
        og (gval v26 false false (pickV (.tup []) (.tup []) (.val (.bool false)))) fun v37 =>
        og (pickV v26 (.val (.bool true)) v37) fun v38 =>
        og (gval v38 false false (fldA 6 f1)) fun v40 =>
        og (gval v38 false false (lod v40 σ)) fun v41 =>
        og (gval v38 false false (lenS v41)) fun v42 =>
        og (gval v38 false false (ibin .gtr v42 (.val (.int .i64 0)))) fun v43 =>
        og (gval v38 false false (some v43)) fun v44 =>
        og (gval v44 true true (fldA 0 f1)) fun v45 =>
        og (gval v44 true true (lod v45 σ)) fun v46 =>
        gpick v44 (
          acall TP fn_impl_opData [v46] σ (onr (fun v47 σ =>
          og (aun .not v47) fun v48 =>
          og (gval v38 false false (some v48)) fun v49 =>
          og (pickV v38 (.val (.bool true)) v49) fun v50 =>
          k1 (f1, f13, v50, ()) σ) (fun v σ => apan v σ R))) (
          og (gval v38 false false (some (.val (.bool false)))) fun v49 =>
          og (pickV v38 (.val (.bool true)) v49) fun v50 =>
          k1 (f1, f13, v50, ()) σ) (
          og (gval v38 false false (pickV (.tup []) (.tup []) (.val (.bool false)))) fun v49 =>
          og (pickV v38 (.val (.bool true)) v49) fun v50 =>
          k1 (f1, f13, v50, ()) σ))) (fun v σ => apan v σ R))) (fun v σ => apan v σ R))) (False)) (fun v σ => apan v σ R))
def x73 : Sx := .box (.var 0) (.frz 1 (.var 0) (.og (.fldA 1 (.var 0)) (.og (.lod (.var 0)) (.og (.fldA 2 (.var 2)) (.og (.lod (.var 0)) (.og (.fldA 3 (.var 4)) (.og (.lod (.var 0)) (.og (.fldA 4 (.var 6)) (.og (.lod (.var 0)) (.bsl 1 [(.val (.int .i64 0))] 4 [(0, (.var 6)), (1, (.var 4)), (2, (.var 2)), (3, (.var 0))] (.frz 11 (.var 0) (.jn 121 [1, 3, 14] (.apick (.var 2) (.ret (.lit (.val (.int .i64 1)))) (.call 100 [(.var 1), (.lit (.clo (.func fn_impl_OpFault_2) [] []))] (.gog (.var 0) false false (.fldA 0 (.var 1)) (.gog (.var 1) false false (.lod (.var 0)) (.gog (.var 2) false false (.ibin .eql (.var 0) (.lit (.val (.int .i64 10)))) (.gog (.var 3) false false (.ret (.var 0)) (.gog (.var 0) false true (.fldA 0 (.var 5)) (.gog (.var 1) false true (.lod (.var 0)) (.gog (.var 2) false true (.ibin .eql (.var 0) (.lit (.val (.int .i64 11)))) (.gog (.var 7) false false (.pickV (.var 3) (.lit (.val (.bool true))) (.var 0)) (.gog (.var 8) false false (.ret (.var 0)) (.gog (.var 0) true true (.fldA 1 (.var 10)) (.gog (.var 1) true true (.lod (.var 0)) (.gog (.var 2) true true (.ibin .gtr (.var 0) (.lit (.val (.int .i64 3)))) (.gog (.var 12) false false (.pickV (.var 3) (.var 0) (.lit (.val (.bool false)))) (.og (.pickV (.var 13) (.lit (.val (.bool true))) (.var 0)) (.apick (.var 0) (.ret (.lit (.val (.int .i64 3)))) (.og (.fldA 0 (.var 15)) (.og (.lod (.var 0)) (.call 49 [(.var 0)] (.apick (.var 0) (.og (.fldA 5 (.var 18)) (.og (.lod (.var 0)) (.call 102 [(.var 0)] (.ret (.var 0))))) (.og (.fldA 0 (.var 18)) (.og (.lod (.var 0)) (.call 50 [(.var 0)] (.apick (.var 0) (.og (.fldA 6 (.var 21)) (.og (.lod (.var 0)) (.call 103 [(.var 0)] (.ret (.var 0))))) (.ret (.lit (.val (.int .i64 0))))))))))))))))))))))))))))) (.og (.fldA 0 (.var 10)) (.og (.lod (.var 0)) (.call 72 [(.var 0), (.lit (.val (.int .i64 1))), (.lit (.val (.int .i64 16)))] (.og (.aun .not (.var 0)) (.gog (.var 0) false false (.ret (.var 4)) (.gog (.var 1) false false (.fldA 0 (.var 15)) (.gog (.var 2) false false (.lod (.var 0)) (.gpick (.var 3) (.jump 0 [(.var 17), (.var 7), (.lit (.val (.bool true)))]) (.call 52 [(.var 0)] (.og (.slc 1 (.var 3) (some (.var 0)) none none) (.call 100 [(.var 0), (.lit (.clo (.func fn_impl_OpFault_1) [] []))] (.gog (.var 0) false false (.fldA 5 (.var 20)) (.gog (.var 1) false false (.lod (.var 0)) (.gog (.var 2) false false (.sbin .neq (.var 0) (.lit (.val (.string ⟨#[]⟩)))) (.gog (.var 3) false false (.ret (.var 0)) (.gog (.var 0) true true (.fldA 0 (.var 24)) (.gog (.var 1) true true (.lod (.var 0)) (.gpick (.var 2) (.call 49 [(.var 0)] (.og (.aun .not (.var 0)) (.gog (.var 8) false false (.ret (.var 0)) (.og (.pickV (.var 9) (.lit (.val (.bool true))) (.var 0)) (.gog (.var 0) false false (.fldA 6 (.var 30)) (.gog (.var 1) false false (.lod (.var 0)) (.gog (.var 2) false false (.lenS (.var 0)) (.gog (.var 3) false false (.ibin .gtr (.var 0) (.lit (.val (.int .i64 0)))) (.gog (.var 4) false false (.ret (.var 0)) (.gog (.var 0) true true (.fldA 0 (.var 35)) (.gog (.var 1) true true (.lod (.var 0)) (.gpick (.var 2) (.call 50 [(.var 0)] (.og (.aun .not (.var 0)) (.gog (.var 9) false false (.ret (.var 0)) (.og (.pickV (.var 10) (.lit (.val (.bool true))) (.var 0)) (.jump 0 [(.var 41), (.var 31), (.var 0)]))))) (.gog (.var 7) false false (.ret (.lit (.val (.bool false)))) (.og (.pickV (.var 8) (.lit (.val (.bool true))) (.var 0)) (.jump 0 [(.var 39), (.var 29), (.var 0)]))) (.gog (.var 7) false false (.pickV (.lit (.tup [])) (.lit (.tup [])) (.lit (.val (.bool false)))) (.og (.pickV (.var 8) (.lit (.val (.bool true))) (.var 0)) (.jump 0 [(.var 39), (.var 29), (.var 0)]))))))))))))))) (.gog (.var 6) false false (.ret (.lit (.val (.bool false)))) (.og (.pickV (.var 7) (.lit (.val (.bool true))) (.var 0)) (.gog (.var 0) false false (.fldA 6 (.var 28)) (.gog (.var 1) false false (.lod (.var 0)) (.gog (.var 2) false false (.lenS (.var 0)) (.gog (.var 3) false false (.ibin .gtr (.var 0) (.lit (.val (.int .i64 0)))) (.gog (.var 4) false false (.ret (.var 0)) (.gog (.var 0) true true (.fldA 0 (.var 33)) (.gog (.var 1) true true (.lod (.var 0)) (.gpick (.var 2) (.call 50 [(.var 0)] (.og (.aun .not (.var 0)) (.gog (.var 9) false false (.ret (.var 0)) (.og (.pickV (.var 10) (.lit (.val (.bool true))) (.var 0)) (.jump 0 [(.var 39), (.var 29), (.var 0)]))))) (.gog (.var 7) false false (.ret (.lit (.val (.bool false)))) (.og (.pickV (.var 8) (.lit (.val (.bool true))) (.var 0)) (.jump 0 [(.var 37), (.var 27), (.var 0)]))) (.gog (.var 7) false false (.pickV (.lit (.tup [])) (.lit (.tup [])) (.lit (.val (.bool false)))) (.og (.pickV (.var 8) (.lit (.val (.bool true))) (.var 0)) (.jump 0 [(.var 37), (.var 27), (.var 0)]))))))))))))) (.gog (.var 6) false false (.pickV (.lit (.tup [])) (.lit (.tup [])) (.lit (.val (.bool false)))) (.og (.pickV (.var 7) (.lit (.val (.bool true))) (.var 0)) (.gog (.var 0) false false (.fldA 6 (.var 28)) (.gog (.var 1) false false (.lod (.var 0)) (.gog (.var 2) false false (.lenS (.var 0)) (.gog (.var 3) false false (.ibin .gtr (.var 0) (.lit (.val (.int .i64 0)))) (.gog (.var 4) false false (.ret (.var 0)) (.gog (.var 0) true true (.fldA 0 (.var 33)) (.gog (.var 1) true true (.lod (.var 0)) (.gpick (.var 2) (.call 50 [(.var 0)] (.og (.aun .not (.var 0)) (.gog (.var 9) false false (.ret (.var 0)) (.og (.pickV (.var 10) (.lit (.val (.bool true))) (.var 0)) (.jump 0 [(.var 39), (.var 29), (.var 0)]))))) (.gog (.var 7) false false (.ret (.lit (.val (.bool false)))) (.og (.pickV (.var 8) (.lit (.val (.bool true))) (.var 0)) (.jump 0 [(.var 37), (.var 27), (.var 0)]))) (.gog (.var 7) false false (.pickV (.lit (.tup [])) (.lit (.tup [])) (.lit (.val (.bool false)))) (.og (.pickV (.var 8) (.lit (.val (.bool true))) (.var 0)) (.jump 0 [(.var 37), (.var 27), (.var 0)]))))))))))))))))))))))) (.no)))))))))))))))))))))
set_option maxRecDepth 1000000 in
theorem x73_ok : okF TT Tryz.f73 1 x73 = true := by decide +kernel
set_option maxRecDepth 1000000 in
theorem s_impl_OpFault_ok {a0 : AV} {σ : AH} {R : AEnd → AH → Prop} (h : s_impl_OpFault a0 σ R) : acall TP fn_impl_OpFault [a0] σ R :=
  acall_okF (ρ := [a0]) TT_ok Tryz.func73 rfl x73 x73_ok rfl h

/-- loop.example/g00349/impl.boolText -/
def s_impl_boolText (a0 : AV) (σ : AH) (R : AEnd → AH → Prop) : Prop :=
  og (ibin .eql a0 (.val (.int .i64 1))) fun v4 =>
  apick v4 (
    aret (.val (.string ⟨#[35, 116]⟩)) σ R) (
    aret (.val (.string ⟨#[35, 102]⟩)) σ R)
def x76 : Sx := .og (.ibin .eql (.var 0) (.lit (.val (.int .i64 1)))) (.apick (.var 0) (.ret (.lit (.val (.string ⟨#[35, 116]⟩)))) (.ret (.lit (.val (.string ⟨#[35, 102]⟩)))))
set_option maxRecDepth 1000000 in
theorem x76_ok : okF TT Tryz.f76 1 x76 = true := by decide +kernel
set_option maxRecDepth 1000000 in
theorem s_impl_boolText_ok {a0 : AV} {σ : AH} {R : AEnd → AH → Prop} (h : s_impl_boolText a0 σ R) : acall TP fn_impl_boolText [a0] σ R :=
  acall_okF (ρ := [a0]) TT_ok Tryz.func76 rfl x76 x76_ok rfl h

/-- loop.example/g00349/impl.parts -/
def s_impl_parts (a0 a1 : AV) (σ : AH) (R : AEnd → AH → Prop) : Prop :=
  bsl 1 [(.val (.int .i64 0))] 0 [] σ fun v8 σ =>
  og (lenS a0) fun v10 =>
  lp (X := Tup [1, 5, 9, 10, 11]) (fun R1 y1 σ =>
    og (ibin .lss y1.2.2.2.2.1 y1.2.2.2.1) fun v12 =>
    apick v12 (
      jn (X := Tup [1, 5, 9, 10, 11]) (fun x2 σ =>
          og (ibin .add x2.2.2.2.2.1 (.val (.int .i64 1))) fun v24 =>
          R1 (x2.1, x2.2.1, x2.2.2.1, x2.2.2.2.1, v24, ()) σ) fun k2 =>
        og (idx 4 y1.2.2.1 y1.2.2.2.2.1 σ) fun v14 =>
        og (lodA 4 v14 σ) fun v15 =>
        new [(.val (.int .i64 0)), (.val (.int .i64 0)), (.val (.int .i64 0)), (.val (.string ⟨#[]⟩))] σ fun v7 σ =>
        sto 4 v7 v15 σ fun σ =>
        frz v7 σ fun f7 σ =>
        og (fldA 1 f7) fun v16 =>
        og (lod v16 σ) fun v17 =>
        og (ibin .eql v17 y1.1) fun v19 =>
        apick v19 (
          bsl 1 [(.val (.int .i64 0))] 1 [(0, y1.2.2.2.2.1)] σ fun v22 σ =>
          app 1 y1.2.1 v22 σ fun v23 σ =>
          k2 (y1.1, v23, y1.2.2.1, y1.2.2.2.1, y1.2.2.2.2.1, ()) σ) (
          k2 (y1.1, y1.2.1, y1.2.2.1, y1.2.2.2.1, y1.2.2.2.2.1, ()) σ)) (
      aret y1.2.1 σ R)) (a1, v8, a0, v10, (.val (.int .i64 0)), ()) σ
def x77 : Sx := .bsl 1 [(.val (.int .i64 0))] 0 [] (.og (.lenS (.var 2)) (.lp [1, 5, 9, 10, 11] (.og (.ibin .lss (.var 4) (.var 3)) (.apick (.var 0) (.jn 935 [1, 5, 9, 10, 11] (.og (.ibin .add (.var 4) (.lit (.val (.int .i64 1)))) (.jump 0 [(.var 1), (.var 2), (.var 3), (.var 4), (.var 0)])) (.og (.idx 4 (.var 3) (.var 5)) (.og (.lodA 4 (.var 0)) (.new [(.val (.int .i64 0)), (.val (.int .i64 0)), (.val (.int .i64 0)), (.val (.string ⟨#[]⟩))] (.sto 4 (.var 0) (.var 1) (.frz 8 (.var 0) (.og (.fldA 1 (.var 0)) (.og (.lod (.var 0)) (.og (.ibin .eql (.var 0) (.var 7)) (.apick (.var 0) (.bsl 1 [(.val (.int .i64 0))] 1 [(0, (.var 12))] (.app 1 (.var 10) (.var 0) (.jump 0 [(.var 10), (.var 0), (.var 12), (.var 13), (.var 14)]))) (.jump 0 [(.var 8), (.var 9), (.var 10), (.var 11), (.var 12)]))))))))))) (.ret (.var 2)))) [(.var 2), (.var 1), (.var 3), (.var 0), (.lit (.val (.int .i64 0)))]))
set_option maxRecDepth 1000000 in
theorem x77_ok : okF TT Tryz.f77 2 x77 = true := by decide +kernel
set_option maxRecDepth 1000000 in
theorem s_impl_parts_ok {a0 a1 : AV} {σ : AH} {R : AEnd → AH → Prop} (h : s_impl_parts a0 a1 σ R) : acall TP fn_impl_parts [a0, a1] σ R :=
  acall_okF (ρ := [a1, a0]) TT_ok Tryz.func77 rfl x77 x77_ok rfl h

/-- loop.example/g00349/laws.eqOp -/
def s_laws_eqOp (a0 a1 : AV) (σ : AH) (R : AEnd → AH → Prop) : Prop :=
  abox a0 σ fun v2 σ =>
  abox a1 σ fun v3 σ =>
  frz v2 σ fun f2 σ =>
  frz v3 σ fun f3 σ =>
  og (fldA 0 f2) fun v5 =>
  og (lod v5 σ) fun v6 =>
  og (fldA 0 f3) fun v7 =>
  og (lod v7 σ) fun v8 =>
  og (ibin .neq v6 v8) fun v9 =>
  apick v9 (
    aret (.val (.bool false)) σ R) (
    og (fldA 1 f2) fun v10 =>
    og (lod v10 σ) fun v11 =>
    og (fldA 1 f3) fun v12 =>
    og (lod v12 σ) fun v13 =>
    og (ibin .neq v11 v13) fun v14 =>
    apick v14 (
      aret (.val (.bool false)) σ R) (
      og (fldA 2 f2) fun v15 =>
      og (lod v15 σ) fun v16 =>
      og (fldA 2 f3) fun v17 =>
      og (lod v17 σ) fun v18 =>
      og (ibin .neq v16 v18) fun v19 =>
      apick v19 (
        aret (.val (.bool false)) σ R) (
        og (fldA 3 f2) fun v20 =>
        og (lod v20 σ) fun v21 =>
        og (fldA 3 f3) fun v22 =>
        og (lod v22 σ) fun v23 =>
        og (ibin .neq v21 v23) fun v24 =>
        apick v24 (
          aret (.val (.bool false)) σ R) (
          og (fldA 4 f2) fun v25 =>
          og (lod v25 σ) fun v26 =>
          og (fldA 4 f3) fun v27 =>
          og (lod v27 σ) fun v28 =>
          og (ibin .neq v26 v28) fun v29 =>
          apick v29 (
            aret (.val (.bool false)) σ R) (
            og (fldA 5 f2) fun v30 =>
            og (lod v30 σ) fun v31 =>
            og (fldA 5 f3) fun v32 =>
            og (lod v32 σ) fun v33 =>
            og (sbin .neq v31 v33) fun v34 =>
            apick v34 (
              aret (.val (.bool false)) σ R) (
              og (fldA 6 f2) fun v35 =>
              og (lod v35 σ) fun v36 =>
              og (fldA 6 f3) fun v37 =>
              og (lod v37 σ) fun v38 =>
              acall TP fn_laws_eqDatumS [v36, v38] σ (onr (fun v39 σ =>
              og (aun .not v39) fun v40 =>
              apick v40 (
                aret (.val (.bool false)) σ R) (
                aret (.val (.bool true)) σ R)) (fun v σ => apan v σ R))))))))
def x79 : Sx := .box (.var 1) (.box (.var 1) (.frz 2 (.var 1) (.frz 3 (.var 1) (.og (.fldA 0 (.var 1)) (.og (.lod (.var 0)) (.og (.fldA 0 (.var 2)) (.og (.lod (.var 0)) (.og (.ibin .neq (.var 2) (.var 0)) (.apick (.var 0) (.ret (.lit (.val (.bool false)))) (.og (.fldA 1 (.var 6)) (.og (.lod (.var 0)) (.og (.fldA 1 (.var 7)) (.og (.lod (.var 0)) (.og (.ibin .neq (.var 2) (.var 0)) (.apick (.var 0) (.ret (.lit (.val (.bool false)))) (.og (.fldA 2 (.var 11)) (.og (.lod (.var 0)) (.og (.fldA 2 (.var 12)) (.og (.lod (.var 0)) (.og (.ibin .neq (.var 2) (.var 0)) (.apick (.var 0) (.ret (.lit (.val (.bool false)))) (.og (.fldA 3 (.var 16)) (.og (.lod (.var 0)) (.og (.fldA 3 (.var 17)) (.og (.lod (.var 0)) (.og (.ibin .neq (.var 2) (.var 0)) (.apick (.var 0) (.ret (.lit (.val (.bool false)))) (.og (.fldA 4 (.var 21)) (.og (.lod (.var 0)) (.og (.fldA 4 (.var 22)) (.og (.lod (.var 0)) (.og (.ibin .neq (.var 2) (.var 0)) (.apick (.var 0) (.ret (.lit (.val (.bool false)))) (.og (.fldA 5 (.var 26)) (.og (.lod (.var 0)) (.og (.fldA 5 (.var 27)) (.og (.lod (.var 0)) (.og (.sbin .neq (.var 2) (.var 0)) (.apick (.var 0) (.ret (.lit (.val (.bool false)))) (.og (.fldA 6 (.var 31)) (.og (.lod (.var 0)) (.og (.fldA 6 (.var 32)) (.og (.lod (.var 0)) (.call 109 [(.var 2), (.var 0)] (.og (.aun .not (.var 0)) (.apick (.var 0) (.ret (.lit (.val (.bool false)))) (.ret (.lit (.val (.bool true))))))))))))))))))))))))))))))))))))))))))))))))))
set_option maxRecDepth 1000000 in
theorem x79_ok : okF TT Tryz.f79 2 x79 = true := by decide +kernel
set_option maxRecDepth 1000000 in
theorem s_laws_eqOp_ok {a0 a1 : AV} {σ : AH} {R : AEnd → AH → Prop} (h : s_laws_eqOp a0 a1 σ R) : acall TP fn_laws_eqOp [a0, a1] σ R :=
  acall_okF (ρ := [a1, a0]) TT_ok Tryz.func79 rfl x79 x79_ok rfl h

end Go.Proofs.YtggnjjalfnhiiaaGreatDoor.E
