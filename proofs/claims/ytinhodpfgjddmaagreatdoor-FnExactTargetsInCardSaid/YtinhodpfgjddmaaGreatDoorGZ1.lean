/- What functions come to. Printed by mkg.py. -/
import Derived.Test.YtinhodpfgjddmaaGreatDoorGZ0
namespace Go.Proofs.YtinhodpfgjddmaaGreatDoor.E
open Go Go.RowKit
set_option linter.unusedVariables false
set_option linter.unusedSectionVars false
variable [Lam]
/-- loop.example/g00349/laws.FnExactTargetsIn -/
def s_laws_FnExactTargetsIn (a0 : AV) (σ : AH) (R : AEnd → AH → Prop) : Prop :=
  abox a0 σ fun v1 σ =>
  frz v1 σ fun f1 σ =>
  og (lodA 2 f1 σ) fun v11 =>
  acall TP fn_laws_szBlock [v11, (.val (.int .i64 1048576))] σ (onr (fun v13 σ =>
  og (ibin .lss v13 (.val (.int .i64 0))) fun v15 =>
  apick v15 (
    aret (.val (.bool true)) σ R) (
    og (lodA 2 f1 σ) fun v16 =>
    acall TP fn_laws_toBlock [v16] σ (onr (fun v17 σ =>
    acall TP fn_spec_TargetsIn [v17] σ (onr (fun v18 σ =>
    new [(.val (.int .i64 0)), (.val (.slice none 0 0))] σ fun v4 σ =>
    sto 2 v4 v18 σ fun σ =>
    frz v4 σ fun f4 σ =>
    og (lodA 2 f1 σ) fun v19 =>
    acall TP fn_laws_toBlock [v19] σ (onr (fun v20 σ =>
    new [(.val (.int .i64 0)), (.val (.slice none 0 0))] σ fun v5 σ =>
    sto 2 v5 v20 σ fun σ =>
    frz v5 σ fun f5 σ =>
    og (lodA 2 f5 σ) fun v21 =>
    acall TP fn_impl_TargetsIn [v21] σ (onr (fun v22 σ =>
    new [(.val (.int .i64 0)), (.val (.slice none 0 0))] σ fun v6 σ =>
    sto 2 v6 v22 σ fun σ =>
    frz v6 σ fun f6 σ =>
    og (lodA 2 f6 σ) fun v23 =>
    og (lodA 2 f4 σ) fun v24 =>
    acall TP fn_laws_eqIntsResult [v23, v24] σ (onr (fun v25 σ =>
    og (aun .not v25) fun v26 =>
    apick v26 (
      aret (.val (.bool false)) σ R) (
      og (lodA 2 f5 σ) fun v27 =>
      og (lodA 2 f1 σ) fun v28 =>
      acall TP fn_laws_toBlock [v28] σ (onr (fun v29 σ =>
      (lodA 2 f5 σ = some v27 ∧ True) ∧
      acall TP fn_laws_eqBlock [v27, v29] σ (onr (fun v30 σ =>
      (True) ∧
      og (aun .not v30) fun v31 =>
      apick v31 (
        aret (.val (.bool false)) σ R) (
        og (lodA 2 f5 σ) fun v32 =>
        acall TP fn_laws_markBlock [v32, (.val (.int .i64 1))] σ (onr (fun v34 σ =>
        jn (X := Tup [1, 4, 6, 42]) (fun x1 σ =>
            apick x1.2.2.2.1 (
              aret (.val (.bool false)) σ R) (
              og (lodA 2 x1.2.2.1 σ) fun v43 =>
              acall TP fn_laws_markIntsResult [v43, (.val (.int .i64 1))] σ (onr (fun v45 σ =>
              og (lodA 2 x1.2.2.1 σ) fun v46 =>
              acall TP fn_laws_heldIntsResult [v46, (.val (.int .i64 1))] σ (onr (fun v48 σ =>
              og (ibin .lss v48 (.val (.int .i64 0))) fun v50 =>
              apick v50 (
                aret (.val (.bool false)) σ R) (
                og (ibin .neq v48 v45) fun v53 =>
                apick v53 (
                  aret (.val (.bool false)) σ R) (
                  og (lodA 2 x1.1 σ) fun v54 =>
                  acall TP fn_laws_toBlock [v54] σ (onr (fun v55 σ =>
                  acall TP fn_impl_TargetsIn [v55] σ (onr (fun v56 σ =>
                  new [(.val (.int .i64 0)), (.val (.slice none 0 0))] σ fun v10 σ =>
                  sto 2 v10 v56 σ fun σ =>
                  frz v10 σ fun f10 σ =>
                  og (lodA 2 f10 σ) fun v57 =>
                  og (lodA 2 x1.2.1 σ) fun v58 =>
                  acall TP fn_laws_eqIntsResult [v57, v58] σ (onr (fun v59 σ =>
                  og (aun .not v59) fun v60 =>
                  apick v60 (
                    aret (.val (.bool false)) σ R) (
                    og (lodA 2 x1.2.2.1 σ) fun v61 =>
                    acall TP fn_laws_heldIntsResult [v61, (.val (.int .i64 1))] σ (onr (fun v63 σ =>
                    og (ibin .lss v63 (.val (.int .i64 0))) fun v65 =>
                    apick v65 (
                      aret (.val (.bool false)) σ R) (
                      og (ibin .neq v63 v45) fun v68 =>
                      apick v68 (
                        aret (.val (.bool false)) σ R) (
                        aret (.val (.bool true)) σ R))) (fun v σ => apan v σ R)))) (fun v σ => apan v σ R))) (fun v σ => apan v σ R))) (fun v σ => apan v σ R))))) (fun v σ => apan v σ R))) (fun v σ => apan v σ R)))) fun k1 =>
          og (ibin .lss v34 (.val (.int .i64 0))) fun v36 =>
          og (gval v36 false false (lodA 2 f6 σ)) fun v38 =>
          og (gval v36 false false (lodA 2 f4 σ)) fun v39 =>
          gpick v36 (
            k1 (f1, f4, f6, (.val (.bool true)), ()) σ) (
            acall TP fn_laws_eqIntsResult [v38, v39] σ (onr (fun v40 σ =>
            og (aun .not v40) fun v41 =>
            k1 (f1, f4, f6, v41, ()) σ) (fun v σ => apan v σ R))) (False)) (fun v σ => apan v σ R)))) (fun v σ => apan v σ R))) (fun v σ => apan v σ R)))) (fun v σ => apan v σ R))) (fun v σ => apan v σ R))) (fun v σ => apan v σ R))) (fun v σ => apan v σ R))) (fun v σ => apan v σ R)))) (fun v σ => apan v σ R))
def x3 : Sx := .box (.var 0) (.frz 1 (.var 0) (.og (.lodA 2 (.var 0)) (.call 11 [(.var 0), (.lit (.val (.int .i64 1048576)))] (.og (.ibin .lss (.var 0) (.lit (.val (.int .i64 0)))) (.apick (.var 0) (.ret (.lit (.val (.bool true)))) (.og (.lodA 2 (.var 3)) (.call 13 [(.var 0)] (.call 12 [(.var 0)] (.new [(.val (.int .i64 0)), (.val (.slice none 0 0))] (.sto 2 (.var 0) (.var 1) (.frz 9 (.var 0) (.og (.lodA 2 (.var 8)) (.call 13 [(.var 0)] (.new [(.val (.int .i64 0)), (.val (.slice none 0 0))] (.sto 2 (.var 0) (.var 1) (.frz 13 (.var 0) (.og (.lodA 2 (.var 0)) (.call 14 [(.var 0)] (.new [(.val (.int .i64 0)), (.val (.slice none 0 0))] (.sto 2 (.var 0) (.var 1) (.frz 17 (.var 0) (.og (.lodA 2 (.var 0)) (.og (.lodA 2 (.var 9)) (.call 15 [(.var 1), (.var 0)] (.og (.aun .not (.var 0)) (.apick (.var 0) (.ret (.lit (.val (.bool false)))) (.ord [0, 1, 2, 3, 4] [0, 0, 2, 7, 15] (.og (.lodA 2 (.var 8)) (.og (.lodA 2 (.var 21)) (.call 13 [(.var 0)] (.wat [⟨none, (.lodA 2 (.var 11)), (.var 2)⟩] (.call 16 [(.var 2), (.var 0)] (.wat [] (.og (.aun .not (.var 0)) (.apick (.var 0) (.ret (.lit (.val (.bool false)))) (.og (.lodA 2 (.var 13)) (.call 17 [(.var 0), (.lit (.val (.int .i64 1)))] (.jn 16381 [1, 4, 6, 42] (.apick (.var 3) (.ret (.lit (.val (.bool false)))) (.og (.lodA 2 (.var 2)) (.call 18 [(.var 0), (.lit (.val (.int .i64 1)))] (.og (.lodA 2 (.var 4)) (.call 19 [(.var 0), (.lit (.val (.int .i64 1)))] (.og (.ibin .lss (.var 0) (.lit (.val (.int .i64 0)))) (.apick (.var 0) (.ret (.lit (.val (.bool false)))) (.og (.ibin .neq (.var 1) (.var 3)) (.apick (.var 0) (.ret (.lit (.val (.bool false)))) (.og (.lodA 2 (.var 6)) (.call 13 [(.var 0)] (.call 14 [(.var 0)] (.new [(.val (.int .i64 0)), (.val (.slice none 0 0))] (.sto 2 (.var 0) (.var 1) (.frz 13 (.var 0) (.og (.lodA 2 (.var 0)) (.og (.lodA 2 (.var 13)) (.call 15 [(.var 1), (.var 0)] (.og (.aun .not (.var 0)) (.apick (.var 0) (.ret (.lit (.val (.bool false)))) (.og (.lodA 2 (.var 17)) (.call 19 [(.var 0), (.lit (.val (.int .i64 1)))] (.og (.ibin .lss (.var 0) (.lit (.val (.int .i64 0)))) (.apick (.var 0) (.ret (.lit (.val (.bool false)))) (.og (.ibin .neq (.var 1) (.var 16)) (.apick (.var 0) (.ret (.lit (.val (.bool false)))) (.ret (.lit (.val (.bool true)))))))))))))))))))))))))))))) (.og (.ibin .lss (.var 0) (.lit (.val (.int .i64 0)))) (.gog (.var 0) false false (.lodA 2 (.var 12)) (.gog (.var 1) false false (.lodA 2 (.var 21)) (.gpick (.var 2) (.jump 0 [(.var 30), (.var 22), (.var 14), (.lit (.val (.bool true)))]) (.call 15 [(.var 1), (.var 0)] (.og (.aun .not (.var 0)) (.jump 0 [(.var 32), (.var 24), (.var 16), (.var 0)]))) (.no)))))))))))))))))))))))))))))))))))))))))))
set_option maxRecDepth 1000000 in
theorem x3_ok : okF TT Tryz.f3 1 x3 = true := by decide +kernel
set_option maxRecDepth 1000000 in
theorem s_laws_FnExactTargetsIn_ok {a0 : AV} {σ : AH} {R : AEnd → AH → Prop} (h : s_laws_FnExactTargetsIn a0 σ R) : acall TP fn_laws_FnExactTargetsIn [a0] σ R :=
  acall_okF (ρ := [a0]) TT_ok Tryz.func3 rfl x3 x3_ok rfl h

/-- loop.example/g00349/laws.FnExactHeightsOf -/
def s_laws_FnExactHeightsOf (a0 : AV) (σ : AH) (R : AEnd → AH → Prop) : Prop :=
  abox a0 σ fun v1 σ =>
  frz v1 σ fun f1 σ =>
  og (lodA 2 f1 σ) fun v11 =>
  acall TP fn_laws_szBlock [v11, (.val (.int .i64 1048576))] σ (onr (fun v13 σ =>
  og (ibin .lss v13 (.val (.int .i64 0))) fun v15 =>
  apick v15 (
    aret (.val (.bool true)) σ R) (
    og (lodA 2 f1 σ) fun v16 =>
    acall TP fn_laws_toBlock [v16] σ (onr (fun v17 σ =>
    acall TP fn_spec_HeightsOf [v17] σ (onr (fun v18 σ =>
    new [(.val (.int .i64 0)), (.val (.slice none 0 0))] σ fun v4 σ =>
    sto 2 v4 v18 σ fun σ =>
    frz v4 σ fun f4 σ =>
    og (lodA 2 f1 σ) fun v19 =>
    acall TP fn_laws_toBlock [v19] σ (onr (fun v20 σ =>
    new [(.val (.int .i64 0)), (.val (.slice none 0 0))] σ fun v5 σ =>
    sto 2 v5 v20 σ fun σ =>
    frz v5 σ fun f5 σ =>
    og (lodA 2 f5 σ) fun v21 =>
    acall TP fn_impl_HeightsOf [v21] σ (onr (fun v22 σ =>
    new [(.val (.int .i64 0)), (.val (.slice none 0 0))] σ fun v6 σ =>
    sto 2 v6 v22 σ fun σ =>
    frz v6 σ fun f6 σ =>
    og (lodA 2 f6 σ) fun v23 =>
    og (lodA 2 f4 σ) fun v24 =>
    acall TP fn_laws_eqIntsResult [v23, v24] σ (onr (fun v25 σ =>
    og (aun .not v25) fun v26 =>
    apick v26 (
      aret (.val (.bool false)) σ R) (
      og (lodA 2 f5 σ) fun v27 =>
      og (lodA 2 f1 σ) fun v28 =>
      acall TP fn_laws_toBlock [v28] σ (onr (fun v29 σ =>
      (lodA 2 f5 σ = some v27 ∧ True) ∧
      acall TP fn_laws_eqBlock [v27, v29] σ (onr (fun v30 σ =>
      (True) ∧
      og (aun .not v30) fun v31 =>
      apick v31 (
        aret (.val (.bool false)) σ R) (
        og (lodA 2 f5 σ) fun v32 =>
        acall TP fn_laws_markBlock [v32, (.val (.int .i64 1))] σ (onr (fun v34 σ =>
        jn (X := Tup [1, 4, 6, 42]) (fun x1 σ =>
            apick x1.2.2.2.1 (
              aret (.val (.bool false)) σ R) (
              og (lodA 2 x1.2.2.1 σ) fun v43 =>
              acall TP fn_laws_markIntsResult [v43, (.val (.int .i64 1))] σ (onr (fun v45 σ =>
              og (lodA 2 x1.2.2.1 σ) fun v46 =>
              acall TP fn_laws_heldIntsResult [v46, (.val (.int .i64 1))] σ (onr (fun v48 σ =>
              og (ibin .lss v48 (.val (.int .i64 0))) fun v50 =>
              apick v50 (
                aret (.val (.bool false)) σ R) (
                og (ibin .neq v48 v45) fun v53 =>
                apick v53 (
                  aret (.val (.bool false)) σ R) (
                  og (lodA 2 x1.1 σ) fun v54 =>
                  acall TP fn_laws_toBlock [v54] σ (onr (fun v55 σ =>
                  acall TP fn_impl_HeightsOf [v55] σ (onr (fun v56 σ =>
                  new [(.val (.int .i64 0)), (.val (.slice none 0 0))] σ fun v10 σ =>
                  sto 2 v10 v56 σ fun σ =>
                  frz v10 σ fun f10 σ =>
                  og (lodA 2 f10 σ) fun v57 =>
                  og (lodA 2 x1.2.1 σ) fun v58 =>
                  acall TP fn_laws_eqIntsResult [v57, v58] σ (onr (fun v59 σ =>
                  og (aun .not v59) fun v60 =>
                  apick v60 (
                    aret (.val (.bool false)) σ R) (
                    og (lodA 2 x1.2.2.1 σ) fun v61 =>
                    acall TP fn_laws_heldIntsResult [v61, (.val (.int .i64 1))] σ (onr (fun v63 σ =>
                    og (ibin .lss v63 (.val (.int .i64 0))) fun v65 =>
                    apick v65 (
                      aret (.val (.bool false)) σ R) (
                      og (ibin .neq v63 v45) fun v68 =>
                      apick v68 (
                        aret (.val (.bool false)) σ R) (
                        aret (.val (.bool true)) σ R))) (fun v σ => apan v σ R)))) (fun v σ => apan v σ R))) (fun v σ => apan v σ R))) (fun v σ => apan v σ R))))) (fun v σ => apan v σ R))) (fun v σ => apan v σ R)))) fun k1 =>
          og (ibin .lss v34 (.val (.int .i64 0))) fun v36 =>
          og (gval v36 false false (lodA 2 f6 σ)) fun v38 =>
          og (gval v36 false false (lodA 2 f4 σ)) fun v39 =>
          gpick v36 (
            k1 (f1, f4, f6, (.val (.bool true)), ()) σ) (
            acall TP fn_laws_eqIntsResult [v38, v39] σ (onr (fun v40 σ =>
            og (aun .not v40) fun v41 =>
            k1 (f1, f4, f6, v41, ()) σ) (fun v σ => apan v σ R))) (False)) (fun v σ => apan v σ R)))) (fun v σ => apan v σ R))) (fun v σ => apan v σ R)))) (fun v σ => apan v σ R))) (fun v σ => apan v σ R))) (fun v σ => apan v σ R))) (fun v σ => apan v σ R))) (fun v σ => apan v σ R)))) (fun v σ => apan v σ R))
def x4 : Sx := .box (.var 0) (.frz 1 (.var 0) (.og (.lodA 2 (.var 0)) (.call 11 [(.var 0), (.lit (.val (.int .i64 1048576)))] (.og (.ibin .lss (.var 0) (.lit (.val (.int .i64 0)))) (.apick (.var 0) (.ret (.lit (.val (.bool true)))) (.og (.lodA 2 (.var 3)) (.call 13 [(.var 0)] (.call 20 [(.var 0)] (.new [(.val (.int .i64 0)), (.val (.slice none 0 0))] (.sto 2 (.var 0) (.var 1) (.frz 9 (.var 0) (.og (.lodA 2 (.var 8)) (.call 13 [(.var 0)] (.new [(.val (.int .i64 0)), (.val (.slice none 0 0))] (.sto 2 (.var 0) (.var 1) (.frz 13 (.var 0) (.og (.lodA 2 (.var 0)) (.call 21 [(.var 0)] (.new [(.val (.int .i64 0)), (.val (.slice none 0 0))] (.sto 2 (.var 0) (.var 1) (.frz 17 (.var 0) (.og (.lodA 2 (.var 0)) (.og (.lodA 2 (.var 9)) (.call 15 [(.var 1), (.var 0)] (.og (.aun .not (.var 0)) (.apick (.var 0) (.ret (.lit (.val (.bool false)))) (.ord [0, 1, 2, 3, 4] [0, 0, 2, 7, 15] (.og (.lodA 2 (.var 8)) (.og (.lodA 2 (.var 21)) (.call 13 [(.var 0)] (.wat [⟨none, (.lodA 2 (.var 11)), (.var 2)⟩] (.call 16 [(.var 2), (.var 0)] (.wat [] (.og (.aun .not (.var 0)) (.apick (.var 0) (.ret (.lit (.val (.bool false)))) (.og (.lodA 2 (.var 13)) (.call 17 [(.var 0), (.lit (.val (.int .i64 1)))] (.jn 16381 [1, 4, 6, 42] (.apick (.var 3) (.ret (.lit (.val (.bool false)))) (.og (.lodA 2 (.var 2)) (.call 18 [(.var 0), (.lit (.val (.int .i64 1)))] (.og (.lodA 2 (.var 4)) (.call 19 [(.var 0), (.lit (.val (.int .i64 1)))] (.og (.ibin .lss (.var 0) (.lit (.val (.int .i64 0)))) (.apick (.var 0) (.ret (.lit (.val (.bool false)))) (.og (.ibin .neq (.var 1) (.var 3)) (.apick (.var 0) (.ret (.lit (.val (.bool false)))) (.og (.lodA 2 (.var 6)) (.call 13 [(.var 0)] (.call 21 [(.var 0)] (.new [(.val (.int .i64 0)), (.val (.slice none 0 0))] (.sto 2 (.var 0) (.var 1) (.frz 13 (.var 0) (.og (.lodA 2 (.var 0)) (.og (.lodA 2 (.var 13)) (.call 15 [(.var 1), (.var 0)] (.og (.aun .not (.var 0)) (.apick (.var 0) (.ret (.lit (.val (.bool false)))) (.og (.lodA 2 (.var 17)) (.call 19 [(.var 0), (.lit (.val (.int .i64 1)))] (.og (.ibin .lss (.var 0) (.lit (.val (.int .i64 0)))) (.apick (.var 0) (.ret (.lit (.val (.bool false)))) (.og (.ibin .neq (.var 1) (.var 16)) (.apick (.var 0) (.ret (.lit (.val (.bool false)))) (.ret (.lit (.val (.bool true)))))))))))))))))))))))))))))) (.og (.ibin .lss (.var 0) (.lit (.val (.int .i64 0)))) (.gog (.var 0) false false (.lodA 2 (.var 12)) (.gog (.var 1) false false (.lodA 2 (.var 21)) (.gpick (.var 2) (.jump 0 [(.var 30), (.var 22), (.var 14), (.lit (.val (.bool true)))]) (.call 15 [(.var 1), (.var 0)] (.og (.aun .not (.var 0)) (.jump 0 [(.var 32), (.var 24), (.var 16), (.var 0)]))) (.no)))))))))))))))))))))))))))))))))))))))))))
set_option maxRecDepth 1000000 in
theorem x4_ok : okF TT Tryz.f4 1 x4 = true := by decide +kernel
set_option maxRecDepth 1000000 in
theorem s_laws_FnExactHeightsOf_ok {a0 : AV} {σ : AH} {R : AEnd → AH → Prop} (h : s_laws_FnExactHeightsOf a0 σ R) : acall TP fn_laws_FnExactHeightsOf [a0] σ R :=
  acall_okF (ρ := [a0]) TT_ok Tryz.func4 rfl x4 x4_ok rfl h

/-- loop.example/g00349/laws.FnExactBlockAround -/
def s_laws_FnExactBlockAround (a0 a1 : AV) (σ : AH) (R : AEnd → AH → Prop) : Prop :=
  acall TP fn_laws_szBlockS [a0, (.val (.int .i64 1048576))] σ (onr (fun v11 σ =>
  og (ibin .lss v11 (.val (.int .i64 0))) fun v13 =>
  apick v13 (
    aret (.val (.bool true)) σ R) (
    acall TP fn_laws_toBlockS [a0] σ (onr (fun v15 σ =>
    acall TP fn_spec_BlockAround [v15, a1] σ (onr (fun v17 σ =>
    new [(.val (.int .i64 0)), (.val (.int .i64 0))] σ fun v6 σ =>
    sto 2 v6 v17 σ fun σ =>
    frz v6 σ fun f6 σ =>
    acall TP fn_laws_toBlockS [a0] σ (onr (fun v19 σ =>
    acall TP fn_impl_BlockAround [v19, a1] σ (onr (fun v22 σ =>
    new [(.val (.int .i64 0)), (.val (.int .i64 0))] σ fun v8 σ =>
    sto 2 v8 v22 σ fun σ =>
    frz v8 σ fun f8 σ =>
    og (lodA 2 f8 σ) fun v23 =>
    og (lodA 2 f6 σ) fun v24 =>
    acall TP fn_laws_eqIntResult [v23, v24] σ (onr (fun v25 σ =>
    og (aun .not v25) fun v26 =>
    apick v26 (
      aret (.val (.bool false)) σ R) (
      acall TP fn_laws_toBlockS [a0] σ (onr (fun v29 σ =>
      acall TP fn_laws_eqBlockS [v19, v29] σ (onr (fun v30 σ =>
      og (aun .not v30) fun v31 =>
      apick v31 (
        aret (.val (.bool false)) σ R) (
        aret (.val (.bool true)) σ R)) (fun v σ => apan v σ R))) (fun v σ => apan v σ R)))) (fun v σ => apan v σ R))) (fun v σ => apan v σ R))) (fun v σ => apan v σ R))) (fun v σ => apan v σ R))) (fun v σ => apan v σ R)))) (fun v σ => apan v σ R))
def x5 : Sx := .call 22 [(.var 1), (.lit (.val (.int .i64 1048576)))] (.og (.ibin .lss (.var 0) (.lit (.val (.int .i64 0)))) (.apick (.var 0) (.ret (.lit (.val (.bool true)))) (.call 24 [(.var 3)] (.call 23 [(.var 0), (.var 3)] (.new [(.val (.int .i64 0)), (.val (.int .i64 0))] (.sto 2 (.var 0) (.var 1) (.frz 6 (.var 0) (.call 24 [(.var 7)] (.call 25 [(.var 0), (.var 7)] (.new [(.val (.int .i64 0)), (.val (.int .i64 0))] (.sto 2 (.var 0) (.var 1) (.frz 10 (.var 0) (.og (.lodA 2 (.var 0)) (.og (.lodA 2 (.var 5)) (.call 26 [(.var 1), (.var 0)] (.og (.aun .not (.var 0)) (.apick (.var 0) (.ret (.lit (.val (.bool false)))) (.call 24 [(.var 15)] (.call 27 [(.var 8), (.var 0)] (.og (.aun .not (.var 0)) (.apick (.var 0) (.ret (.lit (.val (.bool false)))) (.ret (.lit (.val (.bool true)))))))))))))))))))))))))
set_option maxRecDepth 1000000 in
theorem x5_ok : okF TT Tryz.f5 2 x5 = true := by decide +kernel
set_option maxRecDepth 1000000 in
theorem s_laws_FnExactBlockAround_ok {a0 a1 : AV} {σ : AH} {R : AEnd → AH → Prop} (h : s_laws_FnExactBlockAround a0 a1 σ R) : acall TP fn_laws_FnExactBlockAround [a0, a1] σ R :=
  acall_okF (ρ := [a1, a0]) TT_ok Tryz.func5 rfl x5 x5_ok rfl h

/-- loop.example/g00349/laws.FnExactFusedIn -/
def s_laws_FnExactFusedIn (a0 : AV) (σ : AH) (R : AEnd → AH → Prop) : Prop :=
  acall TP fn_laws_szBlockS [a0, (.val (.int .i64 1048576))] σ (onr (fun v9 σ =>
  og (ibin .lss v9 (.val (.int .i64 0))) fun v11 =>
  apick v11 (
    aret (.val (.bool true)) σ R) (
    acall TP fn_laws_toBlockS [a0] σ (onr (fun v13 σ =>
    acall TP fn_spec_FusedIn [v13] σ (onr (fun v14 σ =>
    new [(.val (.int .i64 0)), (.val (.int .i64 0))] σ fun v4 σ =>
    sto 2 v4 v14 σ fun σ =>
    frz v4 σ fun f4 σ =>
    acall TP fn_laws_toBlockS [a0] σ (onr (fun v16 σ =>
    acall TP fn_impl_FusedIn [v16] σ (onr (fun v18 σ =>
    new [(.val (.int .i64 0)), (.val (.int .i64 0))] σ fun v6 σ =>
    sto 2 v6 v18 σ fun σ =>
    frz v6 σ fun f6 σ =>
    og (lodA 2 f6 σ) fun v19 =>
    og (lodA 2 f4 σ) fun v20 =>
    acall TP fn_laws_eqIntResult [v19, v20] σ (onr (fun v21 σ =>
    og (aun .not v21) fun v22 =>
    apick v22 (
      aret (.val (.bool false)) σ R) (
      acall TP fn_laws_toBlockS [a0] σ (onr (fun v25 σ =>
      acall TP fn_laws_eqBlockS [v16, v25] σ (onr (fun v26 σ =>
      og (aun .not v26) fun v27 =>
      apick v27 (
        aret (.val (.bool false)) σ R) (
        aret (.val (.bool true)) σ R)) (fun v σ => apan v σ R))) (fun v σ => apan v σ R)))) (fun v σ => apan v σ R))) (fun v σ => apan v σ R))) (fun v σ => apan v σ R))) (fun v σ => apan v σ R))) (fun v σ => apan v σ R)))) (fun v σ => apan v σ R))
def x6 : Sx := .call 22 [(.var 0), (.lit (.val (.int .i64 1048576)))] (.og (.ibin .lss (.var 0) (.lit (.val (.int .i64 0)))) (.apick (.var 0) (.ret (.lit (.val (.bool true)))) (.call 24 [(.var 2)] (.call 28 [(.var 0)] (.new [(.val (.int .i64 0)), (.val (.int .i64 0))] (.sto 2 (.var 0) (.var 1) (.frz 5 (.var 0) (.call 24 [(.var 6)] (.call 29 [(.var 0)] (.new [(.val (.int .i64 0)), (.val (.int .i64 0))] (.sto 2 (.var 0) (.var 1) (.frz 9 (.var 0) (.og (.lodA 2 (.var 0)) (.og (.lodA 2 (.var 5)) (.call 26 [(.var 1), (.var 0)] (.og (.aun .not (.var 0)) (.apick (.var 0) (.ret (.lit (.val (.bool false)))) (.call 24 [(.var 14)] (.call 27 [(.var 8), (.var 0)] (.og (.aun .not (.var 0)) (.apick (.var 0) (.ret (.lit (.val (.bool false)))) (.ret (.lit (.val (.bool true)))))))))))))))))))))))))
set_option maxRecDepth 1000000 in
theorem x6_ok : okF TT Tryz.f6 1 x6 = true := by decide +kernel
set_option maxRecDepth 1000000 in
theorem s_laws_FnExactFusedIn_ok {a0 : AV} {σ : AH} {R : AEnd → AH → Prop} (h : s_laws_FnExactFusedIn a0 σ R) : acall TP fn_laws_FnExactFusedIn [a0] σ R :=
  acall_okF (ρ := [a0]) TT_ok Tryz.func6 rfl x6 x6_ok rfl h

/-- loop.example/g00349/laws.FnExactDeepestOf -/
def s_laws_FnExactDeepestOf (a0 : AV) (σ : AH) (R : AEnd → AH → Prop) : Prop :=
  acall TP fn_laws_szBlockS [a0, (.val (.int .i64 1048576))] σ (onr (fun v9 σ =>
  og (ibin .lss v9 (.val (.int .i64 0))) fun v11 =>
  apick v11 (
    aret (.val (.bool true)) σ R) (
    acall TP fn_laws_toBlockS [a0] σ (onr (fun v13 σ =>
    acall TP fn_spec_DeepestOf [v13] σ (onr (fun v14 σ =>
    new [(.val (.int .i64 0)), (.val (.int .i64 0))] σ fun v4 σ =>
    sto 2 v4 v14 σ fun σ =>
    frz v4 σ fun f4 σ =>
    acall TP fn_laws_toBlockS [a0] σ (onr (fun v16 σ =>
    acall TP fn_impl_DeepestOf [v16] σ (onr (fun v18 σ =>
    new [(.val (.int .i64 0)), (.val (.int .i64 0))] σ fun v6 σ =>
    sto 2 v6 v18 σ fun σ =>
    frz v6 σ fun f6 σ =>
    og (lodA 2 f6 σ) fun v19 =>
    og (lodA 2 f4 σ) fun v20 =>
    acall TP fn_laws_eqIntResult [v19, v20] σ (onr (fun v21 σ =>
    og (aun .not v21) fun v22 =>
    apick v22 (
      aret (.val (.bool false)) σ R) (
      acall TP fn_laws_toBlockS [a0] σ (onr (fun v25 σ =>
      acall TP fn_laws_eqBlockS [v16, v25] σ (onr (fun v26 σ =>
      og (aun .not v26) fun v27 =>
      apick v27 (
        aret (.val (.bool false)) σ R) (
        aret (.val (.bool true)) σ R)) (fun v σ => apan v σ R))) (fun v σ => apan v σ R)))) (fun v σ => apan v σ R))) (fun v σ => apan v σ R))) (fun v σ => apan v σ R))) (fun v σ => apan v σ R))) (fun v σ => apan v σ R)))) (fun v σ => apan v σ R))
def x7 : Sx := .call 22 [(.var 0), (.lit (.val (.int .i64 1048576)))] (.og (.ibin .lss (.var 0) (.lit (.val (.int .i64 0)))) (.apick (.var 0) (.ret (.lit (.val (.bool true)))) (.call 24 [(.var 2)] (.call 30 [(.var 0)] (.new [(.val (.int .i64 0)), (.val (.int .i64 0))] (.sto 2 (.var 0) (.var 1) (.frz 5 (.var 0) (.call 24 [(.var 6)] (.call 31 [(.var 0)] (.new [(.val (.int .i64 0)), (.val (.int .i64 0))] (.sto 2 (.var 0) (.var 1) (.frz 9 (.var 0) (.og (.lodA 2 (.var 0)) (.og (.lodA 2 (.var 5)) (.call 26 [(.var 1), (.var 0)] (.og (.aun .not (.var 0)) (.apick (.var 0) (.ret (.lit (.val (.bool false)))) (.call 24 [(.var 14)] (.call 27 [(.var 8), (.var 0)] (.og (.aun .not (.var 0)) (.apick (.var 0) (.ret (.lit (.val (.bool false)))) (.ret (.lit (.val (.bool true)))))))))))))))))))))))))
set_option maxRecDepth 1000000 in
theorem x7_ok : okF TT Tryz.f7 1 x7 = true := by decide +kernel
set_option maxRecDepth 1000000 in
theorem s_laws_FnExactDeepestOf_ok {a0 : AV} {σ : AH} {R : AEnd → AH → Prop} (h : s_laws_FnExactDeepestOf a0 σ R) : acall TP fn_laws_FnExactDeepestOf [a0] σ R :=
  acall_okF (ρ := [a0]) TT_ok Tryz.func7 rfl x7 x7_ok rfl h

/-- loop.example/g00349/laws.szBlock -/
def s_laws_szBlock (a0 a1 : AV) (σ : AH) (R : AEnd → AH → Prop) : Prop :=
  abox a0 σ fun v2 σ =>
  frz v2 σ fun f2 σ =>
  og (fldA 1 f2) fun v5 =>
  og (lod v5 σ) fun v6 =>
  acall TP fn_laws_szOpS [v6, a1] σ (onr (fun v8 σ =>
  og (ibin .lss v8 (.val (.int .i64 0))) fun v10 =>
  apick v10 (
    aret (.val (.int .i64 (-1))) σ R) (
    aret v8 σ R)) (fun v σ => apan v σ R))
def x11 : Sx := .box (.var 1) (.frz 2 (.var 0) (.og (.fldA 1 (.var 0)) (.og (.lod (.var 0)) (.call 46 [(.var 0), (.var 4)] (.og (.ibin .lss (.var 0) (.lit (.val (.int .i64 0)))) (.apick (.var 0) (.ret (.lit (.val (.int .i64 (-1))))) (.ret (.var 1))))))))
set_option maxRecDepth 1000000 in
theorem x11_ok : okF TT Tryz.f11 2 x11 = true := by decide +kernel
set_option maxRecDepth 1000000 in
theorem s_laws_szBlock_ok {a0 a1 : AV} {σ : AH} {R : AEnd → AH → Prop} (h : s_laws_szBlock a0 a1 σ R) : acall TP fn_laws_szBlock [a0, a1] σ R :=
  acall_okF (ρ := [a1, a0]) TT_ok Tryz.func11 rfl x11 x11_ok rfl h

/-- loop.example/g00349/spec.TargetsIn -/
def s_spec_TargetsIn (a0 : AV) (σ : AH) (R : AEnd → AH → Prop) : Prop :=
  abox a0 σ fun v1 σ =>
  new [(.val (.int .i64 0)), (.val (.slice none 0 0))] σ fun v2 σ =>
  frz v1 σ fun f1 σ =>
  acall TP fn_spec_l9Block [f1] σ (onr (fun v6 σ =>
  og (ibin .neq v6 (.val (.int .i64 0))) fun v8 =>
  apick v8 (
    og (bld [(.val (.int .i64 0)), (.val (.slice none 0 0))] [(0, 1), (1, 1)] [(0, v6)]) fun v10 =>
    sto 2 v2 v10 σ fun σ =>
    og (lodA 2 v2 σ) fun r2 =>
    aret r2 σ R) (
    og (bld [(.val (.int .i64 0)), (.val (.slice none 0 0))] [(0, 1), (1, 1)] []) fun v11 =>
    new [(.val (.int .i64 0)), (.val (.slice none 0 0))] σ fun v4 σ =>
    sto 2 v4 v11 σ fun σ =>
    lp (X := Tup [1, 2, 4, 5]) (fun R1 y1 σ =>
      og (ibin .lss y1.2.2.2.1 (.val (.int .i64 1000))) fun v13 =>
      apick v13 (
        jn (X := Tup [1, 2, 4, 5]) (fun x2 σ =>
            og (ibin .add x2.2.2.2.1 (.val (.int .i64 1))) fun v15 =>
            R1 (x2.1, x2.2.1, x2.2.2.1, v15, ()) σ) fun k2 =>
          acall TP fn_spec_l9IsTarget [y1.1, y1.2.2.2.1] σ (onr (fun v17 σ =>
          apick v17 (
            og (fldA 1 y1.2.2.1) fun v18 =>
            og (lod v18 σ) fun v19 =>
            bsl 1 [(.val (.int .i64 0))] 1 [(0, y1.2.2.2.1)] σ fun v21 σ =>
            app 1 v19 v21 σ fun v22 σ =>
            og (fldA 1 y1.2.2.1) fun v23 =>
            sto 1 v23 v22 σ fun σ =>
            k2 (y1.1, y1.2.1, y1.2.2.1, y1.2.2.2.1, ()) σ) (
            k2 (y1.1, y1.2.1, y1.2.2.1, y1.2.2.2.1, ()) σ)) (fun v σ => apan v σ R))) (
        og (lodA 2 y1.2.2.1 σ) fun v24 =>
        sto 2 y1.2.1 v24 σ fun σ =>
        og (lodA 2 y1.2.1 σ) fun r2 =>
        aret r2 σ R)) (f1, v2, v4, (.val (.int .i64 0)), ()) σ)) (fun v σ => apan v σ R))
def x12 : Sx := .box (.var 0) (.new [(.val (.int .i64 0)), (.val (.slice none 0 0))] (.frz 1 (.var 1) (.call 47 [(.var 0)] (.og (.ibin .neq (.var 0) (.lit (.val (.int .i64 0)))) (.apick (.var 0) (.og (.bld [(.val (.int .i64 0)), (.val (.slice none 0 0))] [(0, 1), (1, 1)] [(0, (.var 1))]) (.sto 2 (.var 4) (.var 0) (.og (.lodA 2 (.var 4)) (.ret (.var 0))))) (.og (.bld [(.val (.int .i64 0)), (.val (.slice none 0 0))] [(0, 1), (1, 1)] []) (.new [(.val (.int .i64 0)), (.val (.slice none 0 0))] (.sto 2 (.var 0) (.var 1) (.lp [1, 2, 4, 5] (.og (.ibin .lss (.var 3) (.lit (.val (.int .i64 1000)))) (.apick (.var 0) (.jn 979 [1, 2, 4, 5] (.og (.ibin .add (.var 3) (.lit (.val (.int .i64 1)))) (.jump 0 [(.var 1), (.var 2), (.var 3), (.var 0)])) (.call 48 [(.var 1), (.var 4)] (.apick (.var 0) (.og (.fldA 1 (.var 4)) (.og (.lod (.var 0)) (.bsl 1 [(.val (.int .i64 0))] 1 [(0, (.var 7))] (.app 1 (.var 1) (.var 0) (.og (.fldA 1 (.var 8)) (.sto 1 (.var 0) (.var 1) (.jump 0 [(.var 7), (.var 8), (.var 9), (.var 10)]))))))) (.jump 0 [(.var 2), (.var 3), (.var 4), (.var 5)])))) (.og (.lodA 2 (.var 3)) (.sto 2 (.var 3) (.var 0) (.og (.lodA 2 (.var 3)) (.ret (.var 0))))))) [(.var 4), (.var 5), (.var 0), (.lit (.val (.int .i64 0)))])))))))))
set_option maxRecDepth 1000000 in
theorem x12_ok : okF TT Tryz.f12 1 x12 = true := by decide +kernel
set_option maxRecDepth 1000000 in
theorem s_spec_TargetsIn_ok {a0 : AV} {σ : AH} {R : AEnd → AH → Prop} (h : s_spec_TargetsIn a0 σ R) : acall TP fn_spec_TargetsIn [a0] σ R :=
  acall_okF (ρ := [a0]) TT_ok Tryz.func12 rfl x12 x12_ok rfl h

/-- loop.example/g00349/laws.toBlock -/
def s_laws_toBlock (a0 : AV) (σ : AH) (R : AEnd → AH → Prop) : Prop :=
  abox a0 σ fun v1 σ =>
  new [(.val (.int .i64 0)), (.val (.slice none 0 0))] σ fun v2 σ =>
  frz v1 σ fun f1 σ =>
  new [(.val (.int .i64 0)), (.val (.slice none 0 0))] σ fun v3 σ =>
  og (fldA 0 f1) fun v4 =>
  og (lod v4 σ) fun v5 =>
  og (fldA 0 v3) fun v6 =>
  sto 1 v6 v5 σ fun σ =>
  og (fldA 1 f1) fun v7 =>
  og (lod v7 σ) fun v8 =>
  acall TP fn_laws_toOpS [v8] σ (onr (fun v9 σ =>
  og (fldA 1 v3) fun v10 =>
  sto 1 v10 v9 σ fun σ =>
  frz v3 σ fun f3 σ =>
  og (lodA 2 f3 σ) fun v11 =>
  sto 2 v2 v11 σ fun σ =>
  og (lodA 2 v2 σ) fun r2 =>
  aret r2 σ R) (fun v σ => apan v σ R))
def x13 : Sx := .box (.var 0) (.new [(.val (.int .i64 0)), (.val (.slice none 0 0))] (.frz 1 (.var 1) (.new [(.val (.int .i64 0)), (.val (.slice none 0 0))] (.og (.fldA 0 (.var 1)) (.og (.lod (.var 0)) (.og (.fldA 0 (.var 2)) (.sto 1 (.var 0) (.var 1) (.og (.fldA 1 (.var 4)) (.og (.lod (.var 0)) (.call 49 [(.var 0)] (.og (.fldA 1 (.var 6)) (.sto 1 (.var 0) (.var 1) (.frz 4 (.var 7) (.og (.lodA 2 (.var 0)) (.sto 2 (.var 11) (.var 0) (.og (.lodA 2 (.var 11)) (.ret (.var 0))))))))))))))))))
set_option maxRecDepth 1000000 in
theorem x13_ok : okF TT Tryz.f13 1 x13 = true := by decide +kernel
set_option maxRecDepth 1000000 in
theorem s_laws_toBlock_ok {a0 : AV} {σ : AH} {R : AEnd → AH → Prop} (h : s_laws_toBlock a0 σ R) : acall TP fn_laws_toBlock [a0] σ R :=
  acall_okF (ρ := [a0]) TT_ok Tryz.func13 rfl x13 x13_ok rfl h

/-- loop.example/g00349/impl.TargetsIn -/
def s_impl_TargetsIn (a0 : AV) (σ : AH) (R : AEnd → AH → Prop) : Prop :=
  abox a0 σ fun v1 σ =>
  new [(.val (.int .i64 0)), (.val (.slice none 0 0))] σ fun v2 σ =>
  frz v1 σ fun f1 σ =>
  og (lodA 2 f1 σ) fun v4 =>
  acall TP fn_impl_blockFault [v4] σ (onr (fun v5 σ =>
  og (ibin .neq v5 (.val (.int .i64 0))) fun v7 =>
  apick v7 (
    og (bld [(.val (.int .i64 0)), (.val (.slice none 0 0))] [(0, 1), (1, 1)] [(0, v5)]) fun v9 =>
    sto 2 v2 v9 σ fun σ =>
    og (lodA 2 v2 σ) fun r2 =>
    aret r2 σ R) (
    og (lodA 2 f1 σ) fun v10 =>
    acall TP fn_impl_targets [v10] σ (onr (fun v11 σ =>
    og (bld [(.val (.int .i64 0)), (.val (.slice none 0 0))] [(0, 1), (1, 1)] [(1, v11)]) fun v12 =>
    sto 2 v2 v12 σ fun σ =>
    og (lodA 2 v2 σ) fun r2 =>
    aret r2 σ R) (fun v σ => apan v σ R)))) (fun v σ => apan v σ R))
def x14 : Sx := .box (.var 0) (.new [(.val (.int .i64 0)), (.val (.slice none 0 0))] (.frz 1 (.var 1) (.og (.lodA 2 (.var 0)) (.call 50 [(.var 0)] (.og (.ibin .neq (.var 0) (.lit (.val (.int .i64 0)))) (.apick (.var 0) (.og (.bld [(.val (.int .i64 0)), (.val (.slice none 0 0))] [(0, 1), (1, 1)] [(0, (.var 1))]) (.sto 2 (.var 5) (.var 0) (.og (.lodA 2 (.var 5)) (.ret (.var 0))))) (.og (.lodA 2 (.var 3)) (.call 51 [(.var 0)] (.og (.bld [(.val (.int .i64 0)), (.val (.slice none 0 0))] [(0, 1), (1, 1)] [(1, (.var 0))]) (.sto 2 (.var 7) (.var 0) (.og (.lodA 2 (.var 7)) (.ret (.var 0)))))))))))))
set_option maxRecDepth 1000000 in
theorem x14_ok : okF TT Tryz.f14 1 x14 = true := by decide +kernel
set_option maxRecDepth 1000000 in
theorem s_impl_TargetsIn_ok {a0 : AV} {σ : AH} {R : AEnd → AH → Prop} (h : s_impl_TargetsIn a0 σ R) : acall TP fn_impl_TargetsIn [a0] σ R :=
  acall_okF (ρ := [a0]) TT_ok Tryz.func14 rfl x14 x14_ok rfl h

/-- loop.example/g00349/laws.eqIntsResult -/
def s_laws_eqIntsResult (a0 a1 : AV) (σ : AH) (R : AEnd → AH → Prop) : Prop :=
  abox a0 σ fun v2 σ =>
  abox a1 σ fun v3 σ =>
  frz v2 σ fun f2 σ =>
  frz v3 σ fun f3 σ =>
  og (fldA 0 f2) fun v5 =>
  og (lod v5 σ) fun v6 =>
  og (fldA 0 f3) fun v7 =>
  og (lod v7 σ) fun v8 =>
  og (ibin .neq v6 v8) fun v9 =>
  apick v9 (
    aret (.val (.bool false)) σ R) (
    og (fldA 1 f2) fun v10 =>
    og (lod v10 σ) fun v11 =>
    og (fldA 1 f3) fun v12 =>
    og (lod v12 σ) fun v13 =>
    acall TP fn_laws_eqInt64S [v11, v13] σ (onr (fun v14 σ =>
    og (aun .not v14) fun v15 =>
    apick v15 (
      aret (.val (.bool false)) σ R) (
      aret (.val (.bool true)) σ R)) (fun v σ => apan v σ R)))
def x15 : Sx := .box (.var 1) (.box (.var 1) (.frz 2 (.var 1) (.frz 3 (.var 1) (.og (.fldA 0 (.var 1)) (.og (.lod (.var 0)) (.og (.fldA 0 (.var 2)) (.og (.lod (.var 0)) (.og (.ibin .neq (.var 2) (.var 0)) (.apick (.var 0) (.ret (.lit (.val (.bool false)))) (.og (.fldA 1 (.var 6)) (.og (.lod (.var 0)) (.og (.fldA 1 (.var 7)) (.og (.lod (.var 0)) (.call 52 [(.var 2), (.var 0)] (.og (.aun .not (.var 0)) (.apick (.var 0) (.ret (.lit (.val (.bool false)))) (.ret (.lit (.val (.bool true))))))))))))))))))))
set_option maxRecDepth 1000000 in
theorem x15_ok : okF TT Tryz.f15 2 x15 = true := by decide +kernel
set_option maxRecDepth 1000000 in
theorem s_laws_eqIntsResult_ok {a0 a1 : AV} {σ : AH} {R : AEnd → AH → Prop} (h : s_laws_eqIntsResult a0 a1 σ R) : acall TP fn_laws_eqIntsResult [a0, a1] σ R :=
  acall_okF (ρ := [a1, a0]) TT_ok Tryz.func15 rfl x15 x15_ok rfl h

/-- loop.example/g00349/laws.eqBlock -/
def s_laws_eqBlock (a0 a1 : AV) (σ : AH) (R : AEnd → AH → Prop) : Prop :=
  abox a0 σ fun v2 σ =>
  abox a1 σ fun v3 σ =>
  frz v2 σ fun f2 σ =>
  frz v3 σ fun f3 σ =>
  og (fldA 0 f2) fun v5 =>
  og (lod v5 σ) fun v6 =>
  og (fldA 0 f3) fun v7 =>
  og (lod v7 σ) fun v8 =>
  og (ibin .neq v6 v8) fun v9 =>
  apick v9 (
    aret (.val (.bool false)) σ R) (
    og (fldA 1 f2) fun v10 =>
    og (lod v10 σ) fun v11 =>
    og (fldA 1 f3) fun v12 =>
    og (lod v12 σ) fun v13 =>
    acall TP fn_laws_eqOpS [v11, v13] σ (onr (fun v14 σ =>
    og (aun .not v14) fun v15 =>
    apick v15 (
      aret (.val (.bool false)) σ R) (
      aret (.val (.bool true)) σ R)) (fun v σ => apan v σ R)))
def x16 : Sx := .box (.var 1) (.box (.var 1) (.frz 2 (.var 1) (.frz 3 (.var 1) (.og (.fldA 0 (.var 1)) (.og (.lod (.var 0)) (.og (.fldA 0 (.var 2)) (.og (.lod (.var 0)) (.og (.ibin .neq (.var 2) (.var 0)) (.apick (.var 0) (.ret (.lit (.val (.bool false)))) (.og (.fldA 1 (.var 6)) (.og (.lod (.var 0)) (.og (.fldA 1 (.var 7)) (.og (.lod (.var 0)) (.call 53 [(.var 2), (.var 0)] (.og (.aun .not (.var 0)) (.apick (.var 0) (.ret (.lit (.val (.bool false)))) (.ret (.lit (.val (.bool true))))))))))))))))))))
set_option maxRecDepth 1000000 in
theorem x16_ok : okF TT Tryz.f16 2 x16 = true := by decide +kernel
set_option maxRecDepth 1000000 in
theorem s_laws_eqBlock_ok {a0 a1 : AV} {σ : AH} {R : AEnd → AH → Prop} (h : s_laws_eqBlock a0 a1 σ R) : acall TP fn_laws_eqBlock [a0, a1] σ R :=
  acall_okF (ρ := [a1, a0]) TT_ok Tryz.func16 rfl x16 x16_ok rfl h

/-- loop.example/g00349/laws.markBlock -/
def s_laws_markBlock (a0 a1 : AV) (σ : AH) (R : AEnd → AH → Prop) : Prop :=
  abox a0 σ fun v2 σ =>
  frz v2 σ fun f2 σ =>
  og (fldA 1 f2) fun v5 =>
  og (lod v5 σ) fun v6 =>
  acall TP fn_laws_markOpS [v6, a1] σ (onr (fun v8 σ =>
  aret v8 σ R) (fun v σ => apan v σ R))
def x17 : Sx := .box (.var 1) (.frz 2 (.var 0) (.og (.fldA 1 (.var 0)) (.og (.lod (.var 0)) (.call 54 [(.var 0), (.var 4)] (.ret (.var 0))))))
set_option maxRecDepth 1000000 in
theorem x17_ok : okF TT Tryz.f17 2 x17 = true := by decide +kernel
set_option maxRecDepth 1000000 in
theorem s_laws_markBlock_ok {a0 a1 : AV} {σ : AH} {R : AEnd → AH → Prop} (h : s_laws_markBlock a0 a1 σ R) : acall TP fn_laws_markBlock [a0, a1] σ R :=
  acall_okF (ρ := [a1, a0]) TT_ok Tryz.func17 rfl x17 x17_ok rfl h

/-- loop.example/g00349/laws.markIntsResult -/
def s_laws_markIntsResult (a0 a1 : AV) (σ : AH) (R : AEnd → AH → Prop) : Prop :=
  abox a0 σ fun v2 σ =>
  frz v2 σ fun f2 σ =>
  og (fldA 1 f2) fun v5 =>
  og (lod v5 σ) fun v6 =>
  acall TP fn_laws_markInt64S [v6, a1] σ (onr (fun v8 σ =>
  aret v8 σ R) (fun v σ => apan v σ R))
def x18 : Sx := .box (.var 1) (.frz 2 (.var 0) (.og (.fldA 1 (.var 0)) (.og (.lod (.var 0)) (.call 55 [(.var 0), (.var 4)] (.ret (.var 0))))))
set_option maxRecDepth 1000000 in
theorem x18_ok : okF TT Tryz.f18 2 x18 = true := by decide +kernel
set_option maxRecDepth 1000000 in
theorem s_laws_markIntsResult_ok {a0 a1 : AV} {σ : AH} {R : AEnd → AH → Prop} (h : s_laws_markIntsResult a0 a1 σ R) : acall TP fn_laws_markIntsResult [a0, a1] σ R :=
  acall_okF (ρ := [a1, a0]) TT_ok Tryz.func18 rfl x18 x18_ok rfl h

/-- loop.example/g00349/laws.heldIntsResult -/
def s_laws_heldIntsResult (a0 a1 : AV) (σ : AH) (R : AEnd → AH → Prop) : Prop :=
  abox a0 σ fun v2 σ =>
  frz v2 σ fun f2 σ =>
  og (fldA 1 f2) fun v5 =>
  og (lod v5 σ) fun v6 =>
  acall TP fn_laws_heldInt64S [v6, a1] σ (onr (fun v8 σ =>
  og (ibin .lss v8 (.val (.int .i64 0))) fun v10 =>
  apick v10 (
    aret (.val (.int .i64 (-1))) σ R) (
    aret v8 σ R)) (fun v σ => apan v σ R))
def x19 : Sx := .box (.var 1) (.frz 2 (.var 0) (.og (.fldA 1 (.var 0)) (.og (.lod (.var 0)) (.call 56 [(.var 0), (.var 4)] (.og (.ibin .lss (.var 0) (.lit (.val (.int .i64 0)))) (.apick (.var 0) (.ret (.lit (.val (.int .i64 (-1))))) (.ret (.var 1))))))))
set_option maxRecDepth 1000000 in
theorem x19_ok : okF TT Tryz.f19 2 x19 = true := by decide +kernel
set_option maxRecDepth 1000000 in
theorem s_laws_heldIntsResult_ok {a0 a1 : AV} {σ : AH} {R : AEnd → AH → Prop} (h : s_laws_heldIntsResult a0 a1 σ R) : acall TP fn_laws_heldIntsResult [a0, a1] σ R :=
  acall_okF (ρ := [a1, a0]) TT_ok Tryz.func19 rfl x19 x19_ok rfl h

/-- loop.example/g00349/spec.HeightsOf -/
def s_spec_HeightsOf (a0 : AV) (σ : AH) (R : AEnd → AH → Prop) : Prop :=
  abox a0 σ fun v1 σ =>
  new [(.val (.int .i64 0)), (.val (.slice none 0 0))] σ fun v2 σ =>
  frz v1 σ fun f1 σ =>
  acall TP fn_spec_l10Heights [f1] σ (onr (fun v6 σ =>
  og (aext v6 0) fun v7 =>
  og (aext v6 1) fun v8 =>
  og (bld [(.val (.int .i64 0)), (.val (.slice none 0 0))] [(0, 1), (1, 1)] [(0, v8), (1, v7)]) fun v11 =>
  sto 2 v2 v11 σ fun σ =>
  og (lodA 2 v2 σ) fun r2 =>
  aret r2 σ R) (fun v σ => apan v σ R))
def x20 : Sx := .box (.var 0) (.new [(.val (.int .i64 0)), (.val (.slice none 0 0))] (.frz 1 (.var 1) (.call 57 [(.var 0)] (.og (.aext (.var 0) 0) (.og (.aext (.var 1) 1) (.og (.bld [(.val (.int .i64 0)), (.val (.slice none 0 0))] [(0, 1), (1, 1)] [(0, (.var 0)), (1, (.var 1))]) (.sto 2 (.var 5) (.var 0) (.og (.lodA 2 (.var 5)) (.ret (.var 0))))))))))
set_option maxRecDepth 1000000 in
theorem x20_ok : okF TT Tryz.f20 1 x20 = true := by decide +kernel
set_option maxRecDepth 1000000 in
theorem s_spec_HeightsOf_ok {a0 : AV} {σ : AH} {R : AEnd → AH → Prop} (h : s_spec_HeightsOf a0 σ R) : acall TP fn_spec_HeightsOf [a0] σ R :=
  acall_okF (ρ := [a0]) TT_ok Tryz.func20 rfl x20 x20_ok rfl h

/-- loop.example/g00349/impl.HeightsOf -/
def s_impl_HeightsOf (a0 : AV) (σ : AH) (R : AEnd → AH → Prop) : Prop :=
  abox a0 σ fun v1 σ =>
  new [(.val (.int .i64 0)), (.val (.slice none 0 0))] σ fun v2 σ =>
  frz v1 σ fun f1 σ =>
  og (lodA 2 f1 σ) fun v6 =>
  acall TP fn_impl_blockFault [v6] σ (onr (fun v7 σ =>
  og (ibin .neq v7 (.val (.int .i64 0))) fun v9 =>
  apick v9 (
    og (bld [(.val (.int .i64 0)), (.val (.slice none 0 0))] [(0, 1), (1, 1)] [(0, v7)]) fun v11 =>
    sto 2 v2 v11 σ fun σ =>
    og (lodA 2 v2 σ) fun r2 =>
    aret r2 σ R) (
    og (lodA 2 f1 σ) fun v13 =>
    acall TP fn_impl_heightsOf [v13] σ (onr (fun v14 σ =>
    og (aext v14 0) fun v15 =>
    og (aext v14 1) fun v16 =>
    og (aun .not v16) fun v18 =>
    apick v18 (
      og (bld [(.val (.int .i64 0)), (.val (.slice none 0 0))] [(0, 1), (1, 1)] [(0, (.val (.int .i64 1)))]) fun v19 =>
      sto 2 v2 v19 σ fun σ =>
      og (lodA 2 v2 σ) fun r2 =>
      aret r2 σ R) (
      og (bld [(.val (.int .i64 0)), (.val (.slice none 0 0))] [(0, 1), (1, 1)] [(1, v15)]) fun v21 =>
      sto 2 v2 v21 σ fun σ =>
      og (lodA 2 v2 σ) fun r2 =>
      aret r2 σ R)) (fun v σ => apan v σ R)))) (fun v σ => apan v σ R))
def x21 : Sx := .box (.var 0) (.new [(.val (.int .i64 0)), (.val (.slice none 0 0))] (.frz 1 (.var 1) (.og (.lodA 2 (.var 0)) (.call 50 [(.var 0)] (.og (.ibin .neq (.var 0) (.lit (.val (.int .i64 0)))) (.apick (.var 0) (.og (.bld [(.val (.int .i64 0)), (.val (.slice none 0 0))] [(0, 1), (1, 1)] [(0, (.var 1))]) (.sto 2 (.var 5) (.var 0) (.og (.lodA 2 (.var 5)) (.ret (.var 0))))) (.og (.lodA 2 (.var 3)) (.call 58 [(.var 0)] (.og (.aext (.var 0) 0) (.og (.aext (.var 1) 1) (.og (.aun .not (.var 0)) (.apick (.var 0) (.og (.bld [(.val (.int .i64 0)), (.val (.slice none 0 0))] [(0, 1), (1, 1)] [(0, (.lit (.val (.int .i64 1))))]) (.sto 2 (.var 10) (.var 0) (.og (.lodA 2 (.var 10)) (.ret (.var 0))))) (.og (.bld [(.val (.int .i64 0)), (.val (.slice none 0 0))] [(0, 1), (1, 1)] [(1, (.var 2))]) (.sto 2 (.var 10) (.var 0) (.og (.lodA 2 (.var 10)) (.ret (.var 0)))))))))))))))))
set_option maxRecDepth 1000000 in
theorem x21_ok : okF TT Tryz.f21 1 x21 = true := by decide +kernel
set_option maxRecDepth 1000000 in
theorem s_impl_HeightsOf_ok {a0 : AV} {σ : AH} {R : AEnd → AH → Prop} (h : s_impl_HeightsOf a0 σ R) : acall TP fn_impl_HeightsOf [a0] σ R :=
  acall_okF (ρ := [a0]) TT_ok Tryz.func21 rfl x21 x21_ok rfl h

/-- loop.example/g00349/laws.szBlockS -/
def s_laws_szBlockS (a0 a1 : AV) (σ : AH) (R : AEnd → AH → Prop) : Prop :=
  og (lenS a0) fun v8 =>
  og (ibin .sub a1 v8) fun v9 =>
  og (ibin .lss v9 (.val (.int .i64 0))) fun v11 =>
  apick v11 (
    aret (.val (.int .i64 (-1))) σ R) (
    lp (X := Tup [0, 1, 5]) (fun R1 y1 σ =>
      og (lenS y1.1) fun v14 =>
      og (ibin .lss y1.2.2.1 v14) fun v15 =>
      apick v15 (
        og (idx 2 y1.1 y1.2.2.1 σ) fun v20 =>
        og (lodA 2 v20 σ) fun v21 =>
        acall TP fn_laws_szBlock [v21, y1.2.1] σ (onr (fun v23 σ =>
        og (ibin .lss v23 (.val (.int .i64 0))) fun v25 =>
        apick v25 (
          aret (.val (.int .i64 (-1))) σ R) (
          og (ibin .add y1.2.2.1 (.val (.int .i64 1))) fun v17 =>
          R1 (y1.1, v23, v17, ()) σ)) (fun v σ => apan v σ R))) (
        aret y1.2.1 σ R)) (a0, v9, (.val (.int .i64 0)), ()) σ)
def x22 : Sx := .og (.lenS (.var 1)) (.og (.ibin .sub (.var 1) (.var 0)) (.og (.ibin .lss (.var 0) (.lit (.val (.int .i64 0)))) (.apick (.var 0) (.ret (.lit (.val (.int .i64 (-1))))) (.lp [0, 1, 5] (.og (.lenS (.var 0)) (.og (.ibin .lss (.var 3) (.var 0)) (.apick (.var 0) (.og (.idx 2 (.var 2) (.var 4)) (.og (.lodA 2 (.var 0)) (.call 11 [(.var 0), (.var 5)] (.og (.ibin .lss (.var 0) (.lit (.val (.int .i64 0)))) (.apick (.var 0) (.ret (.lit (.val (.int .i64 (-1))))) (.og (.ibin .add (.var 8) (.lit (.val (.int .i64 1)))) (.jump 0 [(.var 7), (.var 2), (.var 0)]))))))) (.ret (.var 3))))) [(.var 4), (.var 1), (.lit (.val (.int .i64 0)))]))))
set_option maxRecDepth 1000000 in
theorem x22_ok : okF TT Tryz.f22 2 x22 = true := by decide +kernel
set_option maxRecDepth 1000000 in
theorem s_laws_szBlockS_ok {a0 a1 : AV} {σ : AH} {R : AEnd → AH → Prop} (h : s_laws_szBlockS a0 a1 σ R) : acall TP fn_laws_szBlockS [a0, a1] σ R :=
  acall_okF (ρ := [a1, a0]) TT_ok Tryz.func22 rfl x22 x22_ok rfl h

/-- loop.example/g00349/spec.BlockAround -/
def s_spec_BlockAround (a0 a1 : AV) (σ : AH) (R : AEnd → AH → Prop) : Prop :=
  new [(.val (.int .i64 0)), (.val (.int .i64 0))] σ fun v4 σ =>
  acall TP fn_spec_l10Fault [a0] σ (onr (fun v9 σ =>
  og (aext v9 0) fun v10 =>
  og (aext v9 1) fun v11 =>
  og (ibin .neq v11 (.val (.int .i64 0))) fun v13 =>
  apick v13 (
    og (bld [(.val (.int .i64 0)), (.val (.int .i64 0))] [(0, 1), (1, 1)] [(0, v11)]) fun v15 =>
    sto 2 v4 v15 σ fun σ =>
    og (lodA 2 v4 σ) fun r4 =>
    aret r4 σ R) (
    og (lenS a0) fun v18 =>
    og (ibin .sub v18 (.val (.int .i64 1))) fun v19 =>
    acall TP fn_spec_l1In [a1, (.val (.int .i64 0)), v19] σ (onr (fun v20 σ =>
    og (aun .not v20) fun v21 =>
    apick v21 (
      og (bld [(.val (.int .i64 0)), (.val (.int .i64 0))] [(0, 1), (1, 1)] [(0, (.val (.int .i64 3)))]) fun v22 =>
      sto 2 v4 v22 σ fun σ =>
      og (lodA 2 v4 σ) fun r4 =>
      aret r4 σ R) (
      og (ibin .eql a1 (.val (.int .i64 0))) fun v24 =>
      apick v24 (
        og (bld [(.val (.int .i64 0)), (.val (.int .i64 0))] [(0, 1), (1, 1)] [(0, (.val (.int .i64 4)))]) fun v25 =>
        sto 2 v4 v25 σ fun σ =>
        og (lodA 2 v4 σ) fun r4 =>
        aret r4 σ R) (
        og (idx 1 v10 a1 σ) fun v28 =>
        og (lod v28 σ) fun v29 =>
        og (bld [(.val (.int .i64 0)), (.val (.int .i64 0))] [(0, 1), (1, 1)] [(1, v29)]) fun v30 =>
        sto 2 v4 v30 σ fun σ =>
        og (lodA 2 v4 σ) fun r4 =>
        aret r4 σ R))) (fun v σ => apan v σ R)))) (fun v σ => apan v σ R))
def x23 : Sx := .new [(.val (.int .i64 0)), (.val (.int .i64 0))] (.call 59 [(.var 2)] (.og (.aext (.var 0) 0) (.og (.aext (.var 1) 1) (.og (.ibin .neq (.var 0) (.lit (.val (.int .i64 0)))) (.apick (.var 0) (.og (.bld [(.val (.int .i64 0)), (.val (.int .i64 0))] [(0, 1), (1, 1)] [(0, (.var 1))]) (.sto 2 (.var 5) (.var 0) (.og (.lodA 2 (.var 5)) (.ret (.var 0))))) (.og (.lenS (.var 6)) (.og (.ibin .sub (.var 0) (.lit (.val (.int .i64 1)))) (.call 60 [(.var 7), (.lit (.val (.int .i64 0))), (.var 0)] (.og (.aun .not (.var 0)) (.apick (.var 0) (.og (.bld [(.val (.int .i64 0)), (.val (.int .i64 0))] [(0, 1), (1, 1)] [(0, (.lit (.val (.int .i64 3))))]) (.sto 2 (.var 9) (.var 0) (.og (.lodA 2 (.var 9)) (.ret (.var 0))))) (.og (.ibin .eql (.var 9) (.lit (.val (.int .i64 0)))) (.apick (.var 0) (.og (.bld [(.val (.int .i64 0)), (.val (.int .i64 0))] [(0, 1), (1, 1)] [(0, (.lit (.val (.int .i64 4))))]) (.sto 2 (.var 10) (.var 0) (.og (.lodA 2 (.var 10)) (.ret (.var 0))))) (.og (.idx 1 (.var 7) (.var 10)) (.og (.lod (.var 0)) (.og (.bld [(.val (.int .i64 0)), (.val (.int .i64 0))] [(0, 1), (1, 1)] [(1, (.var 0))]) (.sto 2 (.var 12) (.var 0) (.og (.lodA 2 (.var 12)) (.ret (.var 0)))))))))))))))))))
set_option maxRecDepth 1000000 in
theorem x23_ok : okF TT Tryz.f23 2 x23 = true := by decide +kernel
set_option maxRecDepth 1000000 in
theorem s_spec_BlockAround_ok {a0 a1 : AV} {σ : AH} {R : AEnd → AH → Prop} (h : s_spec_BlockAround a0 a1 σ R) : acall TP fn_spec_BlockAround [a0, a1] σ R :=
  acall_okF (ρ := [a1, a0]) TT_ok Tryz.func23 rfl x23 x23_ok rfl h

/-- loop.example/g00349/laws.toBlockS -/
def s_laws_toBlockS (a0 : AV) (σ : AH) (R : AEnd → AH → Prop) : Prop :=
  og (lenS a0) fun v6 =>
  amake TT ty_LRiLRiiiiisLRiiisEEE v6 v6 σ fun v7 σ =>
  lp (X := Tup [0, 3, 4]) (fun R1 y1 σ =>
    og (lenS y1.1) fun v10 =>
    og (ibin .lss y1.2.2.1 v10) fun v11 =>
    apick v11 (
      og (idx 2 y1.1 y1.2.2.1 σ) fun v18 =>
      og (lodA 2 v18 σ) fun v19 =>
      acall TP fn_laws_toBlock [v19] σ (onr (fun v20 σ =>
      og (idx 2 y1.2.1 y1.2.2.1 σ) fun v21 =>
      sto 2 v21 v20 σ fun σ =>
      og (ibin .add y1.2.2.1 (.val (.int .i64 1))) fun v13 =>
      R1 (y1.1, y1.2.1, v13, ()) σ) (fun v σ => apan v σ R))) (
      aret y1.2.1 σ R)) (a0, v7, (.val (.int .i64 0)), ()) σ
def x24 : Sx := .og (.lenS (.var 0)) (.mks 44 (.var 0) (.var 0) (.lp [0, 3, 4] (.og (.lenS (.var 0)) (.og (.ibin .lss (.var 3) (.var 0)) (.apick (.var 0) (.og (.idx 2 (.var 2) (.var 4)) (.og (.lodA 2 (.var 0)) (.call 13 [(.var 0)] (.og (.idx 2 (.var 6) (.var 7)) (.sto 2 (.var 0) (.var 1) (.og (.ibin .add (.var 8) (.lit (.val (.int .i64 1)))) (.jump 0 [(.var 7), (.var 8), (.var 0)]))))))) (.ret (.var 3))))) [(.var 2), (.var 0), (.lit (.val (.int .i64 0)))]))
set_option maxRecDepth 1000000 in
theorem x24_ok : okF TT Tryz.f24 1 x24 = true := by decide +kernel
set_option maxRecDepth 1000000 in
theorem s_laws_toBlockS_ok {a0 : AV} {σ : AH} {R : AEnd → AH → Prop} (h : s_laws_toBlockS a0 σ R) : acall TP fn_laws_toBlockS [a0] σ R :=
  acall_okF (ρ := [a0]) TT_ok Tryz.func24 rfl x24 x24_ok rfl h

/-- loop.example/g00349/impl.BlockAround -/
def s_impl_BlockAround (a0 a1 : AV) (σ : AH) (R : AEnd → AH → Prop) : Prop :=
  new [(.val (.int .i64 0)), (.val (.int .i64 0))] σ fun v4 σ =>
  acall TP fn_impl_CodeFault [a0] σ (onr (fun v9 σ =>
  og (ibin .neq v9 (.val (.int .i64 0))) fun v11 =>
  apick v11 (
    og (bld [(.val (.int .i64 0)), (.val (.int .i64 0))] [(0, 1), (1, 1)] [(0, v9)]) fun v13 =>
    sto 2 v4 v13 σ fun σ =>
    og (lodA 2 v4 σ) fun r4 =>
    aret r4 σ R) (
    og (lenS a0) fun v17 =>
    og (ibin .sub v17 (.val (.int .i64 1))) fun v18 =>
    acall TP fn_impl_in [a1, (.val (.int .i64 0)), v18] σ (onr (fun v19 σ =>
    og (aun .not v19) fun v20 =>
    apick v20 (
      og (bld [(.val (.int .i64 0)), (.val (.int .i64 0))] [(0, 1), (1, 1)] [(0, (.val (.int .i64 3)))]) fun v21 =>
      sto 2 v4 v21 σ fun σ =>
      og (lodA 2 v4 σ) fun r4 =>
      aret r4 σ R) (
      og (ibin .eql a1 (.val (.int .i64 0))) fun v24 =>
      apick v24 (
        og (bld [(.val (.int .i64 0)), (.val (.int .i64 0))] [(0, 1), (1, 1)] [(0, (.val (.int .i64 4)))]) fun v25 =>
        sto 2 v4 v25 σ fun σ =>
        og (lodA 2 v4 σ) fun r4 =>
        aret r4 σ R) (
        acall TP fn_impl_around [a0] σ (onr (fun v28 σ =>
        og (aext v28 0) fun v29 =>
        og (aext v28 1) fun v30 =>
        og (idx 1 v29 a1 σ) fun v33 =>
        og (lod v33 σ) fun v34 =>
        og (bld [(.val (.int .i64 0)), (.val (.int .i64 0))] [(0, 1), (1, 1)] [(1, v34)]) fun v35 =>
        sto 2 v4 v35 σ fun σ =>
        og (lodA 2 v4 σ) fun r4 =>
        aret r4 σ R) (fun v σ => apan v σ R))))) (fun v σ => apan v σ R)))) (fun v σ => apan v σ R))
def x25 : Sx := .new [(.val (.int .i64 0)), (.val (.int .i64 0))] (.call 61 [(.var 2)] (.og (.ibin .neq (.var 0) (.lit (.val (.int .i64 0)))) (.apick (.var 0) (.og (.bld [(.val (.int .i64 0)), (.val (.int .i64 0))] [(0, 1), (1, 1)] [(0, (.var 1))]) (.sto 2 (.var 3) (.var 0) (.og (.lodA 2 (.var 3)) (.ret (.var 0))))) (.og (.lenS (.var 4)) (.og (.ibin .sub (.var 0) (.lit (.val (.int .i64 1)))) (.call 62 [(.var 5), (.lit (.val (.int .i64 0))), (.var 0)] (.og (.aun .not (.var 0)) (.apick (.var 0) (.og (.bld [(.val (.int .i64 0)), (.val (.int .i64 0))] [(0, 1), (1, 1)] [(0, (.lit (.val (.int .i64 3))))]) (.sto 2 (.var 7) (.var 0) (.og (.lodA 2 (.var 7)) (.ret (.var 0))))) (.og (.ibin .eql (.var 7) (.lit (.val (.int .i64 0)))) (.apick (.var 0) (.og (.bld [(.val (.int .i64 0)), (.val (.int .i64 0))] [(0, 1), (1, 1)] [(0, (.lit (.val (.int .i64 4))))]) (.sto 2 (.var 8) (.var 0) (.og (.lodA 2 (.var 8)) (.ret (.var 0))))) (.call 63 [(.var 9)] (.og (.aext (.var 0) 0) (.og (.aext (.var 1) 1) (.og (.idx 1 (.var 1) (.var 11)) (.og (.lod (.var 0)) (.og (.bld [(.val (.int .i64 0)), (.val (.int .i64 0))] [(0, 1), (1, 1)] [(1, (.var 0))]) (.sto 2 (.var 13) (.var 0) (.og (.lodA 2 (.var 13)) (.ret (.var 0))))))))))))))))))))
set_option maxRecDepth 1000000 in
theorem x25_ok : okF TT Tryz.f25 2 x25 = true := by decide +kernel
set_option maxRecDepth 1000000 in
theorem s_impl_BlockAround_ok {a0 a1 : AV} {σ : AH} {R : AEnd → AH → Prop} (h : s_impl_BlockAround a0 a1 σ R) : acall TP fn_impl_BlockAround [a0, a1] σ R :=
  acall_okF (ρ := [a1, a0]) TT_ok Tryz.func25 rfl x25 x25_ok rfl h

/-- loop.example/g00349/laws.eqIntResult -/
def s_laws_eqIntResult (a0 a1 : AV) (σ : AH) (R : AEnd → AH → Prop) : Prop :=
  abox a0 σ fun v2 σ =>
  abox a1 σ fun v3 σ =>
  frz v2 σ fun f2 σ =>
  frz v3 σ fun f3 σ =>
  og (fldA 0 f2) fun v5 =>
  og (lod v5 σ) fun v6 =>
  og (fldA 0 f3) fun v7 =>
  og (lod v7 σ) fun v8 =>
  og (ibin .neq v6 v8) fun v9 =>
  apick v9 (
    aret (.val (.bool false)) σ R) (
    og (fldA 1 f2) fun v10 =>
    og (lod v10 σ) fun v11 =>
    og (fldA 1 f3) fun v12 =>
    og (lod v12 σ) fun v13 =>
    og (ibin .neq v11 v13) fun v14 =>
    apick v14 (
      aret (.val (.bool false)) σ R) (
      aret (.val (.bool true)) σ R))
def x26 : Sx := .box (.var 1) (.box (.var 1) (.frz 2 (.var 1) (.frz 3 (.var 1) (.og (.fldA 0 (.var 1)) (.og (.lod (.var 0)) (.og (.fldA 0 (.var 2)) (.og (.lod (.var 0)) (.og (.ibin .neq (.var 2) (.var 0)) (.apick (.var 0) (.ret (.lit (.val (.bool false)))) (.og (.fldA 1 (.var 6)) (.og (.lod (.var 0)) (.og (.fldA 1 (.var 7)) (.og (.lod (.var 0)) (.og (.ibin .neq (.var 2) (.var 0)) (.apick (.var 0) (.ret (.lit (.val (.bool false)))) (.ret (.lit (.val (.bool true)))))))))))))))))))
set_option maxRecDepth 1000000 in
theorem x26_ok : okF TT Tryz.f26 2 x26 = true := by decide +kernel
set_option maxRecDepth 1000000 in
theorem s_laws_eqIntResult_ok {a0 a1 : AV} {σ : AH} {R : AEnd → AH → Prop} (h : s_laws_eqIntResult a0 a1 σ R) : acall TP fn_laws_eqIntResult [a0, a1] σ R :=
  acall_okF (ρ := [a1, a0]) TT_ok Tryz.func26 rfl x26 x26_ok rfl h

/-- loop.example/g00349/laws.eqBlockS -/
def s_laws_eqBlockS (a0 a1 : AV) (σ : AH) (R : AEnd → AH → Prop) : Prop :=
  og (lenS a0) fun v7 =>
  og (lenS a1) fun v9 =>
  og (ibin .neq v7 v9) fun v10 =>
  apick v10 (
    aret (.val (.bool false)) σ R) (
    lp (X := Tup [0, 1, 5]) (fun R1 y1 σ =>
      og (lenS y1.1) fun v13 =>
      og (ibin .lss y1.2.2.1 v13) fun v14 =>
      apick v14 (
        og (idx 2 y1.1 y1.2.2.1 σ) fun v19 =>
        og (lodA 2 v19 σ) fun v20 =>
        og (idx 2 y1.2.1 y1.2.2.1 σ) fun v23 =>
        og (lodA 2 v23 σ) fun v24 =>
        acall TP fn_laws_eqBlock [v20, v24] σ (onr (fun v25 σ =>
        (True) ∧
        og (aun .not v25) fun v26 =>
        apick v26 (
          aret (.val (.bool false)) σ R) (
          og (ibin .add y1.2.2.1 (.val (.int .i64 1))) fun v16 =>
          R1 (y1.1, y1.2.1, v16, ()) σ)) (fun v σ => apan v σ R))) (
        aret (.val (.bool true)) σ R)) (a0, a1, (.val (.int .i64 0)), ()) σ)
def x27 : Sx := .og (.lenS (.var 1)) (.og (.lenS (.var 1)) (.og (.ibin .neq (.var 1) (.var 0)) (.apick (.var 0) (.ret (.lit (.val (.bool false)))) (.lp [0, 1, 5] (.og (.lenS (.var 0)) (.og (.ibin .lss (.var 3) (.var 0)) (.apick (.var 0) (.ord [0, 1, 2, 3, 4, 5, 6, 7, 8, 9] [0, 0, 3, 7, 0, 0, 48, 112, 255, 511] (.og (.idx 2 (.var 2) (.var 4)) (.og (.lodA 2 (.var 0)) (.og (.idx 2 (.var 5) (.var 6)) (.og (.lodA 2 (.var 0)) (.call 16 [(.var 2), (.var 0)] (.wat [] (.og (.aun .not (.var 0)) (.apick (.var 0) (.ret (.lit (.val (.bool false)))) (.og (.ibin .add (.var 10) (.lit (.val (.int .i64 1)))) (.jump 0 [(.var 9), (.var 10), (.var 0)]))))))))))) (.ret (.lit (.val (.bool true))))))) [(.var 4), (.var 3), (.lit (.val (.int .i64 0)))]))))
set_option maxRecDepth 1000000 in
theorem x27_ok : okF TT Tryz.f27 2 x27 = true := by decide +kernel
set_option maxRecDepth 1000000 in
theorem s_laws_eqBlockS_ok {a0 a1 : AV} {σ : AH} {R : AEnd → AH → Prop} (h : s_laws_eqBlockS a0 a1 σ R) : acall TP fn_laws_eqBlockS [a0, a1] σ R :=
  acall_okF (ρ := [a1, a0]) TT_ok Tryz.func27 rfl x27 x27_ok rfl h

/-- loop.example/g00349/spec.FusedIn -/
def s_spec_FusedIn (a0 : AV) (σ : AH) (R : AEnd → AH → Prop) : Prop :=
  new [(.val (.int .i64 0)), (.val (.int .i64 0))] σ fun v2 σ =>
  acall TP fn_spec_l10Fault [a0] σ (onr (fun v10 σ =>
  og (aext v10 0) fun v11 =>
  og (aext v10 1) fun v12 =>
  og (ibin .neq v12 (.val (.int .i64 0))) fun v14 =>
  apick v14 (
    og (bld [(.val (.int .i64 0)), (.val (.int .i64 0))] [(0, 1), (1, 1)] [(0, v12)]) fun v16 =>
    sto 2 v2 v16 σ fun σ =>
    og (lodA 2 v2 σ) fun r2 =>
    aret r2 σ R) (
    lp (X := Tup [0, 2, 5, 6]) (fun R1 y1 σ =>
      og (lenS y1.1) fun v19 =>
      og (ibin .lss y1.2.2.2.1 v19) fun v20 =>
      apick v20 (
        lp (X := Tup [0, 2, 5, 6, 7]) (fun R2 y2 σ =>
          og (idx 2 y2.1 y2.2.2.2.1 σ) fun v26 =>
          og (fldA 1 v26) fun v27 =>
          og (lod v27 σ) fun v28 =>
          og (lenS v28) fun v29 =>
          og (ibin .lss y2.2.2.2.2.1 v29) fun v30 =>
          apick v30 (
            jn (X := Tup [0, 2, 5, 6, 7]) (fun x3 σ =>
                og (ibin .add x3.2.2.2.2.1 (.val (.int .i64 1))) fun v32 =>
                R2 (x3.1, x3.2.1, x3.2.2.1, x3.2.2.2.1, v32, ()) σ) fun k3 =>
              og (idx 2 y2.1 y2.2.2.2.1 σ) fun v35 =>
              og (fldA 1 v35) fun v36 =>
              og (lod v36 σ) fun v37 =>
              og (idx 7 v37 y2.2.2.2.2.1 σ) fun v39 =>
              og (fldA 0 v39) fun v40 =>
              og (lod v40 σ) fun v41 =>
              og (ibin .gtr v41 (.val (.int .i64 12))) fun v42 =>
              apick v42 (
                og (ibin .add y2.2.2.1 (.val (.int .i64 1))) fun v44 =>
                k3 (y2.1, y2.2.1, v44, y2.2.2.2.1, y2.2.2.2.2.1, ()) σ) (
                k3 (y2.1, y2.2.1, y2.2.2.1, y2.2.2.2.1, y2.2.2.2.2.1, ()) σ)) (
            og (ibin .add y2.2.2.2.1 (.val (.int .i64 1))) fun v22 =>
            R1 (y2.1, y2.2.1, y2.2.2.1, v22, ()) σ)) (y1.1, y1.2.1, y1.2.2.1, y1.2.2.2.1, (.val (.int .i64 0)), ()) σ) (
        og (bld [(.val (.int .i64 0)), (.val (.int .i64 0))] [(0, 1), (1, 1)] [(1, y1.2.2.1)]) fun v46 =>
        sto 2 y1.2.1 v46 σ fun σ =>
        og (lodA 2 y1.2.1 σ) fun r2 =>
        aret r2 σ R)) (a0, v2, (.val (.int .i64 0)), (.val (.int .i64 0)), ()) σ)) (fun v σ => apan v σ R))
def x28 : Sx := .new [(.val (.int .i64 0)), (.val (.int .i64 0))] (.call 59 [(.var 1)] (.og (.aext (.var 0) 0) (.og (.aext (.var 1) 1) (.og (.ibin .neq (.var 0) (.lit (.val (.int .i64 0)))) (.apick (.var 0) (.og (.bld [(.val (.int .i64 0)), (.val (.int .i64 0))] [(0, 1), (1, 1)] [(0, (.var 1))]) (.sto 2 (.var 5) (.var 0) (.og (.lodA 2 (.var 5)) (.ret (.var 0))))) (.lp [0, 2, 5, 6] (.og (.lenS (.var 0)) (.og (.ibin .lss (.var 4) (.var 0)) (.apick (.var 0) (.lp [0, 2, 5, 6, 7] (.og (.idx 2 (.var 0) (.var 3)) (.og (.fldA 1 (.var 0)) (.og (.lod (.var 0)) (.og (.lenS (.var 0)) (.og (.ibin .lss (.var 8) (.var 0)) (.apick (.var 0) (.jn 62611 [0, 2, 5, 6, 7] (.og (.ibin .add (.var 4) (.lit (.val (.int .i64 1)))) (.jump 0 [(.var 1), (.var 2), (.var 3), (.var 4), (.var 0)])) (.og (.idx 2 (.var 5) (.var 8)) (.og (.fldA 1 (.var 0)) (.og (.lod (.var 0)) (.og (.idx 7 (.var 0) (.var 12)) (.og (.fldA 0 (.var 0)) (.og (.lod (.var 0)) (.og (.ibin .gtr (.var 0) (.lit (.val (.int .i64 12)))) (.apick (.var 0) (.og (.ibin .add (.var 14) (.lit (.val (.int .i64 1)))) (.jump 0 [(.var 13), (.var 14), (.var 0), (.var 16), (.var 17)])) (.jump 0 [(.var 12), (.var 13), (.var 14), (.var 15), (.var 16)])))))))))) (.og (.ibin .add (.var 8) (.lit (.val (.int .i64 1)))) (.jump 1 [(.var 6), (.var 7), (.var 8), (.var 0)])))))))) [(.var 2), (.var 3), (.var 4), (.var 5), (.lit (.val (.int .i64 0)))]) (.og (.bld [(.val (.int .i64 0)), (.val (.int .i64 0))] [(0, 1), (1, 1)] [(1, (.var 4))]) (.sto 2 (.var 4) (.var 0) (.og (.lodA 2 (.var 4)) (.ret (.var 0)))))))) [(.var 5), (.var 4), (.lit (.val (.int .i64 0))), (.lit (.val (.int .i64 0)))]))))))
set_option maxRecDepth 1000000 in
theorem x28_ok : okF TT Tryz.f28 1 x28 = true := by decide +kernel
set_option maxRecDepth 1000000 in
theorem s_spec_FusedIn_ok {a0 : AV} {σ : AH} {R : AEnd → AH → Prop} (h : s_spec_FusedIn a0 σ R) : acall TP fn_spec_FusedIn [a0] σ R :=
  acall_okF (ρ := [a0]) TT_ok Tryz.func28 rfl x28 x28_ok rfl h

/-- loop.example/g00349/impl.FusedIn -/
def s_impl_FusedIn (a0 : AV) (σ : AH) (R : AEnd → AH → Prop) : Prop :=
  new [(.val (.int .i64 0)), (.val (.int .i64 0))] σ fun v2 σ =>
  acall TP fn_impl_CodeFault [a0] σ (onr (fun v10 σ =>
  og (ibin .neq v10 (.val (.int .i64 0))) fun v12 =>
  apick v12 (
    og (bld [(.val (.int .i64 0)), (.val (.int .i64 0))] [(0, 1), (1, 1)] [(0, v10)]) fun v14 =>
    sto 2 v2 v14 σ fun σ =>
    og (lodA 2 v2 σ) fun r2 =>
    aret r2 σ R) (
    og (lenS a0) fun v16 =>
    lp (X := Tup [2, 4, 15, 16, 17]) (fun R1 y1 σ =>
      og (ibin .lss y1.2.2.2.2.1 y1.2.2.2.1) fun v18 =>
      apick v18 (
        og (idx 2 y1.2.2.1 y1.2.2.2.2.1 σ) fun v19 =>
        og (lodA 2 v19 σ) fun v20 =>
        new [(.val (.int .i64 0)), (.val (.slice none 0 0))] σ fun v6 σ =>
        sto 2 v6 v20 σ fun σ =>
        frz v6 σ fun f6 σ =>
        og (fldA 1 f6) fun v21 =>
        og (lod v21 σ) fun v22 =>
        og (lenS v22) fun v23 =>
        lp (X := Tup [2, 4, 15, 16, 17, 22, 23, 24]) (fun R2 y2 σ =>
          og (ibin .lss y2.2.2.2.2.2.2.2.1 y2.2.2.2.2.2.2.1) fun v25 =>
          apick v25 (
            jn (X := Tup [2, 4, 15, 16, 17, 22, 23, 24]) (fun x3 σ =>
                og (ibin .add x3.2.2.2.2.2.2.2.1 (.val (.int .i64 1))) fun v32 =>
                R2 (x3.1, x3.2.1, x3.2.2.1, x3.2.2.2.1, x3.2.2.2.2.1, x3.2.2.2.2.2.1, x3.2.2.2.2.2.2.1, v32, ()) σ) fun k3 =>
              og (idx 7 y2.2.2.2.2.2.1 y2.2.2.2.2.2.2.2.1 σ) fun v26 =>
              og (lodA 7 v26 σ) fun v27 =>
              new [(.val (.int .i64 0)), (.val (.int .i64 0)), (.val (.int .i64 0)), (.val (.int .i64 0)), (.val (.int .i64 0)), (.val (.string ⟨#[]⟩)), (.val (.slice none 0 0))] σ fun v8 σ =>
              sto 7 v8 v27 σ fun σ =>
              frz v8 σ fun f8 σ =>
              og (lodA 7 f8 σ) fun v28 =>
              acall TP fn_impl_Op_isFused [v28] σ (onr (fun v29 σ =>
              apick v29 (
                og (ibin .add y2.2.1 (.val (.int .i64 1))) fun v31 =>
                k3 (y2.1, v31, y2.2.2.1, y2.2.2.2.1, y2.2.2.2.2.1, y2.2.2.2.2.2.1, y2.2.2.2.2.2.2.1, y2.2.2.2.2.2.2.2.1, ()) σ) (
                k3 (y2.1, y2.2.1, y2.2.2.1, y2.2.2.2.1, y2.2.2.2.2.1, y2.2.2.2.2.2.1, y2.2.2.2.2.2.2.1, y2.2.2.2.2.2.2.2.1, ()) σ)) (fun v σ => apan v σ R))) (
            og (ibin .add y2.2.2.2.2.1 (.val (.int .i64 1))) fun v33 =>
            R1 (y2.1, y2.2.1, y2.2.2.1, y2.2.2.2.1, v33, ()) σ)) (y1.1, y1.2.1, y1.2.2.1, y1.2.2.2.1, y1.2.2.2.2.1, v22, v23, (.val (.int .i64 0)), ()) σ) (
        og (bld [(.val (.int .i64 0)), (.val (.int .i64 0))] [(0, 1), (1, 1)] [(1, y1.2.1)]) fun v35 =>
        sto 2 y1.1 v35 σ fun σ =>
        og (lodA 2 y1.1 σ) fun r2 =>
        aret r2 σ R)) (v2, (.val (.int .i64 0)), a0, v16, (.val (.int .i64 0)), ()) σ)) (fun v σ => apan v σ R))
def x29 : Sx := .new [(.val (.int .i64 0)), (.val (.int .i64 0))] (.call 61 [(.var 1)] (.og (.ibin .neq (.var 0) (.lit (.val (.int .i64 0)))) (.apick (.var 0) (.og (.bld [(.val (.int .i64 0)), (.val (.int .i64 0))] [(0, 1), (1, 1)] [(0, (.var 1))]) (.sto 2 (.var 3) (.var 0) (.og (.lodA 2 (.var 3)) (.ret (.var 0))))) (.og (.lenS (.var 3)) (.lp [2, 4, 15, 16, 17] (.og (.ibin .lss (.var 4) (.var 3)) (.apick (.var 0) (.og (.idx 2 (.var 3) (.var 5)) (.og (.lodA 2 (.var 0)) (.new [(.val (.int .i64 0)), (.val (.slice none 0 0))] (.sto 2 (.var 0) (.var 1) (.frz 8 (.var 0) (.og (.fldA 1 (.var 0)) (.og (.lod (.var 0)) (.og (.lenS (.var 0)) (.lp [2, 4, 15, 16, 17, 22, 23, 24] (.og (.ibin .lss (.var 7) (.var 6)) (.apick (.var 0) (.jn 501351 [2, 4, 15, 16, 17, 22, 23, 24] (.og (.ibin .add (.var 7) (.lit (.val (.int .i64 1)))) (.jump 0 [(.var 1), (.var 2), (.var 3), (.var 4), (.var 5), (.var 6), (.var 7), (.var 0)])) (.og (.idx 7 (.var 6) (.var 8)) (.og (.lodA 7 (.var 0)) (.new [(.val (.int .i64 0)), (.val (.int .i64 0)), (.val (.int .i64 0)), (.val (.int .i64 0)), (.val (.int .i64 0)), (.val (.string ⟨#[]⟩)), (.val (.slice none 0 0))] (.sto 7 (.var 0) (.var 1) (.frz 11 (.var 0) (.og (.lodA 7 (.var 0)) (.call 64 [(.var 0)] (.apick (.var 0) (.og (.ibin .add (.var 8) (.lit (.val (.int .i64 1)))) (.jump 0 [(.var 8), (.var 0), (.var 10), (.var 11), (.var 12), (.var 13), (.var 14), (.var 15)])) (.jump 0 [(.var 7), (.var 8), (.var 9), (.var 10), (.var 11), (.var 12), (.var 13), (.var 14)])))))))))) (.og (.ibin .add (.var 5) (.lit (.val (.int .i64 1)))) (.jump 1 [(.var 2), (.var 3), (.var 4), (.var 5), (.var 0)])))) [(.var 8), (.var 9), (.var 10), (.var 11), (.var 12), (.var 1), (.var 0), (.lit (.val (.int .i64 0)))]))))))))) (.og (.bld [(.val (.int .i64 0)), (.val (.int .i64 0))] [(0, 1), (1, 1)] [(1, (.var 2))]) (.sto 2 (.var 2) (.var 0) (.og (.lodA 2 (.var 2)) (.ret (.var 0))))))) [(.var 3), (.lit (.val (.int .i64 0))), (.var 4), (.var 0), (.lit (.val (.int .i64 0)))])))))
set_option maxRecDepth 1000000 in
theorem x29_ok : okF TT Tryz.f29 1 x29 = true := by decide +kernel
set_option maxRecDepth 1000000 in
theorem s_impl_FusedIn_ok {a0 : AV} {σ : AH} {R : AEnd → AH → Prop} (h : s_impl_FusedIn a0 σ R) : acall TP fn_impl_FusedIn [a0] σ R :=
  acall_okF (ρ := [a0]) TT_ok Tryz.func29 rfl x29 x29_ok rfl h

/-- loop.example/g00349/spec.DeepestOf -/
def s_spec_DeepestOf (a0 : AV) (σ : AH) (R : AEnd → AH → Prop) : Prop :=
  new [(.val (.int .i64 0)), (.val (.int .i64 0))] σ fun v2 σ =>
  acall TP fn_spec_l10Fault [a0] σ (onr (fun v14 σ =>
  og (aext v14 0) fun v15 =>
  og (aext v14 1) fun v16 =>
  og (ibin .neq v16 (.val (.int .i64 0))) fun v18 =>
  apick v18 (
    og (bld [(.val (.int .i64 0)), (.val (.int .i64 0))] [(0, 1), (1, 1)] [(0, v16)]) fun v20 =>
    sto 2 v2 v20 σ fun σ =>
    og (lodA 2 v2 σ) fun r2 =>
    aret r2 σ R) (
    lp (X := Tup [0, 2, 5, 6]) (fun R1 y1 σ =>
      og (lenS y1.1) fun v23 =>
      og (ibin .lss y1.2.2.2.1 v23) fun v24 =>
      apick v24 (
        og (idx 2 y1.1 y1.2.2.2.1 σ) fun v30 =>
        acall TP fn_spec_l10Heights [v30] σ (onr (fun v31 σ =>
        og (aext v31 0) fun v32 =>
        og (aext v31 1) fun v33 =>
        lp (X := Tup [0, 2, 5, 6, 7, 9]) (fun R2 y2 σ =>
          og (lenS y2.2.2.2.2.1) fun v36 =>
          og (ibin .lss y2.2.2.2.2.2.1 v36) fun v37 =>
          apick v37 (
            jn (X := Tup [0, 2, 5, 6, 7, 9]) (fun x3 σ =>
                og (ibin .add x3.2.2.2.2.2.1 (.val (.int .i64 1))) fun v39 =>
                R2 (x3.1, x3.2.1, x3.2.2.1, x3.2.2.2.1, x3.2.2.2.2.1, v39, ()) σ) fun k3 =>
              og (idx 2 y2.1 y2.2.2.2.1 σ) fun v43 =>
              og (fldA 1 v43) fun v44 =>
              og (lod v44 σ) fun v45 =>
              og (idx 7 v45 y2.2.2.2.2.2.1 σ) fun v47 =>
              acall TP fn_spec_l10Takes [v47] σ (onr (fun v48 σ =>
              og (aext v48 0) fun v49 =>
              og (aext v48 1) fun v50 =>
              og (idx 1 y2.2.2.2.2.1 y2.2.2.2.2.2.1 σ) fun v53 =>
              og (lod v53 σ) fun v54 =>
              og (ibin .geq v54 (.val (.int .i64 0))) fun v55 =>
              apick v55 (
                og (idx 1 y2.2.2.2.2.1 y2.2.2.2.2.2.1 σ) fun v59 =>
                og (lod v59 σ) fun v60 =>
                og (idx 1 y2.2.2.2.2.1 y2.2.2.2.2.2.1 σ) fun v63 =>
                og (lod v63 σ) fun v64 =>
                og (ibin .sub v64 v49) fun v66 =>
                og (ibin .add v66 v50) fun v68 =>
                acall TP fn_spec_l1Max [v60, v68] σ (onr (fun v69 σ =>
                (True) ∧
                acall TP fn_spec_l1Max [y2.2.2.1, v69] σ (onr (fun v70 σ =>
                (True) ∧
                k3 (y2.1, y2.2.1, v70, y2.2.2.2.1, y2.2.2.2.2.1, y2.2.2.2.2.2.1, ()) σ) (fun v σ => apan v σ R))) (fun v σ => apan v σ R))) (
                k3 (y2.1, y2.2.1, y2.2.2.1, y2.2.2.2.1, y2.2.2.2.2.1, y2.2.2.2.2.2.1, ()) σ)) (fun v σ => apan v σ R))) (
            og (ibin .add y2.2.2.2.1 (.val (.int .i64 1))) fun v26 =>
            R1 (y2.1, y2.2.1, y2.2.2.1, v26, ()) σ)) (y1.1, y1.2.1, y1.2.2.1, y1.2.2.2.1, v32, (.val (.int .i64 0)), ()) σ) (fun v σ => apan v σ R))) (
        og (bld [(.val (.int .i64 0)), (.val (.int .i64 0))] [(0, 1), (1, 1)] [(1, y1.2.2.1)]) fun v72 =>
        sto 2 y1.2.1 v72 σ fun σ =>
        og (lodA 2 y1.2.1 σ) fun r2 =>
        aret r2 σ R)) (a0, v2, (.val (.int .i64 0)), (.val (.int .i64 0)), ()) σ)) (fun v σ => apan v σ R))
def x30 : Sx := .new [(.val (.int .i64 0)), (.val (.int .i64 0))] (.call 59 [(.var 1)] (.og (.aext (.var 0) 0) (.og (.aext (.var 1) 1) (.og (.ibin .neq (.var 0) (.lit (.val (.int .i64 0)))) (.apick (.var 0) (.og (.bld [(.val (.int .i64 0)), (.val (.int .i64 0))] [(0, 1), (1, 1)] [(0, (.var 1))]) (.sto 2 (.var 5) (.var 0) (.og (.lodA 2 (.var 5)) (.ret (.var 0))))) (.lp [0, 2, 5, 6] (.og (.lenS (.var 0)) (.og (.ibin .lss (.var 4) (.var 0)) (.apick (.var 0) (.og (.idx 2 (.var 2) (.var 5)) (.call 57 [(.var 0)] (.og (.aext (.var 0) 0) (.og (.aext (.var 1) 1) (.lp [0, 2, 5, 6, 7, 9] (.og (.lenS (.var 4)) (.og (.ibin .lss (.var 6) (.var 0)) (.apick (.var 0) (.jn 125235 [0, 2, 5, 6, 7, 9] (.og (.ibin .add (.var 5) (.lit (.val (.int .i64 1)))) (.jump 0 [(.var 1), (.var 2), (.var 3), (.var 4), (.var 5), (.var 0)])) (.og (.idx 2 (.var 2) (.var 5)) (.og (.fldA 1 (.var 0)) (.og (.lod (.var 0)) (.og (.idx 7 (.var 0) (.var 10)) (.call 65 [(.var 0)] (.og (.aext (.var 0) 0) (.og (.aext (.var 1) 1) (.og (.idx 1 (.var 13) (.var 14)) (.og (.lod (.var 0)) (.og (.ibin .geq (.var 0) (.lit (.val (.int .i64 0)))) (.apick (.var 0) (.ord [0, 1, 2, 3, 4, 5, 6, 7, 8, 9, 10, 11, 12, 13, 14, 15] [0, 0, 0, 6, 14, 0, 0, 96, 224, 0, 992, 0, 4064, 8190, 16383, 32767] (.og (.idx 1 (.var 16) (.var 17)) (.og (.lod (.var 0)) (.og (.idx 1 (.var 18) (.var 19)) (.og (.lod (.var 0)) (.og (.ibin .sub (.var 0) (.var 8)) (.og (.ibin .add (.var 0) (.var 8)) (.call 66 [(.var 4), (.var 0)] (.wat [] (.call 66 [(.var 21), (.var 0)] (.wat [] (.jump 0 [(.var 20), (.var 21), (.var 0), (.var 23), (.var 24), (.var 25)])))))))))))) (.jump 0 [(.var 12), (.var 13), (.var 14), (.var 15), (.var 16), (.var 17)]))))))))))))) (.og (.ibin .add (.var 5) (.lit (.val (.int .i64 1)))) (.jump 1 [(.var 3), (.var 4), (.var 5), (.var 0)]))))) [(.var 6), (.var 7), (.var 8), (.var 9), (.var 1), (.lit (.val (.int .i64 0)))]))))) (.og (.bld [(.val (.int .i64 0)), (.val (.int .i64 0))] [(0, 1), (1, 1)] [(1, (.var 4))]) (.sto 2 (.var 4) (.var 0) (.og (.lodA 2 (.var 4)) (.ret (.var 0)))))))) [(.var 5), (.var 4), (.lit (.val (.int .i64 0))), (.lit (.val (.int .i64 0)))]))))))
set_option maxRecDepth 1000000 in
theorem x30_ok : okF TT Tryz.f30 1 x30 = true := by decide +kernel
set_option maxRecDepth 1000000 in
theorem s_spec_DeepestOf_ok {a0 : AV} {σ : AH} {R : AEnd → AH → Prop} (h : s_spec_DeepestOf a0 σ R) : acall TP fn_spec_DeepestOf [a0] σ R :=
  acall_okF (ρ := [a0]) TT_ok Tryz.func30 rfl x30 x30_ok rfl h

/-- loop.example/g00349/impl.DeepestOf -/
def s_impl_DeepestOf (a0 : AV) (σ : AH) (R : AEnd → AH → Prop) : Prop :=
  new [(.val (.int .i64 0)), (.val (.int .i64 0))] σ fun v2 σ =>
  acall TP fn_impl_CodeFault [a0] σ (onr (fun v12 σ =>
  og (ibin .neq v12 (.val (.int .i64 0))) fun v14 =>
  apick v14 (
    og (bld [(.val (.int .i64 0)), (.val (.int .i64 0))] [(0, 1), (1, 1)] [(0, v12)]) fun v16 =>
    sto 2 v2 v16 σ fun σ =>
    og (lodA 2 v2 σ) fun r2 =>
    aret r2 σ R) (
    og (lenS a0) fun v18 =>
    lp (X := Tup [2, 4, 17, 18, 19]) (fun R1 y1 σ =>
      og (ibin .lss y1.2.2.2.2.1 y1.2.2.2.1) fun v20 =>
      apick v20 (
        og (idx 2 y1.2.2.1 y1.2.2.2.2.1 σ) fun v21 =>
        og (lodA 2 v21 σ) fun v22 =>
        new [(.val (.int .i64 0)), (.val (.slice none 0 0))] σ fun v6 σ =>
        sto 2 v6 v22 σ fun σ =>
        frz v6 σ fun f6 σ =>
        og (lodA 2 f6 σ) fun v24 =>
        acall TP fn_impl_heightsOf [v24] σ (onr (fun v25 σ =>
        og (aext v25 0) fun v26 =>
        og (aext v25 1) fun v27 =>
        og (lenS v26) fun v29 =>
        lp (X := Tup [2, 4, 6, 17, 18, 19, 28, 29, 30]) (fun R2 y2 σ =>
          og (ibin .lss y2.2.2.2.2.2.2.2.2.1 y2.2.2.2.2.2.2.2.1) fun v31 =>
          apick v31 (
            jn (X := Tup [2, 4, 6, 17, 18, 19, 28, 29, 30]) (fun x3 σ =>
                og (ibin .add x3.2.2.2.2.2.2.2.2.1 (.val (.int .i64 1))) fun v55 =>
                R2 (x3.1, x3.2.1, x3.2.2.1, x3.2.2.2.1, x3.2.2.2.2.1, x3.2.2.2.2.2.1, x3.2.2.2.2.2.2.1, x3.2.2.2.2.2.2.2.1, v55, ()) σ) fun k3 =>
              og (idx 1 y2.2.2.2.2.2.2.1 y2.2.2.2.2.2.2.2.2.1 σ) fun v33 =>
              og (lod v33 σ) fun v34 =>
              og (ibin .geq v34 (.val (.int .i64 0))) fun v36 =>
              apick v36 (
                og (fldA 1 y2.2.2.1) fun v40 =>
                og (lod v40 σ) fun v41 =>
                og (idx 7 v41 y2.2.2.2.2.2.2.2.2.1 σ) fun v43 =>
                og (lodA 7 v43 σ) fun v44 =>
                og (fldA 1 y2.2.2.1) fun v47 =>
                og (lod v47 σ) fun v48 =>
                og (idx 7 v48 y2.2.2.2.2.2.2.2.2.1 σ) fun v50 =>
                og (lodA 7 v50 σ) fun v51 =>
                acall TP fn_impl_Op_takes [v44] σ (onr (fun v45 σ =>
                (lodA 7 v50 σ = some v51 ∧ idx 7 v48 y2.2.2.2.2.2.2.2.2.1 σ = some v50 ∧ lod v47 σ = some v48 ∧ True) ∧
                og (ibin .sub v34 v45) fun v46 =>
                acall TP fn_impl_Op_puts [v51] σ (onr (fun v52 σ =>
                (True) ∧
                og (ibin .add v46 v52) fun v53 =>
                og (amm3 true y2.2.1 v34 v53) fun v54 =>
                k3 (y2.1, v54, y2.2.2.1, y2.2.2.2.1, y2.2.2.2.2.1, y2.2.2.2.2.2.1, y2.2.2.2.2.2.2.1, y2.2.2.2.2.2.2.2.1, y2.2.2.2.2.2.2.2.2.1, ()) σ) (fun v σ => apan v σ R))) (fun v σ => apan v σ R))) (
                k3 (y2.1, y2.2.1, y2.2.2.1, y2.2.2.2.1, y2.2.2.2.2.1, y2.2.2.2.2.2.1, y2.2.2.2.2.2.2.1, y2.2.2.2.2.2.2.2.1, y2.2.2.2.2.2.2.2.2.1, ()) σ)) (
            og (ibin .add y2.2.2.2.2.2.1 (.val (.int .i64 1))) fun v56 =>
            R1 (y2.1, y2.2.1, y2.2.2.2.1, y2.2.2.2.2.1, v56, ()) σ)) (y1.1, y1.2.1, f6, y1.2.2.1, y1.2.2.2.1, y1.2.2.2.2.1, v26, v29, (.val (.int .i64 0)), ()) σ) (fun v σ => apan v σ R))) (
        og (bld [(.val (.int .i64 0)), (.val (.int .i64 0))] [(0, 1), (1, 1)] [(1, y1.2.1)]) fun v58 =>
        sto 2 y1.1 v58 σ fun σ =>
        og (lodA 2 y1.1 σ) fun r2 =>
        aret r2 σ R)) (v2, (.val (.int .i64 0)), a0, v18, (.val (.int .i64 0)), ()) σ)) (fun v σ => apan v σ R))
def x31 : Sx := .new [(.val (.int .i64 0)), (.val (.int .i64 0))] (.call 61 [(.var 1)] (.og (.ibin .neq (.var 0) (.lit (.val (.int .i64 0)))) (.apick (.var 0) (.og (.bld [(.val (.int .i64 0)), (.val (.int .i64 0))] [(0, 1), (1, 1)] [(0, (.var 1))]) (.sto 2 (.var 3) (.var 0) (.og (.lodA 2 (.var 3)) (.ret (.var 0))))) (.og (.lenS (.var 3)) (.lp [2, 4, 17, 18, 19] (.og (.ibin .lss (.var 4) (.var 3)) (.apick (.var 0) (.og (.idx 2 (.var 3) (.var 5)) (.og (.lodA 2 (.var 0)) (.new [(.val (.int .i64 0)), (.val (.slice none 0 0))] (.sto 2 (.var 0) (.var 1) (.frz 8 (.var 0) (.og (.lodA 2 (.var 0)) (.call 58 [(.var 0)] (.og (.aext (.var 0) 0) (.og (.aext (.var 1) 1) (.og (.lenS (.var 1)) (.lp [2, 4, 6, 17, 18, 19, 28, 29, 30] (.og (.ibin .lss (.var 8) (.var 7)) (.apick (.var 0) (.jn 1002727 [2, 4, 6, 17, 18, 19, 28, 29, 30] (.og (.ibin .add (.var 8) (.lit (.val (.int .i64 1)))) (.jump 0 [(.var 1), (.var 2), (.var 3), (.var 4), (.var 5), (.var 6), (.var 7), (.var 8), (.var 0)])) (.og (.idx 1 (.var 7) (.var 9)) (.og (.lod (.var 0)) (.og (.ibin .geq (.var 0) (.lit (.val (.int .i64 0)))) (.apick (.var 0) (.ord [0, 1, 2, 3, 4, 5, 6, 7, 10, 11, 12, 13, 14, 8, 9, 15, 16, 17, 18] [0, 0, 0, 0, 8, 0, 56, 120, 248, 508, 0, 1024, 0, 7168, 15360, 32248, 65532, 131071, 262143] (.og (.fldA 1 (.var 6)) (.og (.lod (.var 0)) (.og (.idx 7 (.var 0) (.var 14)) (.og (.lodA 7 (.var 0)) (.og (.fldA 1 (.var 10)) (.og (.lod (.var 0)) (.og (.idx 7 (.var 0) (.var 18)) (.og (.lodA 7 (.var 0)) (.call 67 [(.var 4)] (.wat [⟨none, (.lodA 7 (.var 2)), (.var 1)⟩, ⟨none, (.idx 7 (.var 3) (.var 21)), (.var 2)⟩, ⟨none, (.lod (.var 4)), (.var 3)⟩] (.og (.ibin .sub (.var 10) (.var 0)) (.call 68 [(.var 2)] (.wat [] (.og (.ibin .add (.var 1) (.var 0)) (.og (.amm3 true (.var 17) (.var 13) (.var 0)) (.jump 0 [(.var 17), (.var 0), (.var 19), (.var 20), (.var 21), (.var 22), (.var 23), (.var 24), (.var 25)]))))))))))))))))) (.jump 0 [(.var 4), (.var 5), (.var 6), (.var 7), (.var 8), (.var 9), (.var 10), (.var 11), (.var 12)])))))) (.og (.ibin .add (.var 6) (.lit (.val (.int .i64 1)))) (.jump 1 [(.var 2), (.var 3), (.var 5), (.var 6), (.var 0)])))) [(.var 10), (.var 11), (.var 5), (.var 12), (.var 13), (.var 14), (.var 2), (.var 0), (.lit (.val (.int .i64 0)))]))))))))))) (.og (.bld [(.val (.int .i64 0)), (.val (.int .i64 0))] [(0, 1), (1, 1)] [(1, (.var 2))]) (.sto 2 (.var 2) (.var 0) (.og (.lodA 2 (.var 2)) (.ret (.var 0))))))) [(.var 3), (.lit (.val (.int .i64 0))), (.var 4), (.var 0), (.lit (.val (.int .i64 0)))])))))
set_option maxRecDepth 1000000 in
theorem x31_ok : okF TT Tryz.f31 1 x31 = true := by decide +kernel
set_option maxRecDepth 1000000 in
theorem s_impl_DeepestOf_ok {a0 : AV} {σ : AH} {R : AEnd → AH → Prop} (h : s_impl_DeepestOf a0 σ R) : acall TP fn_impl_DeepestOf [a0] σ R :=
  acall_okF (ρ := [a0]) TT_ok Tryz.func31 rfl x31 x31_ok rfl h

/-- loop.example/g00349/laws.szOpS -/
def s_laws_szOpS (a0 a1 : AV) (σ : AH) (R : AEnd → AH → Prop) : Prop :=
  og (lenS a0) fun v8 =>
  og (ibin .sub a1 v8) fun v9 =>
  og (ibin .lss v9 (.val (.int .i64 0))) fun v11 =>
  apick v11 (
    aret (.val (.int .i64 (-1))) σ R) (
    lp (X := Tup [0, 1, 5]) (fun R1 y1 σ =>
      og (lenS y1.1) fun v14 =>
      og (ibin .lss y1.2.2.1 v14) fun v15 =>
      apick v15 (
        og (idx 7 y1.1 y1.2.2.1 σ) fun v20 =>
        og (lodA 7 v20 σ) fun v21 =>
        acall TP fn_laws_szOp [v21, y1.2.1] σ (onr (fun v23 σ =>
        og (ibin .lss v23 (.val (.int .i64 0))) fun v25 =>
        apick v25 (
          aret (.val (.int .i64 (-1))) σ R) (
          og (ibin .add y1.2.2.1 (.val (.int .i64 1))) fun v17 =>
          R1 (y1.1, v23, v17, ()) σ)) (fun v σ => apan v σ R))) (
        aret y1.2.1 σ R)) (a0, v9, (.val (.int .i64 0)), ()) σ)
def x46 : Sx := .og (.lenS (.var 1)) (.og (.ibin .sub (.var 1) (.var 0)) (.og (.ibin .lss (.var 0) (.lit (.val (.int .i64 0)))) (.apick (.var 0) (.ret (.lit (.val (.int .i64 (-1))))) (.lp [0, 1, 5] (.og (.lenS (.var 0)) (.og (.ibin .lss (.var 3) (.var 0)) (.apick (.var 0) (.og (.idx 7 (.var 2) (.var 4)) (.og (.lodA 7 (.var 0)) (.call 88 [(.var 0), (.var 5)] (.og (.ibin .lss (.var 0) (.lit (.val (.int .i64 0)))) (.apick (.var 0) (.ret (.lit (.val (.int .i64 (-1))))) (.og (.ibin .add (.var 8) (.lit (.val (.int .i64 1)))) (.jump 0 [(.var 7), (.var 2), (.var 0)]))))))) (.ret (.var 3))))) [(.var 4), (.var 1), (.lit (.val (.int .i64 0)))]))))
set_option maxRecDepth 1000000 in
theorem x46_ok : okF TT Tryz.f46 2 x46 = true := by decide +kernel
set_option maxRecDepth 1000000 in
theorem s_laws_szOpS_ok {a0 a1 : AV} {σ : AH} {R : AEnd → AH → Prop} (h : s_laws_szOpS a0 a1 σ R) : acall TP fn_laws_szOpS [a0, a1] σ R :=
  acall_okF (ρ := [a1, a0]) TT_ok Tryz.func46 rfl x46 x46_ok rfl h

/-- loop.example/g00349/spec.l9Block -/
def s_spec_l9Block (a0 : AV) (σ : AH) (R : AEnd → AH → Prop) : Prop :=
  og (anil a0) fun v6 =>
  og (fldA 0 v6) fun v7 =>
  og (lod v7 σ) fun v8 =>
  acall TP fn_spec_l1In [v8, (.val (.int .i64 0)), (.val (.int .i64 3))] σ (onr (fun v9 σ =>
  og (aun .not v9) fun v10 =>
  apick v10 (
    aret (.val (.int .i64 3)) σ R) (
    og (anil a0) fun v12 =>
    og (fldA 1 v12) fun v13 =>
    og (lod v13 σ) fun v14 =>
    og (lenS v14) fun v15 =>
    og (ibin .gtr v15 (.val (.int .i64 200))) fun v16 =>
    apick v16 (
      aret (.val (.int .i64 2)) σ R) (
      lp (X := Tup [0, 3]) (fun R1 y1 σ =>
        og (anil y1.1) fun v19 =>
        og (fldA 1 v19) fun v20 =>
        og (lod v20 σ) fun v21 =>
        og (lenS v21) fun v22 =>
        og (ibin .lss y1.2.1 v22) fun v23 =>
        apick v23 (
          og (anil y1.1) fun v27 =>
          og (fldA 1 v27) fun v28 =>
          og (lod v28 σ) fun v29 =>
          og (idx 7 v29 y1.2.1 σ) fun v31 =>
          acall TP fn_spec_l9Op [v31] σ (onr (fun v32 σ =>
          og (ibin .neq v32 (.val (.int .i64 0))) fun v34 =>
          apick v34 (
            aret v32 σ R) (
            og (ibin .add y1.2.1 (.val (.int .i64 1))) fun v25 =>
            R1 (y1.1, v25, ()) σ)) (fun v σ => apan v σ R))) (
          aret (.val (.int .i64 0)) σ R)) (a0, (.val (.int .i64 0)), ()) σ))) (fun v σ => apan v σ R))
def x47 : Sx := .og (.anil (.var 0)) (.og (.fldA 0 (.var 0)) (.og (.lod (.var 0)) (.call 60 [(.var 0), (.lit (.val (.int .i64 0))), (.lit (.val (.int .i64 3)))] (.og (.aun .not (.var 0)) (.apick (.var 0) (.ret (.lit (.val (.int .i64 3)))) (.og (.anil (.var 5)) (.og (.fldA 1 (.var 0)) (.og (.lod (.var 0)) (.og (.lenS (.var 0)) (.og (.ibin .gtr (.var 0) (.lit (.val (.int .i64 200)))) (.apick (.var 0) (.ret (.lit (.val (.int .i64 2)))) (.lp [0, 3] (.og (.anil (.var 0)) (.og (.fldA 1 (.var 0)) (.og (.lod (.var 0)) (.og (.lenS (.var 0)) (.og (.ibin .lss (.var 5) (.var 0)) (.apick (.var 0) (.og (.anil (.var 5)) (.og (.fldA 1 (.var 0)) (.og (.lod (.var 0)) (.og (.idx 7 (.var 0) (.var 9)) (.call 89 [(.var 0)] (.og (.ibin .neq (.var 0) (.lit (.val (.int .i64 0)))) (.apick (.var 0) (.ret (.var 1)) (.og (.ibin .add (.var 12) (.lit (.val (.int .i64 1)))) (.jump 0 [(.var 12), (.var 0)]))))))))) (.ret (.lit (.val (.int .i64 0)))))))))) [(.var 10), (.lit (.val (.int .i64 0)))]))))))))))))
set_option maxRecDepth 1000000 in
theorem x47_ok : okF TT Tryz.f47 1 x47 = true := by decide +kernel
set_option maxRecDepth 1000000 in
theorem s_spec_l9Block_ok {a0 : AV} {σ : AH} {R : AEnd → AH → Prop} (h : s_spec_l9Block a0 σ R) : acall TP fn_spec_l9Block [a0] σ R :=
  acall_okF (ρ := [a0]) TT_ok Tryz.func47 rfl x47 x47_ok rfl h

/-- loop.example/g00349/spec.l9IsTarget -/
def s_spec_l9IsTarget (a0 a1 : AV) (σ : AH) (R : AEnd → AH → Prop) : Prop :=
  lp (X := Tup [0, 1, 5]) (fun R1 y1 σ =>
    og (anil y1.1) fun v8 =>
    og (fldA 1 v8) fun v9 =>
    og (lod v9 σ) fun v10 =>
    og (lenS v10) fun v11 =>
    og (ibin .lss y1.2.2.1 v11) fun v12 =>
    apick v12 (
      og (anil y1.1) fun v16 =>
      og (fldA 1 v16) fun v17 =>
      og (lod v17 σ) fun v18 =>
      og (idx 7 v18 y1.2.2.1 σ) fun v20 =>
      acall TP fn_spec_l9Target [v20] σ (onr (fun v21 σ =>
      og (ibin .eql v21 y1.2.1) fun v23 =>
      apick v23 (
        aret (.val (.bool true)) σ R) (
        og (ibin .add y1.2.2.1 (.val (.int .i64 1))) fun v14 =>
        R1 (y1.1, y1.2.1, v14, ()) σ)) (fun v σ => apan v σ R))) (
      aret (.val (.bool false)) σ R)) (a0, a1, (.val (.int .i64 0)), ()) σ
def x48 : Sx := .lp [0, 1, 5] (.og (.anil (.var 0)) (.og (.fldA 1 (.var 0)) (.og (.lod (.var 0)) (.og (.lenS (.var 0)) (.og (.ibin .lss (.var 6) (.var 0)) (.apick (.var 0) (.og (.anil (.var 5)) (.og (.fldA 1 (.var 0)) (.og (.lod (.var 0)) (.og (.idx 7 (.var 0) (.var 10)) (.call 90 [(.var 0)] (.og (.ibin .eql (.var 0) (.var 11)) (.apick (.var 0) (.ret (.lit (.val (.bool true)))) (.og (.ibin .add (.var 13) (.lit (.val (.int .i64 1)))) (.jump 0 [(.var 12), (.var 13), (.var 0)]))))))))) (.ret (.lit (.val (.bool false)))))))))) [(.var 1), (.var 0), (.lit (.val (.int .i64 0)))]
set_option maxRecDepth 1000000 in
theorem x48_ok : okF TT Tryz.f48 2 x48 = true := by decide +kernel
set_option maxRecDepth 1000000 in
theorem s_spec_l9IsTarget_ok {a0 a1 : AV} {σ : AH} {R : AEnd → AH → Prop} (h : s_spec_l9IsTarget a0 a1 σ R) : acall TP fn_spec_l9IsTarget [a0, a1] σ R :=
  acall_okF (ρ := [a1, a0]) TT_ok Tryz.func48 rfl x48 x48_ok rfl h

/-- loop.example/g00349/laws.toOpS -/
def s_laws_toOpS (a0 : AV) (σ : AH) (R : AEnd → AH → Prop) : Prop :=
  og (lenS a0) fun v6 =>
  amake TT ty_LRiiiiisLRiiisEE v6 v6 σ fun v7 σ =>
  lp (X := Tup [0, 3, 4]) (fun R1 y1 σ =>
    og (lenS y1.1) fun v10 =>
    og (ibin .lss y1.2.2.1 v10) fun v11 =>
    apick v11 (
      og (idx 7 y1.1 y1.2.2.1 σ) fun v18 =>
      og (lodA 7 v18 σ) fun v19 =>
      acall TP fn_laws_toOp [v19] σ (onr (fun v20 σ =>
      og (idx 7 y1.2.1 y1.2.2.1 σ) fun v21 =>
      sto 7 v21 v20 σ fun σ =>
      og (ibin .add y1.2.2.1 (.val (.int .i64 1))) fun v13 =>
      R1 (y1.1, y1.2.1, v13, ()) σ) (fun v σ => apan v σ R))) (
      aret y1.2.1 σ R)) (a0, v7, (.val (.int .i64 0)), ()) σ
def x49 : Sx := .og (.lenS (.var 0)) (.mks 30 (.var 0) (.var 0) (.lp [0, 3, 4] (.og (.lenS (.var 0)) (.og (.ibin .lss (.var 3) (.var 0)) (.apick (.var 0) (.og (.idx 7 (.var 2) (.var 4)) (.og (.lodA 7 (.var 0)) (.call 91 [(.var 0)] (.og (.idx 7 (.var 6) (.var 7)) (.sto 7 (.var 0) (.var 1) (.og (.ibin .add (.var 8) (.lit (.val (.int .i64 1)))) (.jump 0 [(.var 7), (.var 8), (.var 0)]))))))) (.ret (.var 3))))) [(.var 2), (.var 0), (.lit (.val (.int .i64 0)))]))
set_option maxRecDepth 1000000 in
theorem x49_ok : okF TT Tryz.f49 1 x49 = true := by decide +kernel
set_option maxRecDepth 1000000 in
theorem s_laws_toOpS_ok {a0 : AV} {σ : AH} {R : AEnd → AH → Prop} (h : s_laws_toOpS a0 σ R) : acall TP fn_laws_toOpS [a0] σ R :=
  acall_okF (ρ := [a0]) TT_ok Tryz.func49 rfl x49 x49_ok rfl h

/-- loop.example/g00349/impl.blockFault -/
def s_impl_blockFault (a0 : AV) (σ : AH) (R : AEnd → AH → Prop) : Prop :=
  abox a0 σ fun v1 σ =>
  frz v1 σ fun f1 σ =>
  og (fldA 0 f1) fun v7 =>
  og (lod v7 σ) fun v8 =>
  acall TP fn_impl_in [v8, (.val (.int .i64 0)), (.val (.int .i64 3))] σ (onr (fun v9 σ =>
  og (aun .not v9) fun v10 =>
  apick v10 (
    aret (.val (.int .i64 3)) σ R) (
    og (fldA 1 f1) fun v12 =>
    og (lod v12 σ) fun v13 =>
    og (lenS v13) fun v14 =>
    og (ibin .gtr v14 (.val (.int .i64 200))) fun v15 =>
    apick v15 (
      aret (.val (.int .i64 2)) σ R) (
      og (fldA 1 f1) fun v16 =>
      og (lod v16 σ) fun v17 =>
      og (lenS v17) fun v18 =>
      lp (X := Tup [17, 18, 19]) (fun R1 y1 σ =>
        og (ibin .lss y1.2.2.1 y1.2.1) fun v20 =>
        apick v20 (
          og (idx 7 y1.1 y1.2.2.1 σ) fun v21 =>
          og (lodA 7 v21 σ) fun v22 =>
          new [(.val (.int .i64 0)), (.val (.int .i64 0)), (.val (.int .i64 0)), (.val (.int .i64 0)), (.val (.int .i64 0)), (.val (.string ⟨#[]⟩)), (.val (.slice none 0 0))] σ fun v4 σ =>
          sto 7 v4 v22 σ fun σ =>
          frz v4 σ fun f4 σ =>
          og (lodA 7 f4 σ) fun v23 =>
          acall TP fn_impl_OpFault [v23] σ (onr (fun v24 σ =>
          og (ibin .neq v24 (.val (.int .i64 0))) fun v26 =>
          apick v26 (
            aret v24 σ R) (
            og (ibin .add y1.2.2.1 (.val (.int .i64 1))) fun v28 =>
            R1 (y1.1, y1.2.1, v28, ()) σ)) (fun v σ => apan v σ R))) (
          aret (.val (.int .i64 0)) σ R)) (v17, v18, (.val (.int .i64 0)), ()) σ))) (fun v σ => apan v σ R))
def x50 : Sx := .box (.var 0) (.frz 1 (.var 0) (.og (.fldA 0 (.var 0)) (.og (.lod (.var 0)) (.call 62 [(.var 0), (.lit (.val (.int .i64 0))), (.lit (.val (.int .i64 3)))] (.og (.aun .not (.var 0)) (.apick (.var 0) (.ret (.lit (.val (.int .i64 3)))) (.og (.fldA 1 (.var 4)) (.og (.lod (.var 0)) (.og (.lenS (.var 0)) (.og (.ibin .gtr (.var 0) (.lit (.val (.int .i64 200)))) (.apick (.var 0) (.ret (.lit (.val (.int .i64 2)))) (.og (.fldA 1 (.var 8)) (.og (.lod (.var 0)) (.og (.lenS (.var 0)) (.lp [17, 18, 19] (.og (.ibin .lss (.var 2) (.var 1)) (.apick (.var 0) (.og (.idx 7 (.var 1) (.var 3)) (.og (.lodA 7 (.var 0)) (.new [(.val (.int .i64 0)), (.val (.int .i64 0)), (.val (.int .i64 0)), (.val (.int .i64 0)), (.val (.int .i64 0)), (.val (.string ⟨#[]⟩)), (.val (.slice none 0 0))] (.sto 7 (.var 0) (.var 1) (.frz 6 (.var 0) (.og (.lodA 7 (.var 0)) (.call 92 [(.var 0)] (.og (.ibin .neq (.var 0) (.lit (.val (.int .i64 0)))) (.apick (.var 0) (.ret (.var 1)) (.og (.ibin .add (.var 10) (.lit (.val (.int .i64 1)))) (.jump 0 [(.var 9), (.var 10), (.var 0)]))))))))))) (.ret (.lit (.val (.int .i64 0)))))) [(.var 1), (.var 0), (.lit (.val (.int .i64 0)))])))))))))))))))
set_option maxRecDepth 1000000 in
theorem x50_ok : okF TT Tryz.f50 1 x50 = true := by decide +kernel
set_option maxRecDepth 1000000 in
theorem s_impl_blockFault_ok {a0 : AV} {σ : AH} {R : AEnd → AH → Prop} (h : s_impl_blockFault a0 σ R) : acall TP fn_impl_blockFault [a0] σ R :=
  acall_okF (ρ := [a0]) TT_ok Tryz.func50 rfl x50 x50_ok rfl h

/-- loop.example/g00349/impl.targets -/
def s_impl_targets (a0 : AV) (σ : AH) (R : AEnd → AH → Prop) : Prop :=
  abox a0 σ fun v1 σ =>
  frz v1 σ fun f1 σ =>
  bsl 1 [(.val (.int .i64 0))] 0 [] σ fun v7 σ =>
  og (fldA 1 f1) fun v8 =>
  og (lod v8 σ) fun v9 =>
  og (lenS v9) fun v10 =>
  lp (X := Tup [3, 9, 10, 11]) (fun R1 y1 σ =>
    og (ibin .lss y1.2.2.2.1 y1.2.2.1) fun v12 =>
    apick v12 (
      jn (X := Tup [3, 9, 10, 11]) (fun x2 σ =>
          og (ibin .add x2.2.2.2.1 (.val (.int .i64 1))) fun v24 =>
          R1 (x2.1, x2.2.1, x2.2.2.1, v24, ()) σ) fun k2 =>
        og (idx 7 y1.2.1 y1.2.2.2.1 σ) fun v13 =>
        og (lodA 7 v13 σ) fun v14 =>
        new [(.val (.int .i64 0)), (.val (.int .i64 0)), (.val (.int .i64 0)), (.val (.int .i64 0)), (.val (.int .i64 0)), (.val (.string ⟨#[]⟩)), (.val (.slice none 0 0))] σ fun v5 σ =>
        sto 7 v5 v14 σ fun σ =>
        frz v5 σ fun f5 σ =>
        acall TP fn_impl_Op_target [f5] σ (onr (fun v15 σ =>
        abin TT .neq ty_pointer122 v15 (.val (.pointer none)) fun v17 =>
        apick v17 (
          og (anil v15) fun v20 =>
          og (lod v20 σ) fun v21 =>
          bsl 1 [(.val (.int .i64 0))] 1 [(0, v21)] σ fun v22 σ =>
          app 1 y1.1 v22 σ fun v23 σ =>
          k2 (v23, y1.2.1, y1.2.2.1, y1.2.2.2.1, ()) σ) (
          k2 (y1.1, y1.2.1, y1.2.2.1, y1.2.2.2.1, ()) σ)) (fun v σ => apan v σ R))) (
      acall TP fn_slices_Sort [y1.1] σ (onr (fun v26 σ =>
      acall TP fn_slices_Compact [y1.1] σ (onr (fun v28 σ =>
      aret v28 σ R) (fun v σ => apan v σ R))) (fun v σ => apan v σ R)))) (v7, v9, v10, (.val (.int .i64 0)), ()) σ
def x51 : Sx := .box (.var 0) (.frz 1 (.var 0) (.bsl 1 [(.val (.int .i64 0))] 0 [] (.og (.fldA 1 (.var 1)) (.og (.lod (.var 0)) (.og (.lenS (.var 0)) (.lp [3, 9, 10, 11] (.og (.ibin .lss (.var 3) (.var 2)) (.apick (.var 0) (.jn 935 [3, 9, 10, 11] (.og (.ibin .add (.var 3) (.lit (.val (.int .i64 1)))) (.jump 0 [(.var 1), (.var 2), (.var 3), (.var 0)])) (.og (.idx 7 (.var 2) (.var 4)) (.og (.lodA 7 (.var 0)) (.new [(.val (.int .i64 0)), (.val (.int .i64 0)), (.val (.int .i64 0)), (.val (.int .i64 0)), (.val (.int .i64 0)), (.val (.string ⟨#[]⟩)), (.val (.slice none 0 0))] (.sto 7 (.var 0) (.var 1) (.frz 7 (.var 0) (.call 93 [(.var 0)] (.cmp .neq 122 (.var 0) (.lit (.val (.pointer none))) (.apick (.var 0) (.og (.anil (.var 1)) (.og (.lod (.var 0)) (.bsl 1 [(.val (.int .i64 0))] 1 [(0, (.var 0))] (.app 1 (.var 10) (.var 0) (.jump 0 [(.var 0), (.var 12), (.var 13), (.var 14)]))))) (.jump 0 [(.var 7), (.var 8), (.var 9), (.var 10)])))))))))) (.call 94 [(.var 1)] (.call 95 [(.var 2)] (.ret (.var 0)))))) [(.var 3), (.var 1), (.var 0), (.lit (.val (.int .i64 0)))]))))))
set_option maxRecDepth 1000000 in
theorem x51_ok : okF TT Tryz.f51 1 x51 = true := by decide +kernel
set_option maxRecDepth 1000000 in
theorem s_impl_targets_ok {a0 : AV} {σ : AH} {R : AEnd → AH → Prop} (h : s_impl_targets a0 σ R) : acall TP fn_impl_targets [a0] σ R :=
  acall_okF (ρ := [a0]) TT_ok Tryz.func51 rfl x51 x51_ok rfl h

/-- loop.example/g00349/laws.eqInt64S -/
def s_laws_eqInt64S (a0 a1 : AV) (σ : AH) (R : AEnd → AH → Prop) : Prop :=
  og (lenS a0) fun v7 =>
  og (lenS a1) fun v9 =>
  og (ibin .neq v7 v9) fun v10 =>
  apick v10 (
    aret (.val (.bool false)) σ R) (
    lp (X := Tup [0, 1, 5]) (fun R1 y1 σ =>
      og (lenS y1.1) fun v13 =>
      og (ibin .lss y1.2.2.1 v13) fun v14 =>
      apick v14 (
        og (idx 1 y1.1 y1.2.2.1 σ) fun v19 =>
        og (lod v19 σ) fun v20 =>
        og (idx 1 y1.2.1 y1.2.2.1 σ) fun v23 =>
        og (lod v23 σ) fun v24 =>
        og (ibin .neq v20 v24) fun v25 =>
        apick v25 (
          aret (.val (.bool false)) σ R) (
          og (ibin .add y1.2.2.1 (.val (.int .i64 1))) fun v16 =>
          R1 (y1.1, y1.2.1, v16, ()) σ)) (
        aret (.val (.bool true)) σ R)) (a0, a1, (.val (.int .i64 0)), ()) σ)
def x52 : Sx := .og (.lenS (.var 1)) (.og (.lenS (.var 1)) (.og (.ibin .neq (.var 1) (.var 0)) (.apick (.var 0) (.ret (.lit (.val (.bool false)))) (.lp [0, 1, 5] (.og (.lenS (.var 0)) (.og (.ibin .lss (.var 3) (.var 0)) (.apick (.var 0) (.ord [0, 1, 2, 3, 4, 5, 6, 7, 8] [0, 0, 3, 7, 0, 0, 48, 112, 255] (.og (.idx 1 (.var 2) (.var 4)) (.og (.lod (.var 0)) (.og (.idx 1 (.var 5) (.var 6)) (.og (.lod (.var 0)) (.og (.ibin .neq (.var 2) (.var 0)) (.apick (.var 0) (.ret (.lit (.val (.bool false)))) (.og (.ibin .add (.var 9) (.lit (.val (.int .i64 1)))) (.jump 0 [(.var 8), (.var 9), (.var 0)]))))))))) (.ret (.lit (.val (.bool true))))))) [(.var 4), (.var 3), (.lit (.val (.int .i64 0)))]))))
set_option maxRecDepth 1000000 in
theorem x52_ok : okF TT Tryz.f52 2 x52 = true := by decide +kernel
set_option maxRecDepth 1000000 in
theorem s_laws_eqInt64S_ok {a0 a1 : AV} {σ : AH} {R : AEnd → AH → Prop} (h : s_laws_eqInt64S a0 a1 σ R) : acall TP fn_laws_eqInt64S [a0, a1] σ R :=
  acall_okF (ρ := [a1, a0]) TT_ok Tryz.func52 rfl x52 x52_ok rfl h

/-- loop.example/g00349/laws.eqOpS -/
def s_laws_eqOpS (a0 a1 : AV) (σ : AH) (R : AEnd → AH → Prop) : Prop :=
  og (lenS a0) fun v7 =>
  og (lenS a1) fun v9 =>
  og (ibin .neq v7 v9) fun v10 =>
  apick v10 (
    aret (.val (.bool false)) σ R) (
    lp (X := Tup [0, 1, 5]) (fun R1 y1 σ =>
      og (lenS y1.1) fun v13 =>
      og (ibin .lss y1.2.2.1 v13) fun v14 =>
      apick v14 (
        og (idx 7 y1.1 y1.2.2.1 σ) fun v19 =>
        og (lodA 7 v19 σ) fun v20 =>
        og (idx 7 y1.2.1 y1.2.2.1 σ) fun v23 =>
        og (lodA 7 v23 σ) fun v24 =>
        acall TP fn_laws_eqOp [v20, v24] σ (onr (fun v25 σ =>
        (True) ∧
        og (aun .not v25) fun v26 =>
        apick v26 (
          aret (.val (.bool false)) σ R) (
          og (ibin .add y1.2.2.1 (.val (.int .i64 1))) fun v16 =>
          R1 (y1.1, y1.2.1, v16, ()) σ)) (fun v σ => apan v σ R))) (
        aret (.val (.bool true)) σ R)) (a0, a1, (.val (.int .i64 0)), ()) σ)
def x53 : Sx := .og (.lenS (.var 1)) (.og (.lenS (.var 1)) (.og (.ibin .neq (.var 1) (.var 0)) (.apick (.var 0) (.ret (.lit (.val (.bool false)))) (.lp [0, 1, 5] (.og (.lenS (.var 0)) (.og (.ibin .lss (.var 3) (.var 0)) (.apick (.var 0) (.ord [0, 1, 2, 3, 4, 5, 6, 7, 8, 9] [0, 0, 3, 7, 0, 0, 48, 112, 255, 511] (.og (.idx 7 (.var 2) (.var 4)) (.og (.lodA 7 (.var 0)) (.og (.idx 7 (.var 5) (.var 6)) (.og (.lodA 7 (.var 0)) (.call 96 [(.var 2), (.var 0)] (.wat [] (.og (.aun .not (.var 0)) (.apick (.var 0) (.ret (.lit (.val (.bool false)))) (.og (.ibin .add (.var 10) (.lit (.val (.int .i64 1)))) (.jump 0 [(.var 9), (.var 10), (.var 0)]))))))))))) (.ret (.lit (.val (.bool true))))))) [(.var 4), (.var 3), (.lit (.val (.int .i64 0)))]))))
set_option maxRecDepth 1000000 in
theorem x53_ok : okF TT Tryz.f53 2 x53 = true := by decide +kernel
set_option maxRecDepth 1000000 in
theorem s_laws_eqOpS_ok {a0 a1 : AV} {σ : AH} {R : AEnd → AH → Prop} (h : s_laws_eqOpS a0 a1 σ R) : acall TP fn_laws_eqOpS [a0, a1] σ R :=
  acall_okF (ρ := [a1, a0]) TT_ok Tryz.func53 rfl x53 x53_ok rfl h

/-- loop.example/g00349/laws.markOpS -/
def s_laws_markOpS (a0 a1 : AV) (σ : AH) (R : AEnd → AH → Prop) : Prop :=
  lp (X := Tup [0, 1, 5]) (fun R1 y1 σ =>
    og (lenS y1.1) fun v8 =>
    og (ibin .lss y1.2.2.1 v8) fun v9 =>
    apick v9 (
      og (idx 7 y1.1 y1.2.2.1 σ) fun v15 =>
      og (fldA 0 v15) fun v16 =>
      sto 1 v16 y1.2.1 σ fun σ =>
      og (ibin .add y1.2.1 (.val (.int .i64 1))) fun v18 =>
      og (idx 7 y1.1 y1.2.2.1 σ) fun v22 =>
      og (fldA 1 v22) fun v23 =>
      sto 1 v23 v18 σ fun σ =>
      og (ibin .add v18 (.val (.int .i64 1))) fun v25 =>
      og (idx 7 y1.1 y1.2.2.1 σ) fun v29 =>
      og (fldA 2 v29) fun v30 =>
      sto 1 v30 v25 σ fun σ =>
      og (ibin .add v25 (.val (.int .i64 1))) fun v32 =>
      og (idx 7 y1.1 y1.2.2.1 σ) fun v36 =>
      og (fldA 3 v36) fun v37 =>
      sto 1 v37 v32 σ fun σ =>
      og (ibin .add v32 (.val (.int .i64 1))) fun v39 =>
      og (idx 7 y1.1 y1.2.2.1 σ) fun v43 =>
      og (fldA 4 v43) fun v44 =>
      sto 1 v44 v39 σ fun σ =>
      og (ibin .add v39 (.val (.int .i64 1))) fun v46 =>
      acall TP fn_laws_markText [v46] σ (onr (fun v50 σ =>
      og (idx 7 y1.1 y1.2.2.1 σ) fun v51 =>
      og (fldA 5 v51) fun v52 =>
      sto 1 v52 v50 σ fun σ =>
      og (ibin .add v46 (.val (.int .i64 1))) fun v54 =>
      og (idx 7 y1.1 y1.2.2.1 σ) fun v57 =>
      og (fldA 6 v57) fun v58 =>
      og (lod v58 σ) fun v59 =>
      acall TP fn_laws_markDatumS [v59, v54] σ (onr (fun v61 σ =>
      og (ibin .add y1.2.2.1 (.val (.int .i64 1))) fun v11 =>
      R1 (y1.1, v61, v11, ()) σ) (fun v σ => apan v σ R))) (fun v σ => apan v σ R))) (
      aret y1.2.1 σ R)) (a0, a1, (.val (.int .i64 0)), ()) σ
def x54 : Sx := .lp [0, 1, 5] (.og (.lenS (.var 0)) (.og (.ibin .lss (.var 3) (.var 0)) (.apick (.var 0) (.og (.idx 7 (.var 2) (.var 4)) (.og (.fldA 0 (.var 0)) (.sto 1 (.var 0) (.var 5) (.og (.ibin .add (.var 5) (.lit (.val (.int .i64 1)))) (.og (.idx 7 (.var 5) (.var 7)) (.og (.fldA 1 (.var 0)) (.sto 1 (.var 0) (.var 2) (.og (.ibin .add (.var 2) (.lit (.val (.int .i64 1)))) (.og (.idx 7 (.var 8) (.var 10)) (.og (.fldA 2 (.var 0)) (.sto 1 (.var 0) (.var 2) (.og (.ibin .add (.var 2) (.lit (.val (.int .i64 1)))) (.og (.idx 7 (.var 11) (.var 13)) (.og (.fldA 3 (.var 0)) (.sto 1 (.var 0) (.var 2) (.og (.ibin .add (.var 2) (.lit (.val (.int .i64 1)))) (.og (.idx 7 (.var 14) (.var 16)) (.og (.fldA 4 (.var 0)) (.sto 1 (.var 0) (.var 2) (.og (.ibin .add (.var 2) (.lit (.val (.int .i64 1)))) (.call 86 [(.var 0)] (.og (.idx 7 (.var 18) (.var 20)) (.og (.fldA 5 (.var 0)) (.sto 1 (.var 0) (.var 2) (.og (.ibin .add (.var 3) (.lit (.val (.int .i64 1)))) (.og (.idx 7 (.var 21) (.var 23)) (.og (.fldA 6 (.var 0)) (.og (.lod (.var 0)) (.call 87 [(.var 0), (.var 3)] (.og (.ibin .add (.var 27) (.lit (.val (.int .i64 1)))) (.jump 0 [(.var 26), (.var 1), (.var 0)]))))))))))))))))))))))))))))))) (.ret (.var 3))))) [(.var 1), (.var 0), (.lit (.val (.int .i64 0)))]
set_option maxRecDepth 1000000 in
theorem x54_ok : okF TT Tryz.f54 2 x54 = true := by decide +kernel
set_option maxRecDepth 1000000 in
theorem s_laws_markOpS_ok {a0 a1 : AV} {σ : AH} {R : AEnd → AH → Prop} (h : s_laws_markOpS a0 a1 σ R) : acall TP fn_laws_markOpS [a0, a1] σ R :=
  acall_okF (ρ := [a1, a0]) TT_ok Tryz.func54 rfl x54 x54_ok rfl h

/-- loop.example/g00349/laws.markInt64S -/
def s_laws_markInt64S (a0 a1 : AV) (σ : AH) (R : AEnd → AH → Prop) : Prop :=
  lp (X := Tup [0, 1, 5]) (fun R1 y1 σ =>
    og (lenS y1.1) fun v8 =>
    og (ibin .lss y1.2.2.1 v8) fun v9 =>
    apick v9 (
      og (idx 1 y1.1 y1.2.2.1 σ) fun v15 =>
      sto 1 v15 y1.2.1 σ fun σ =>
      og (ibin .add y1.2.1 (.val (.int .i64 1))) fun v17 =>
      og (ibin .add y1.2.2.1 (.val (.int .i64 1))) fun v11 =>
      R1 (y1.1, v17, v11, ()) σ) (
      aret y1.2.1 σ R)) (a0, a1, (.val (.int .i64 0)), ()) σ
def x55 : Sx := .lp [0, 1, 5] (.og (.lenS (.var 0)) (.og (.ibin .lss (.var 3) (.var 0)) (.apick (.var 0) (.og (.idx 1 (.var 2) (.var 4)) (.sto 1 (.var 0) (.var 4) (.og (.ibin .add (.var 4) (.lit (.val (.int .i64 1)))) (.og (.ibin .add (.var 6) (.lit (.val (.int .i64 1)))) (.jump 0 [(.var 5), (.var 1), (.var 0)]))))) (.ret (.var 3))))) [(.var 1), (.var 0), (.lit (.val (.int .i64 0)))]
set_option maxRecDepth 1000000 in
theorem x55_ok : okF TT Tryz.f55 2 x55 = true := by decide +kernel
set_option maxRecDepth 1000000 in
theorem s_laws_markInt64S_ok {a0 a1 : AV} {σ : AH} {R : AEnd → AH → Prop} (h : s_laws_markInt64S a0 a1 σ R) : acall TP fn_laws_markInt64S [a0, a1] σ R :=
  acall_okF (ρ := [a1, a0]) TT_ok Tryz.func55 rfl x55 x55_ok rfl h

/-- loop.example/g00349/laws.heldInt64S -/
def s_laws_heldInt64S (a0 a1 : AV) (σ : AH) (R : AEnd → AH → Prop) : Prop :=
  lp (X := Tup [0, 1, 5]) (fun R1 y1 σ =>
    og (lenS y1.1) fun v8 =>
    og (ibin .lss y1.2.2.1 v8) fun v9 =>
    apick v9 (
      og (idx 1 y1.1 y1.2.2.1 σ) fun v14 =>
      og (lod v14 σ) fun v15 =>
      og (ibin .neq v15 y1.2.1) fun v17 =>
      apick v17 (
        aret (.val (.int .i64 (-1))) σ R) (
        og (ibin .add y1.2.1 (.val (.int .i64 1))) fun v19 =>
        og (ibin .add y1.2.2.1 (.val (.int .i64 1))) fun v11 =>
        R1 (y1.1, v19, v11, ()) σ)) (
      aret y1.2.1 σ R)) (a0, a1, (.val (.int .i64 0)), ()) σ
def x56 : Sx := .lp [0, 1, 5] (.og (.lenS (.var 0)) (.og (.ibin .lss (.var 3) (.var 0)) (.apick (.var 0) (.og (.idx 1 (.var 2) (.var 4)) (.og (.lod (.var 0)) (.og (.ibin .neq (.var 0) (.var 5)) (.apick (.var 0) (.ret (.lit (.val (.int .i64 (-1))))) (.og (.ibin .add (.var 6) (.lit (.val (.int .i64 1)))) (.og (.ibin .add (.var 8) (.lit (.val (.int .i64 1)))) (.jump 0 [(.var 7), (.var 1), (.var 0)]))))))) (.ret (.var 3))))) [(.var 1), (.var 0), (.lit (.val (.int .i64 0)))]
set_option maxRecDepth 1000000 in
theorem x56_ok : okF TT Tryz.f56 2 x56 = true := by decide +kernel
set_option maxRecDepth 1000000 in
theorem s_laws_heldInt64S_ok {a0 a1 : AV} {σ : AH} {R : AEnd → AH → Prop} (h : s_laws_heldInt64S a0 a1 σ R) : acall TP fn_laws_heldInt64S [a0, a1] σ R :=
  acall_okF (ρ := [a1, a0]) TT_ok Tryz.func56 rfl x56 x56_ok rfl h

/-- loop.example/g00349/spec.l10Heights -/
def s_spec_l10Heights (a0 : AV) (σ : AH) (R : AEnd → AH → Prop) : Prop :=
  acall TP fn_spec_l9Block [a0] σ (onr (fun v11 σ =>
  og (ibin .neq v11 (.val (.int .i64 0))) fun v13 =>
  apick v13 (
    aret (.tup [(.val (.slice none 0 0)), v11]) σ R) (
    og (anil a0) fun v16 =>
    og (fldA 1 v16) fun v17 =>
    og (lod v17 σ) fun v18 =>
    og (lenS v18) fun v19 =>
    og (ibin .eql v19 (.val (.int .i64 0))) fun v20 =>
    apick v20 (
      aret (.tup [(.val (.slice none 0 0)), (.val (.int .i64 1))]) σ R) (
      lp (X := Tup [0, 5]) (fun R1 y1 σ =>
        og (anil y1.1) fun v23 =>
        og (fldA 1 v23) fun v24 =>
        og (lod v24 σ) fun v25 =>
        og (lenS v25) fun v26 =>
        og (ibin .lss y1.2.1 v26) fun v27 =>
        apick v27 (
          og (anil y1.1) fun v31 =>
          og (fldA 1 v31) fun v32 =>
          og (lod v32 σ) fun v33 =>
          og (idx 7 v33 y1.2.1 σ) fun v35 =>
          og (anil y1.1) fun v38 =>
          og (fldA 1 v38) fun v39 =>
          og (lod v39 σ) fun v40 =>
          og (lenS v40) fun v41 =>
          acall TP fn_spec_l9Target [v35] σ (onr (fun v36 σ =>
          (lod v39 σ = some v40 ∧ True) ∧
          og (ibin .geq v36 v41) fun v42 =>
          apick v42 (
            aret (.tup [(.val (.slice none 0 0)), (.val (.int .i64 1))]) σ R) (
            og (ibin .add y1.2.1 (.val (.int .i64 1))) fun v29 =>
            R1 (y1.1, v29, ()) σ)) (fun v σ => apan v σ R))) (
          bsl 1 [(.val (.int .i64 0))] 1 [(0, (.val (.int .i64 0)))] σ fun v43 σ =>
          lp (X := Tup [0, 6, 7]) (fun R2 y2 σ =>
            og (anil y2.1) fun v46 =>
            og (fldA 1 v46) fun v47 =>
            og (lod v47 σ) fun v48 =>
            og (lenS v48) fun v49 =>
            og (ibin .lss y2.2.2.1 v49) fun v50 =>
            apick v50 (
              bsl 1 [(.val (.int .i64 0))] 1 [(0, (.val (.int .i64 (-1))))] σ fun v54 σ =>
              app 1 y2.2.1 v54 σ fun v55 σ =>
              og (ibin .add y2.2.2.1 (.val (.int .i64 1))) fun v52 =>
              R2 (y2.1, v55, v52, ()) σ) (
              lp (X := Tup [0, 6]) (fun R3 y3 σ =>
                acall TP fn_spec_l10Pass [y3.1, y3.2.1] σ (onr (fun v59 σ =>
                og (aext v59 0) fun v60 =>
                og (aext v59 1) fun v61 =>
                og (aun .not v61) fun v63 =>
                apick v63 (
                  aret (.tup [(.val (.slice none 0 0)), (.val (.int .i64 1))]) σ R) (
                  og (aun .not v60) fun v65 =>
                  apick v65 (
                    aret (.tup [y3.2.1, (.val (.int .i64 0))]) σ R) (
                    R3 (y3.1, y3.2.1, ()) σ))) (fun v σ => apan v σ R))) (y2.1, y2.2.1, ()) σ)) (y1.1, v43, (.val (.int .i64 1)), ()) σ)) (a0, (.val (.int .i64 0)), ()) σ))) (fun v σ => apan v σ R))
def x57 : Sx := .call 47 [(.var 0)] (.og (.ibin .neq (.var 0) (.lit (.val (.int .i64 0)))) (.apick (.var 0) (.rets [(.lit (.val (.slice none 0 0))), (.var 1)]) (.og (.anil (.var 2)) (.og (.fldA 1 (.var 0)) (.og (.lod (.var 0)) (.og (.lenS (.var 0)) (.og (.ibin .eql (.var 0) (.lit (.val (.int .i64 0)))) (.apick (.var 0) (.rets [(.lit (.val (.slice none 0 0))), (.lit (.val (.int .i64 1)))]) (.lp [0, 5] (.og (.anil (.var 0)) (.og (.fldA 1 (.var 0)) (.og (.lod (.var 0)) (.og (.lenS (.var 0)) (.og (.ibin .lss (.var 5) (.var 0)) (.apick (.var 0) (.ord [0, 1, 2, 3, 4, 5, 7, 8, 9, 10, 11, 6, 12] [0, 1, 3, 7, 0, 31, 63, 0, 128, 384, 896, 1920, 4095] (.og (.anil (.var 5)) (.og (.fldA 1 (.var 0)) (.og (.lod (.var 0)) (.og (.idx 7 (.var 0) (.var 9)) (.og (.anil (.var 9)) (.og (.fldA 1 (.var 0)) (.og (.lod (.var 0)) (.og (.lenS (.var 0)) (.call 90 [(.var 4)] (.wat [⟨none, (.lod (.var 3)), (.var 2)⟩] (.og (.ibin .geq (.var 0) (.var 1)) (.apick (.var 0) (.rets [(.lit (.val (.slice none 0 0))), (.lit (.val (.int .i64 1)))]) (.og (.ibin .add (.var 16) (.lit (.val (.int .i64 1)))) (.jump 0 [(.var 16), (.var 0)]))))))))))))))) (.bsl 1 [(.val (.int .i64 0))] 1 [(0, (.lit (.val (.int .i64 0))))] (.lp [0, 6, 7] (.og (.anil (.var 0)) (.og (.fldA 1 (.var 0)) (.og (.lod (.var 0)) (.og (.lenS (.var 0)) (.og (.ibin .lss (.var 6) (.var 0)) (.apick (.var 0) (.bsl 1 [(.val (.int .i64 0))] 1 [(0, (.lit (.val (.int .i64 (-1)))))] (.app 1 (.var 7) (.var 0) (.og (.ibin .add (.var 9) (.lit (.val (.int .i64 1)))) (.jump 0 [(.var 8), (.var 1), (.var 0)])))) (.lp [0, 6] (.call 97 [(.var 0), (.var 1)] (.og (.aext (.var 0) 0) (.og (.aext (.var 1) 1) (.og (.aun .not (.var 0)) (.apick (.var 0) (.rets [(.lit (.val (.slice none 0 0))), (.lit (.val (.int .i64 1)))]) (.og (.aun .not (.var 2)) (.apick (.var 0) (.rets [(.var 6), (.lit (.val (.int .i64 0)))]) (.jump 0 [(.var 5), (.var 6)])))))))) [(.var 5), (.var 6)]))))))) [(.var 6), (.var 0), (.lit (.val (.int .i64 1)))])))))))) [(.var 7), (.lit (.val (.int .i64 0)))])))))))))
set_option maxRecDepth 1000000 in
theorem x57_ok : okF TT Tryz.f57 1 x57 = true := by decide +kernel
set_option maxRecDepth 1000000 in
theorem s_spec_l10Heights_ok {a0 : AV} {σ : AH} {R : AEnd → AH → Prop} (h : s_spec_l10Heights a0 σ R) : acall TP fn_spec_l10Heights [a0] σ R :=
  acall_okF (ρ := [a0]) TT_ok Tryz.func57 rfl x57 x57_ok rfl h

/-- loop.example/g00349/impl.heightsOf -/
def s_impl_heightsOf (a0 : AV) (σ : AH) (R : AEnd → AH → Prop) : Prop :=
  abox a0 σ fun v1 σ =>
  frz v1 σ fun f1 σ =>
  og (fldA 1 f1) fun v17 =>
  og (lod v17 σ) fun v18 =>
  og (lenS v18) fun v19 =>
  og (ibin .eql v19 (.val (.int .i64 0))) fun v21 =>
  apick v21 (
    aret (.tup [(.val (.slice none 0 0)), (.val (.bool false))]) σ R) (
    og (lodA 2 f1 σ) fun v22 =>
    acall TP fn_impl_targets [v22] σ (onr (fun v23 σ =>
    og (lenS v23) fun v24 =>
    lp (X := Tup [1, 4, 23, 24, 25]) (fun R1 y1 σ =>
      og (ibin .lss y1.2.2.2.2.1 y1.2.2.2.1) fun v26 =>
      apick v26 (
        og (idx 1 y1.2.2.1 y1.2.2.2.2.1 σ) fun v27 =>
        og (lod v27 σ) fun v28 =>
        og (ibin .geq v28 y1.2.1) fun v31 =>
        apick v31 (
          aret (.tup [(.val (.slice none 0 0)), (.val (.bool false))]) σ R) (
          og (ibin .add y1.2.2.2.2.1 (.val (.int .i64 1))) fun v32 =>
          R1 (y1.1, y1.2.1, y1.2.2.1, y1.2.2.2.1, v32, ()) σ)) (
        amake TT ty_Li y1.2.1 y1.2.1 σ fun v34 σ =>
        og (lenS v34) fun v36 =>
        lp (X := Tup [1, 4, 7, 36, 37]) (fun R2 y2 σ =>
          og (ibin .lss y2.2.2.2.2.1 y2.2.2.2.1) fun v38 =>
          apick v38 (
            og (idx 1 y2.2.2.1 y2.2.2.2.2.1 σ) fun v42 =>
            sto 1 v42 (.val (.int .i64 (-1))) σ fun σ =>
            og (ibin .add y2.2.2.2.2.1 (.val (.int .i64 1))) fun v43 =>
            R2 (y2.1, y2.2.1, y2.2.2.1, y2.2.2.2.1, v43, ()) σ) (
            og (idx 1 y2.2.2.1 (.val (.int .i64 0)) σ) fun v45 =>
            sto 1 v45 (.val (.int .i64 0)) σ fun σ =>
            bsl 1 [(.val (.int .i64 0))] 1 [(0, (.val (.int .i64 0)))] σ fun v46 σ =>
            lp (X := Tup [1, 4, 7, 9]) (fun R3 y3 σ =>
              og (lenS y3.2.2.2.1) fun v48 =>
              og (ibin .gtr v48 (.val (.int .i64 0))) fun v49 =>
              apick v49 (
                og (idx 1 y3.2.2.2.1 (.val (.int .i64 0)) σ) fun v51 =>
                og (lod v51 σ) fun v52 =>
                og (slc 1 y3.2.2.2.1 (some (.val (.int .i64 1))) none none σ) fun v54 =>
                og (fldA 1 y3.1) fun v55 =>
                og (lod v55 σ) fun v56 =>
                og (idx 7 v56 v52 σ) fun v58 =>
                og (lodA 7 v58 σ) fun v59 =>
                new [(.val (.int .i64 0)), (.val (.int .i64 0)), (.val (.int .i64 0)), (.val (.int .i64 0)), (.val (.int .i64 0)), (.val (.string ⟨#[]⟩)), (.val (.slice none 0 0))] σ fun v11 σ =>
                sto 7 v11 v59 σ fun σ =>
                frz v11 σ fun f11 σ =>
                og (idx 1 y3.2.2.1 v52 σ) fun v62 =>
                og (lod v62 σ) fun v63 =>
                og (lodA 7 f11 σ) fun v64 =>
                og (lodA 7 f11 σ) fun v67 =>
                og (bslR 1 [(.val (.int .i64 0))] 0 []) fun v70 =>
                acall TP fn_impl_Op_takes [v64] σ (onr (fun v65 σ =>
                (lodA 7 f11 σ = some v67 ∧ lod v62 σ = some v63 ∧ idx 1 y3.2.2.1 v52 σ = some v62 ∧ True) ∧
                og (ibin .sub v63 v65) fun v66 =>
                acall TP fn_impl_Op_puts [v67] σ (onr (fun v68 σ =>
                (lod v62 σ = some v63 ∧ idx 1 y3.2.2.1 v52 σ = some v62 ∧ True) ∧
                og (ibin .add v66 v68) fun v69 =>
                jn (X := Tup [1, 4, 7, 9, 10, 11, 12, 13, 86]) (fun x4 σ =>
                    apick x4.2.2.2.2.2.2.2.2.1 (
                      aret (.tup [(.val (.slice none 0 0)), (.val (.bool false))]) σ R) (
                      jn (X := Tup [1, 4, 7, 9, 11, 12, 13]) (fun x5 σ =>
                          jn (X := Tup [1, 4, 7, 9, 12, 13]) (fun x6 σ =>
                              og (lenS x6.2.2.2.2.2.1) fun v104 =>
                              lp (X := Tup [1, 4, 7, 9, 12, 103, 104, 105]) (fun R7 y7 σ =>
                                og (ibin .lss y7.2.2.2.2.2.2.2.1 y7.2.2.2.2.2.2.1) fun v106 =>
                                apick v106 (
                                  jn (X := Tup [1, 4, 7, 9, 12, 103, 104, 105]) (fun x8 σ =>
                                      og (ibin .add x8.2.2.2.2.2.2.2.1 (.val (.int .i64 1))) fun v142 =>
                                      R7 (x8.1, x8.2.1, x8.2.2.1, x8.2.2.2.1, x8.2.2.2.2.1, x8.2.2.2.2.2.1, x8.2.2.2.2.2.2.1, v142, ()) σ) fun k8 =>
                                    og (idx 1 y7.2.2.2.2.2.1 y7.2.2.2.2.2.2.2.1 σ) fun v107 =>
                                    og (lod v107 σ) fun v108 =>
                                    og (ibin .geq v108 y7.2.1) fun v112 =>
                                    og (gval v112 false false (some y7.2.2.1)) fun v114 =>
                                    og (gval v112 false false (some v108)) fun v115 =>
                                    og (gval v112 false false (idx 1 v114 v115 σ)) fun v116 =>
                                    og (gval v112 false false (lod v116 σ)) fun v117 =>
                                    og (gval v112 false false (ibin .geq v117 (.val (.int .i64 0)))) fun v118 =>
                                    og (gval v112 false false (some v118)) fun v119 =>
                                    og (gval v119 true true (some y7.2.2.1)) fun v120 =>
                                    og (gval v119 true true (some v108)) fun v121 =>
                                    og (gval v119 true true (idx 1 v120 v121 σ)) fun v122 =>
                                    og (gval v119 true true (lod v122 σ)) fun v123 =>
                                    og (gval v119 true true (some y7.2.2.2.2.1)) fun v124 =>
                                    og (gval v119 true true (ibin .neq v123 v124)) fun v125 =>
                                    og (gval v112 false false (pickV v119 v125 (.val (.bool false)))) fun v126 =>
                                    og (pickV v112 (.val (.bool true)) v126) fun v127 =>
                                    apick v127 (
                                      aret (.tup [(.val (.slice none 0 0)), (.val (.bool false))]) σ R) (
                                      og (idx 1 y7.2.2.1 v108 σ) fun v131 =>
                                      og (lod v131 σ) fun v132 =>
                                      og (ibin .lss v132 (.val (.int .i64 0))) fun v133 =>
                                      apick v133 (
                                        bsl 1 [(.val (.int .i64 0))] 1 [(0, v108)] σ fun v139 σ =>
                                        app 1 y7.2.2.2.1 v139 σ fun v140 σ =>
                                        og (idx 1 y7.2.2.1 v108 σ) fun v141 =>
                                        sto 1 v141 y7.2.2.2.2.1 σ fun σ =>
                                        k8 (y7.1, y7.2.1, y7.2.2.1, v140, y7.2.2.2.2.1, y7.2.2.2.2.2.1, y7.2.2.2.2.2.2.1, y7.2.2.2.2.2.2.2.1, ()) σ) (
                                        k8 (y7.1, y7.2.1, y7.2.2.1, y7.2.2.2.1, y7.2.2.2.2.1, y7.2.2.2.2.2.1, y7.2.2.2.2.2.2.1, y7.2.2.2.2.2.2.2.1, ()) σ))) (
                                  R3 (y7.1, y7.2.1, y7.2.2.1, y7.2.2.2.1, ()) σ)) (x6.1, x6.2.1, x6.2.2.1, x6.2.2.2.1, x6.2.2.2.2.1, x6.2.2.2.2.2.1, v104, (.val (.int .i64 0)), ()) σ) fun k6 =>
                            acall TP fn_impl_Op_target [x5.2.2.2.2.1] σ (onr (fun v94 σ =>
                            abin TT .neq ty_pointer122 v94 (.val (.pointer none)) fun v96 =>
                            apick v96 (
                              og (anil v94) fun v99 =>
                              og (lod v99 σ) fun v100 =>
                              bsl 1 [(.val (.int .i64 0))] 1 [(0, v100)] σ fun v101 σ =>
                              app 1 x5.2.2.2.2.2.2.1 v101 σ fun v102 σ =>
                              k6 (x5.1, x5.2.1, x5.2.2.1, x5.2.2.2.1, x5.2.2.2.2.2.1, v102, ()) σ) (
                              k6 (x5.1, x5.2.1, x5.2.2.1, x5.2.2.2.1, x5.2.2.2.2.2.1, x5.2.2.2.2.2.2.1, ()) σ)) (fun v σ => apan v σ R))) fun k5 =>
                        og (lodA 7 x4.2.2.2.2.2.1 σ) fun v87 =>
                        acall TP fn_impl_Op_goesOn [v87] σ (onr (fun v88 σ =>
                        apick v88 (
                          og (ibin .add x4.2.2.2.2.1 (.val (.int .i64 1))) fun v91 =>
                          bsl 1 [(.val (.int .i64 0))] 1 [(0, v91)] σ fun v92 σ =>
                          app 1 x4.2.2.2.2.2.2.2.1 v92 σ fun v93 σ =>
                          k5 (x4.1, x4.2.1, x4.2.2.1, x4.2.2.2.1, x4.2.2.2.2.2.1, x4.2.2.2.2.2.2.1, v93, ()) σ) (
                          k5 (x4.1, x4.2.1, x4.2.2.1, x4.2.2.2.1, x4.2.2.2.2.2.1, x4.2.2.2.2.2.2.1, x4.2.2.2.2.2.2.2.1, ()) σ)) (fun v σ => apan v σ R)))) fun k4 =>
                  og (idx 1 y3.2.2.1 v52 σ) fun v73 =>
                  og (lod v73 σ) fun v74 =>
                  og (lodA 7 f11 σ) fun v75 =>
                  acall TP fn_impl_Op_takes [v75] σ (onr (fun v76 σ =>
                  (lod v73 σ = some v74 ∧ idx 1 y3.2.2.1 v52 σ = some v73 ∧ True) ∧
                  og (ibin .lss v74 v76) fun v77 =>
                  og (gval v77 false false (lodA 7 f11 σ)) fun v79 =>
                  og (gval v77 false false (some y3.2.2.1)) fun v80 =>
                  og (gval v77 false false (some v52)) fun v81 =>
                  og (gval v77 false false (idx 1 v80 v81 σ)) fun v82 =>
                  og (gval v77 false false (lod v82 σ)) fun v83 =>
                  gpick v77 (
                    k4 (y3.1, y3.2.1, y3.2.2.1, v54, v52, f11, v69, v70, (.val (.bool true)), ()) σ) (
                    acall TP fn_impl_Op_ends [v79, v83] σ (onr (fun v84 σ =>
                    (True) ∧
                    og (aun .not v84) fun v85 =>
                    k4 (y3.1, y3.2.1, y3.2.2.1, v54, v52, f11, v69, v70, v85, ()) σ) (fun v σ => apan v σ R))) (False)) (fun v σ => apan v σ R))) (fun v σ => apan v σ R))) (fun v σ => apan v σ R))) (
                aret (.tup [y3.2.2.1, (.val (.bool true))]) σ R)) (y2.1, y2.2.1, y2.2.2.1, v46, ()) σ)) (y1.1, y1.2.1, v34, v36, (.val (.int .i64 0)), ()) σ)) (f1, v19, v23, v24, (.val (.int .i64 0)), ()) σ) (fun v σ => apan v σ R)))
def x58 : Sx := .box (.var 0) (.frz 1 (.var 0) (.og (.fldA 1 (.var 0)) (.og (.lod (.var 0)) (.og (.lenS (.var 0)) (.og (.ibin .eql (.var 0) (.lit (.val (.int .i64 0)))) (.apick (.var 0) (.rets [(.lit (.val (.slice none 0 0))), (.lit (.val (.bool false)))]) (.og (.lodA 2 (.var 4)) (.call 51 [(.var 0)] (.og (.lenS (.var 0)) (.lp [1, 4, 23, 24, 25] (.og (.ibin .lss (.var 4) (.var 3)) (.apick (.var 0) (.og (.idx 1 (.var 3) (.var 5)) (.og (.lod (.var 0)) (.og (.ibin .geq (.var 0) (.var 4)) (.apick (.var 0) (.rets [(.lit (.val (.slice none 0 0))), (.lit (.val (.bool false)))]) (.og (.ibin .add (.var 8) (.lit (.val (.int .i64 1)))) (.jump 0 [(.var 5), (.var 6), (.var 7), (.var 8), (.var 0)])))))) (.mks 26 (.var 2) (.var 2) (.og (.lenS (.var 0)) (.lp [1, 4, 7, 36, 37] (.og (.ibin .lss (.var 4) (.var 3)) (.apick (.var 0) (.og (.idx 1 (.var 3) (.var 5)) (.sto 1 (.var 0) (.lit (.val (.int .i64 (-1)))) (.og (.ibin .add (.var 6) (.lit (.val (.int .i64 1)))) (.jump 0 [(.var 3), (.var 4), (.var 5), (.var 6), (.var 0)])))) (.og (.idx 1 (.var 3) (.lit (.val (.int .i64 0)))) (.sto 1 (.var 0) (.lit (.val (.int .i64 0))) (.bsl 1 [(.val (.int .i64 0))] 1 [(0, (.lit (.val (.int .i64 0))))] (.lp [1, 4, 7, 9] (.og (.lenS (.var 3)) (.og (.ibin .gtr (.var 0) (.lit (.val (.int .i64 0)))) (.apick (.var 0) (.og (.idx 1 (.var 5) (.lit (.val (.int .i64 0)))) (.og (.lod (.var 0)) (.og (.slc 1 (.var 7) (some (.lit (.val (.int .i64 1)))) none none) (.og (.fldA 1 (.var 5)) (.og (.lod (.var 0)) (.og (.idx 7 (.var 0) (.var 3)) (.og (.lodA 7 (.var 0)) (.new [(.val (.int .i64 0)), (.val (.int .i64 0)), (.val (.int .i64 0)), (.val (.int .i64 0)), (.val (.int .i64 0)), (.val (.string ⟨#[]⟩)), (.val (.slice none 0 0))] (.sto 7 (.var 0) (.var 1) (.frz 13 (.var 0) (.ord [0, 1, 2, 3, 4, 7, 10, 5, 6, 8, 9, 11, 12] [0, 0, 3, 7, 0, 16, 63, 0, 176, 511, 0, 1023, 4095] (.og (.idx 1 (.var 13) (.var 7)) (.og (.lod (.var 0)) (.og (.lodA 7 (.var 2)) (.og (.lodA 7 (.var 3)) (.og (.bslR 1 [(.val (.int .i64 0))] 0 []) (.call 67 [(.var 2)] (.wat [⟨none, (.lodA 7 (.var 6)), (.var 2)⟩, ⟨none, (.lod (.var 5)), (.var 4)⟩, ⟨none, (.idx 1 (.var 19) (.var 13)), (.var 5)⟩] (.og (.ibin .sub (.var 4) (.var 0)) (.call 68 [(.var 3)] (.wat [⟨none, (.lod (.var 7)), (.var 6)⟩, ⟨none, (.idx 1 (.var 21) (.var 15)), (.var 7)⟩] (.og (.ibin .add (.var 1) (.var 0)) (.jn 1045693 [1, 4, 7, 9, 10, 11, 12, 13, 86] (.apick (.var 8) (.rets [(.lit (.val (.slice none 0 0))), (.lit (.val (.bool false)))]) (.jn 1045695 [1, 4, 7, 9, 11, 12, 13] (.jn 2091391 [1, 4, 7, 9, 12, 13] (.og (.lenS (.var 5)) (.lp [1, 4, 7, 9, 12, 103, 104, 105] (.og (.ibin .lss (.var 7) (.var 6)) (.apick (.var 0) (.jn 133849063 [1, 4, 7, 9, 12, 103, 104, 105] (.og (.ibin .add (.var 7) (.lit (.val (.int .i64 1)))) (.jump 0 [(.var 1), (.var 2), (.var 3), (.var 4), (.var 5), (.var 6), (.var 7), (.var 0)])) (.og (.idx 1 (.var 6) (.var 8)) (.og (.lod (.var 0)) (.og (.ibin .geq (.var 0) (.var 4)) (.gog (.var 0) false false (.ret (.var 6)) (.gog (.var 1) false false (.ret (.var 2)) (.gog (.var 2) false false (.idx 1 (.var 1) (.var 0)) (.gog (.var 3) false false (.lod (.var 0)) (.gog (.var 4) false false (.ibin .geq (.var 0) (.lit (.val (.int .i64 0)))) (.gog (.var 5) false false (.ret (.var 0)) (.gog (.var 0) true true (.ret (.var 12)) (.gog (.var 1) true true (.ret (.var 8)) (.gog (.var 2) true true (.idx 1 (.var 1) (.var 0)) (.gog (.var 3) true true (.lod (.var 0)) (.gog (.var 4) true true (.ret (.var 18)) (.gog (.var 5) true true (.ibin .neq (.var 1) (.var 0)) (.gog (.var 12) false false (.pickV (.var 6) (.var 0) (.lit (.val (.bool false)))) (.og (.pickV (.var 13) (.lit (.val (.bool true))) (.var 0)) (.apick (.var 0) (.rets [(.lit (.val (.slice none 0 0))), (.lit (.val (.bool false)))]) (.og (.idx 1 (.var 20) (.var 15)) (.og (.lod (.var 0)) (.og (.ibin .lss (.var 0) (.lit (.val (.int .i64 0)))) (.apick (.var 0) (.bsl 1 [(.val (.int .i64 0))] 1 [(0, (.var 18))] (.app 1 (.var 25) (.var 0) (.og (.idx 1 (.var 25) (.var 20)) (.sto 1 (.var 0) (.var 28) (.jump 0 [(.var 24), (.var 25), (.var 26), (.var 1), (.var 28), (.var 29), (.var 30), (.var 31)]))))) (.jump 0 [(.var 21), (.var 22), (.var 23), (.var 24), (.var 25), (.var 26), (.var 27), (.var 28)])))))))))))))))))))))))) (.jump 1 [(.var 1), (.var 2), (.var 3), (.var 4)]))) [(.var 1), (.var 2), (.var 3), (.var 4), (.var 5), (.var 6), (.var 0), (.lit (.val (.int .i64 0)))])) (.call 93 [(.var 4)] (.cmp .neq 122 (.var 0) (.lit (.val (.pointer none))) (.apick (.var 0) (.og (.anil (.var 1)) (.og (.lod (.var 0)) (.bsl 1 [(.val (.int .i64 0))] 1 [(0, (.var 0))] (.app 1 (.var 11) (.var 0) (.jump 0 [(.var 6), (.var 7), (.var 8), (.var 9), (.var 11), (.var 0)]))))) (.jump 0 [(.var 2), (.var 3), (.var 4), (.var 5), (.var 7), (.var 8)]))))) (.og (.lodA 7 (.var 5)) (.call 99 [(.var 0)] (.apick (.var 0) (.og (.ibin .add (.var 6) (.lit (.val (.int .i64 1)))) (.bsl 1 [(.val (.int .i64 0))] 1 [(0, (.var 0))] (.app 1 (.var 11) (.var 0) (.jump 0 [(.var 5), (.var 6), (.var 7), (.var 8), (.var 10), (.var 11), (.var 0)])))) (.jump 0 [(.var 2), (.var 3), (.var 4), (.var 5), (.var 7), (.var 8), (.var 9)])))))) (.ord [0, 1, 2, 3, 4, 5, 6, 7, 8, 9, 10, 11, 12, 13, 14, 15] [0, 0, 3, 7, 0, 16, 63, 127, 255, 255, 255, 1791, 3839, 8191, 16383, 32767] (.og (.idx 1 (.var 22) (.var 16)) (.og (.lod (.var 0)) (.og (.lodA 7 (.var 11)) (.call 67 [(.var 0)] (.wat [⟨none, (.lod (.var 3)), (.var 2)⟩, ⟨none, (.idx 1 (.var 26) (.var 20)), (.var 3)⟩] (.og (.ibin .lss (.var 2) (.var 0)) (.gog (.var 0) false false (.lodA 7 (.var 14)) (.gog (.var 1) false false (.ret (.var 28)) (.gog (.var 2) false false (.ret (.var 23)) (.gog (.var 3) false false (.idx 1 (.var 1) (.var 0)) (.gog (.var 4) false false (.lod (.var 0)) (.gpick (.var 5) (.jump 0 [(.var 30), (.var 31), (.var 32), (.var 25), (.var 26), (.var 19), (.var 10), (.var 14), (.lit (.val (.bool true)))]) (.call 98 [(.var 4), (.var 0)] (.wat [] (.og (.aun .not (.var 0)) (.jump 0 [(.var 32), (.var 33), (.var 34), (.var 27), (.var 28), (.var 21), (.var 12), (.var 16), (.var 0)])))) (.no))))))))))))))))))))))))))))))))))))) (.rets [(.var 4), (.lit (.val (.bool true)))])))) [(.var 3), (.var 4), (.var 5), (.var 0)])))))) [(.var 3), (.var 4), (.var 1), (.var 0), (.lit (.val (.int .i64 0)))]))))) [(.var 7), (.var 4), (.var 1), (.var 0), (.lit (.val (.int .i64 0)))]))))))))))
set_option maxRecDepth 1000000 in
theorem x58_ok : okF TT Tryz.f58 1 x58 = true := by decide +kernel
set_option maxRecDepth 1000000 in
theorem s_impl_heightsOf_ok {a0 : AV} {σ : AH} {R : AEnd → AH → Prop} (h : s_impl_heightsOf a0 σ R) : acall TP fn_impl_heightsOf [a0] σ R :=
  acall_okF (ρ := [a0]) TT_ok Tryz.func58 rfl x58 x58_ok rfl h

/-- loop.example/g00349/spec.l10Fault -/
def s_spec_l10Fault (a0 : AV) (σ : AH) (R : AEnd → AH → Prop) : Prop :=
  acall TP fn_spec_l9Fault [a0] σ (onr (fun v10 σ =>
  og (ibin .neq v10 (.val (.int .i64 0))) fun v12 =>
  apick v12 (
    aret (.tup [(.val (.slice none 0 0)), v10]) σ R) (
    og (lenS a0) fun v15 =>
    og (ibin .eql v15 (.val (.int .i64 0))) fun v16 =>
    og (gval v16 false false (some a0)) fun v18 =>
    og (gval v16 false false (idx 2 v18 (.val (.int .i64 0)) σ)) fun v19 =>
    og (gval v16 false false (fldA 0 v19)) fun v20 =>
    og (gval v16 false false (lod v20 σ)) fun v21 =>
    og (gval v16 false false (ibin .neq v21 (.val (.int .i64 0)))) fun v22 =>
    og (pickV v16 (.val (.bool true)) v22) fun v23 =>
    apick v23 (
      aret (.tup [(.val (.slice none 0 0)), (.val (.int .i64 1))]) σ R) (
      acall TP fn_spec_l10Around [a0] σ (onr (fun v26 σ =>
      og (aext v26 0) fun v27 =>
      og (aext v26 1) fun v28 =>
      og (ibin .neq v28 (.val (.int .i64 0))) fun v30 =>
      apick v30 (
        aret (.tup [(.val (.slice none 0 0)), v28]) σ R) (
        lp (X := Tup [0, 5, 7]) (fun R1 y1 σ =>
          og (lenS y1.1) fun v34 =>
          og (ibin .lss y1.2.2.1 v34) fun v35 =>
          apick v35 (
            acall TP fn_spec_l10Locals [y1.1, y1.2.1, y1.2.2.1] σ (onr (fun v41 σ =>
            og (ibin .neq v41 (.val (.int .i64 0))) fun v43 =>
            apick v43 (
              aret (.tup [(.val (.slice none 0 0)), v41]) σ R) (
              og (ibin .add y1.2.2.1 (.val (.int .i64 1))) fun v37 =>
              R1 (y1.1, y1.2.1, v37, ()) σ)) (fun v σ => apan v σ R))) (
            aret (.tup [y1.2.1, (.val (.int .i64 0))]) σ R)) (a0, v27, (.val (.int .i64 0)), ()) σ)) (fun v σ => apan v σ R))))) (fun v σ => apan v σ R))
def x59 : Sx := .call 100 [(.var 0)] (.og (.ibin .neq (.var 0) (.lit (.val (.int .i64 0)))) (.apick (.var 0) (.rets [(.lit (.val (.slice none 0 0))), (.var 1)]) (.og (.lenS (.var 2)) (.og (.ibin .eql (.var 0) (.lit (.val (.int .i64 0)))) (.gog (.var 0) false false (.ret (.var 4)) (.gog (.var 1) false false (.idx 2 (.var 0) (.lit (.val (.int .i64 0)))) (.gog (.var 2) false false (.fldA 0 (.var 0)) (.gog (.var 3) false false (.lod (.var 0)) (.gog (.var 4) false false (.ibin .neq (.var 0) (.lit (.val (.int .i64 0)))) (.og (.pickV (.var 5) (.lit (.val (.bool true))) (.var 0)) (.apick (.var 0) (.rets [(.lit (.val (.slice none 0 0))), (.lit (.val (.int .i64 1)))]) (.call 101 [(.var 10)] (.og (.aext (.var 0) 0) (.og (.aext (.var 1) 1) (.og (.ibin .neq (.var 0) (.lit (.val (.int .i64 0)))) (.apick (.var 0) (.rets [(.lit (.val (.slice none 0 0))), (.var 1)]) (.lp [0, 5, 7] (.og (.lenS (.var 0)) (.og (.ibin .lss (.var 3) (.var 0)) (.apick (.var 0) (.call 102 [(.var 2), (.var 3), (.var 4)] (.og (.ibin .neq (.var 0) (.lit (.val (.int .i64 0)))) (.apick (.var 0) (.rets [(.lit (.val (.slice none 0 0))), (.var 1)]) (.og (.ibin .add (.var 6) (.lit (.val (.int .i64 1)))) (.jump 0 [(.var 5), (.var 6), (.var 0)]))))) (.rets [(.var 3), (.lit (.val (.int .i64 0)))])))) [(.var 14), (.var 2), (.lit (.val (.int .i64 0)))])))))))))))))))))
set_option maxRecDepth 1000000 in
theorem x59_ok : okF TT Tryz.f59 1 x59 = true := by decide +kernel
set_option maxRecDepth 1000000 in
theorem s_spec_l10Fault_ok {a0 : AV} {σ : AH} {R : AEnd → AH → Prop} (h : s_spec_l10Fault a0 σ R) : acall TP fn_spec_l10Fault [a0] σ R :=
  acall_okF (ρ := [a0]) TT_ok Tryz.func59 rfl x59 x59_ok rfl h

/-- loop.example/g00349/spec.l1In -/
def s_spec_l1In (a0 a1 a2 : AV) (σ : AH) (R : AEnd → AH → Prop) : Prop :=
  og (ibin .geq a0 a1) fun v9 =>
  og (gval v9 true false (some a0)) fun v11 =>
  og (gval v9 true false (some a2)) fun v12 =>
  og (gval v9 true false (ibin .leq v11 v12)) fun v13 =>
  og (pickV v9 v13 (.val (.bool false))) fun v14 =>
  aret v14 σ R
def x60 : Sx := .og (.ibin .geq (.var 2) (.var 1)) (.gog (.var 0) true false (.ret (.var 3)) (.gog (.var 1) true false (.ret (.var 2)) (.gog (.var 2) true false (.ibin .leq (.var 1) (.var 0)) (.og (.pickV (.var 3) (.var 0) (.lit (.val (.bool false)))) (.ret (.var 0))))))
set_option maxRecDepth 1000000 in
theorem x60_ok : okF TT Tryz.f60 3 x60 = true := by decide +kernel
set_option maxRecDepth 1000000 in
theorem s_spec_l1In_ok {a0 a1 a2 : AV} {σ : AH} {R : AEnd → AH → Prop} (h : s_spec_l1In a0 a1 a2 σ R) : acall TP fn_spec_l1In [a0, a1, a2] σ R :=
  acall_okF (ρ := [a2, a1, a0]) TT_ok Tryz.func60 rfl x60 x60_ok rfl h

/-- loop.example/g00349/impl.CodeFault -/
def s_impl_CodeFault (a0 : AV) (σ : AH) (R : AEnd → AH → Prop) : Prop :=
  acall TP fn_impl_opsFault [a0] σ (onr (fun v17 σ =>
  og (ibin .neq v17 (.val (.int .i64 0))) fun v19 =>
  apick v19 (
    aret v17 σ R) (
    og (lenS a0) fun v22 =>
    og (ibin .eql v22 (.val (.int .i64 0))) fun v23 =>
    og (gval v23 false false (some a0)) fun v25 =>
    og (gval v23 false false (idx 2 v25 (.val (.int .i64 0)) σ)) fun v26 =>
    og (gval v23 false false (fldA 0 v26)) fun v27 =>
    og (gval v23 false false (lod v27 σ)) fun v28 =>
    og (gval v23 false false (ibin .neq v28 (.val (.int .i64 0)))) fun v29 =>
    og (pickV v23 (.val (.bool true)) v29) fun v30 =>
    apick v30 (
      aret (.val (.int .i64 1)) σ R) (
      og (lenS a0) fun v32 =>
      lp (X := Tup [0, 31, 32, 33]) (fun R1 y1 σ =>
        og (ibin .lss y1.2.2.2.1 y1.2.2.1) fun v34 =>
        apick v34 (
          og (idx 2 y1.2.1 y1.2.2.2.1 σ) fun v35 =>
          og (lodA 2 v35 σ) fun v36 =>
          new [(.val (.int .i64 0)), (.val (.slice none 0 0))] σ fun v5 σ =>
          sto 2 v5 v36 σ fun σ =>
          frz v5 σ fun f5 σ =>
          og (lodA 2 f5 σ) fun v38 =>
          acall TP fn_impl_heightsOf [v38] σ (onr (fun v39 σ =>
          og (aext v39 0) fun v40 =>
          og (aext v39 1) fun v41 =>
          og (aun .not v41) fun v43 =>
          apick v43 (
            aret (.val (.int .i64 1)) σ R) (
            og (ibin .add y1.2.2.2.1 (.val (.int .i64 1))) fun v44 =>
            R1 (y1.1, y1.2.1, y1.2.2.1, v44, ()) σ)) (fun v σ => apan v σ R))) (
          acall TP fn_impl_around [y1.1] σ (onr (fun v47 σ =>
          og (aext v47 0) fun v48 =>
          og (aext v47 1) fun v49 =>
          og (aun .not v49) fun v51 =>
          apick v51 (
            aret (.val (.int .i64 1)) σ R) (
            og (lenS y1.1) fun v53 =>
            lp (X := Tup [0, 8, 52, 53, 54]) (fun R2 y2 σ =>
              og (ibin .lss y2.2.2.2.2.1 y2.2.2.2.1) fun v55 =>
              apick v55 (
                og (idx 2 y2.2.2.1 y2.2.2.2.2.1 σ) fun v57 =>
                og (lodA 2 v57 σ) fun v58 =>
                new [(.val (.int .i64 0)), (.val (.slice none 0 0))] σ fun v11 σ =>
                sto 2 v11 v58 σ fun σ =>
                frz v11 σ fun f11 σ =>
                og (fldA 1 f11) fun v59 =>
                og (lod v59 σ) fun v60 =>
                og (lenS v60) fun v61 =>
                lp (X := Tup [0, 8, 10, 52, 53, 54, 60, 61, 62]) (fun R3 y3 σ =>
                  og (ibin .lss y3.2.2.2.2.2.2.2.2.1 y3.2.2.2.2.2.2.2.1) fun v63 =>
                  apick v63 (
                    og (idx 7 y3.2.2.2.2.2.2.1 y3.2.2.2.2.2.2.2.2.1 σ) fun v64 =>
                    og (lodA 7 v64 σ) fun v65 =>
                    new [(.val (.int .i64 0)), (.val (.int .i64 0)), (.val (.int .i64 0)), (.val (.int .i64 0)), (.val (.int .i64 0)), (.val (.string ⟨#[]⟩)), (.val (.slice none 0 0))] σ fun v13 σ =>
                    sto 7 v13 v65 σ fun σ =>
                    frz v13 σ fun f13 σ =>
                    og (lodA 7 f13 σ) fun v66 =>
                    acall TP fn_impl_Op_localsIn [v66] σ (onr (fun v67 σ =>
                    og (lenS v67) fun v68 =>
                    lp (X := Tup [0, 8, 10, 13, 52, 53, 54, 60, 61, 62, 67, 68, 69]) (fun R4 y4 σ =>
                      og (ibin .lss y4.2.2.2.2.2.2.2.2.2.2.2.2.1 y4.2.2.2.2.2.2.2.2.2.2.2.1) fun v70 =>
                      apick v70 (
                        og (idx 2 y4.2.2.2.2.2.2.2.2.2.2.1 y4.2.2.2.2.2.2.2.2.2.2.2.2.1 σ) fun v71 =>
                        og (lodA 2 v71 σ) fun v72 =>
                        new [(.val (.int .i64 0)), (.val (.int .i64 0))] σ fun v15 σ =>
                        sto 2 v15 v72 σ fun σ =>
                        frz v15 σ fun f15 σ =>
                        og (idxArr 2 1 f15 (.val (.int .i64 0))) fun v76 =>
                        og (lod v76 σ) fun v77 =>
                        og (idxArr 2 1 f15 (.val (.int .i64 1))) fun v78 =>
                        og (lod v78 σ) fun v79 =>
                        acall TP fn_impl_isLocal [y4.1, y4.2.1, y4.2.2.1, v77, v79] σ (onr (fun v80 σ =>
                        og (aun .not v80) fun v81 =>
                        apick v81 (
                          aret (.val (.int .i64 3)) σ R) (
                          og (ibin .add y4.2.2.2.2.2.2.2.2.2.2.2.2.1 (.val (.int .i64 1))) fun v82 =>
                          R4 (y4.1, y4.2.1, y4.2.2.1, y4.2.2.2.1, y4.2.2.2.2.1, y4.2.2.2.2.2.1, y4.2.2.2.2.2.2.1, y4.2.2.2.2.2.2.2.1, y4.2.2.2.2.2.2.2.2.1, y4.2.2.2.2.2.2.2.2.2.1, y4.2.2.2.2.2.2.2.2.2.2.1, y4.2.2.2.2.2.2.2.2.2.2.2.1, v82, ()) σ)) (fun v σ => apan v σ R))) (
                        og (fldA 0 y4.2.2.2.1) fun v83 =>
                        og (lod v83 σ) fun v84 =>
                        og (ibin .eql v84 (.val (.int .i64 9))) fun v85 =>
                        og (gval v85 true false (some y4.2.2.1)) fun v87 =>
                        og (gval v85 true false (ibin .gtr v87 (.val (.int .i64 0)))) fun v88 =>
                        og (pickV v85 v88 (.val (.bool false))) fun v89 =>
                        apick v89 (
                          aret (.val (.int .i64 1)) σ R) (
                          og (ibin .add y4.2.2.2.2.2.2.2.2.2.1 (.val (.int .i64 1))) fun v90 =>
                          R3 (y4.1, y4.2.1, y4.2.2.1, y4.2.2.2.2.1, y4.2.2.2.2.2.1, y4.2.2.2.2.2.2.1, y4.2.2.2.2.2.2.2.1, y4.2.2.2.2.2.2.2.2.1, v90, ()) σ))) (y3.1, y3.2.1, y3.2.2.1, f13, y3.2.2.2.1, y3.2.2.2.2.1, y3.2.2.2.2.2.1, y3.2.2.2.2.2.2.1, y3.2.2.2.2.2.2.2.1, y3.2.2.2.2.2.2.2.2.1, v67, v68, (.val (.int .i64 0)), ()) σ) (fun v σ => apan v σ R))) (
                    og (ibin .add y3.2.2.2.2.2.1 (.val (.int .i64 1))) fun v91 =>
                    R2 (y3.1, y3.2.1, y3.2.2.2.1, y3.2.2.2.2.1, v91, ()) σ)) (y2.1, y2.2.1, y2.2.2.2.2.1, y2.2.2.1, y2.2.2.2.1, y2.2.2.2.2.1, v60, v61, (.val (.int .i64 0)), ()) σ) (
                aret (.val (.int .i64 0)) σ R)) (y1.1, v48, y1.1, v53, (.val (.int .i64 0)), ()) σ)) (fun v σ => apan v σ R)))) (a0, a0, v32, (.val (.int .i64 0)), ()) σ))) (fun v σ => apan v σ R))
def x61 : Sx := .call 103 [(.var 0)] (.og (.ibin .neq (.var 0) (.lit (.val (.int .i64 0)))) (.apick (.var 0) (.ret (.var 1)) (.og (.lenS (.var 2)) (.og (.ibin .eql (.var 0) (.lit (.val (.int .i64 0)))) (.gog (.var 0) false false (.ret (.var 4)) (.gog (.var 1) false false (.idx 2 (.var 0) (.lit (.val (.int .i64 0)))) (.gog (.var 2) false false (.fldA 0 (.var 0)) (.gog (.var 3) false false (.lod (.var 0)) (.gog (.var 4) false false (.ibin .neq (.var 0) (.lit (.val (.int .i64 0)))) (.og (.pickV (.var 5) (.lit (.val (.bool true))) (.var 0)) (.apick (.var 0) (.ret (.lit (.val (.int .i64 1)))) (.og (.lenS (.var 10)) (.lp [0, 31, 32, 33] (.og (.ibin .lss (.var 3) (.var 2)) (.apick (.var 0) (.og (.idx 2 (.var 2) (.var 4)) (.og (.lodA 2 (.var 0)) (.new [(.val (.int .i64 0)), (.val (.slice none 0 0))] (.sto 2 (.var 0) (.var 1) (.frz 7 (.var 0) (.og (.lodA 2 (.var 0)) (.call 58 [(.var 0)] (.og (.aext (.var 0) 0) (.og (.aext (.var 1) 1) (.og (.aun .not (.var 0)) (.apick (.var 0) (.ret (.lit (.val (.int .i64 1)))) (.og (.ibin .add (.var 13) (.lit (.val (.int .i64 1)))) (.jump 0 [(.var 11), (.var 12), (.var 13), (.var 0)]))))))))))))) (.call 63 [(.var 1)] (.og (.aext (.var 0) 0) (.og (.aext (.var 1) 1) (.og (.aun .not (.var 0)) (.apick (.var 0) (.ret (.lit (.val (.int .i64 1)))) (.og (.lenS (.var 5)) (.lp [0, 8, 52, 53, 54] (.og (.ibin .lss (.var 4) (.var 3)) (.apick (.var 0) (.og (.idx 2 (.var 3) (.var 5)) (.og (.lodA 2 (.var 0)) (.new [(.val (.int .i64 0)), (.val (.slice none 0 0))] (.sto 2 (.var 0) (.var 1) (.frz 8 (.var 0) (.og (.fldA 1 (.var 0)) (.og (.lod (.var 0)) (.og (.lenS (.var 0)) (.lp [0, 8, 10, 52, 53, 54, 60, 61, 62] (.og (.ibin .lss (.var 8) (.var 7)) (.apick (.var 0) (.og (.idx 7 (.var 7) (.var 9)) (.og (.lodA 7 (.var 0)) (.new [(.val (.int .i64 0)), (.val (.int .i64 0)), (.val (.int .i64 0)), (.val (.int .i64 0)), (.val (.int .i64 0)), (.val (.string ⟨#[]⟩)), (.val (.slice none 0 0))] (.sto 7 (.var 0) (.var 1) (.frz 12 (.var 0) (.og (.lodA 7 (.var 0)) (.call 104 [(.var 0)] (.og (.lenS (.var 0)) (.lp [0, 8, 10, 13, 52, 53, 54, 60, 61, 62, 67, 68, 69] (.og (.ibin .lss (.var 12) (.var 11)) (.apick (.var 0) (.og (.idx 2 (.var 11) (.var 13)) (.og (.lodA 2 (.var 0)) (.new [(.val (.int .i64 0)), (.val (.int .i64 0))] (.sto 2 (.var 0) (.var 1) (.frz 16 (.var 0) (.og (.idxArr 2 1 (.var 0) (.lit (.val (.int .i64 0)))) (.og (.lod (.var 0)) (.og (.idxArr 2 1 (.var 2) (.lit (.val (.int .i64 1)))) (.og (.lod (.var 0)) (.call 105 [(.var 9), (.var 10), (.var 11), (.var 2), (.var 0)] (.og (.aun .not (.var 0)) (.apick (.var 0) (.ret (.lit (.val (.int .i64 3)))) (.og (.ibin .add (.var 23) (.lit (.val (.int .i64 1)))) (.jump 0 [(.var 12), (.var 13), (.var 14), (.var 15), (.var 16), (.var 17), (.var 18), (.var 19), (.var 20), (.var 21), (.var 22), (.var 23), (.var 0)])))))))))))))) (.og (.fldA 0 (.var 4)) (.og (.lod (.var 0)) (.og (.ibin .eql (.var 0) (.lit (.val (.int .i64 9)))) (.gog (.var 0) true false (.ret (.var 6)) (.gog (.var 1) true false (.ibin .gtr (.var 0) (.lit (.val (.int .i64 0)))) (.og (.pickV (.var 2) (.var 0) (.lit (.val (.bool false)))) (.apick (.var 0) (.ret (.lit (.val (.int .i64 1)))) (.og (.ibin .add (.var 16) (.lit (.val (.int .i64 1)))) (.jump 1 [(.var 8), (.var 9), (.var 10), (.var 12), (.var 13), (.var 14), (.var 15), (.var 16), (.var 0)]))))))))))) [(.var 8), (.var 9), (.var 10), (.var 3), (.var 11), (.var 12), (.var 13), (.var 14), (.var 15), (.var 16), (.var 1), (.var 0), (.lit (.val (.int .i64 0)))]))))))))) (.og (.ibin .add (.var 6) (.lit (.val (.int .i64 1)))) (.jump 1 [(.var 2), (.var 3), (.var 5), (.var 6), (.var 0)])))) [(.var 8), (.var 9), (.var 12), (.var 10), (.var 11), (.var 12), (.var 1), (.var 0), (.lit (.val (.int .i64 0)))]))))))))) (.ret (.lit (.val (.int .i64 0)))))) [(.var 6), (.var 3), (.var 6), (.var 0), (.lit (.val (.int .i64 0)))]))))))))) [(.var 11), (.var 11), (.var 0), (.lit (.val (.int .i64 0)))])))))))))))))
set_option maxRecDepth 1000000 in
theorem x61_ok : okF TT Tryz.f61 1 x61 = true := by decide +kernel
set_option maxRecDepth 1000000 in
theorem s_impl_CodeFault_ok {a0 : AV} {σ : AH} {R : AEnd → AH → Prop} (h : s_impl_CodeFault a0 σ R) : acall TP fn_impl_CodeFault [a0] σ R :=
  acall_okF (ρ := [a0]) TT_ok Tryz.func61 rfl x61 x61_ok rfl h

/-- loop.example/g00349/impl.in -/
def s_impl_in (a0 a1 a2 : AV) (σ : AH) (R : AEnd → AH → Prop) : Prop :=
  og (ibin .leq a1 a0) fun v9 =>
  og (gval v9 true false (some a0)) fun v11 =>
  og (gval v9 true false (some a2)) fun v12 =>
  og (gval v9 true false (ibin .leq v11 v12)) fun v13 =>
  og (pickV v9 v13 (.val (.bool false))) fun v14 =>
  aret v14 σ R
def x62 : Sx := .og (.ibin .leq (.var 1) (.var 2)) (.gog (.var 0) true false (.ret (.var 3)) (.gog (.var 1) true false (.ret (.var 2)) (.gog (.var 2) true false (.ibin .leq (.var 1) (.var 0)) (.og (.pickV (.var 3) (.var 0) (.lit (.val (.bool false)))) (.ret (.var 0))))))
set_option maxRecDepth 1000000 in
theorem x62_ok : okF TT Tryz.f62 3 x62 = true := by decide +kernel
set_option maxRecDepth 1000000 in
theorem s_impl_in_ok {a0 a1 a2 : AV} {σ : AH} {R : AEnd → AH → Prop} (h : s_impl_in a0 a1 a2 σ R) : acall TP fn_impl_in [a0, a1, a2] σ R :=
  acall_okF (ρ := [a2, a1, a0]) TT_ok Tryz.func62 rfl x62 x62_ok rfl h

/-- loop.example/g00349/impl.around -/
def s_impl_around (a0 : AV) (σ : AH) (R : AEnd → AH → Prop) : Prop :=
  og (lenS a0) fun v13 =>
  amake TT ty_Li v13 v13 σ fun v14 σ =>
  og (lenS v14) fun v16 =>
  lp (X := Tup [0, 4, 16, 17]) (fun R1 y1 σ =>
    og (ibin .lss y1.2.2.2.1 y1.2.2.1) fun v18 =>
    apick v18 (
      og (idx 1 y1.2.1 y1.2.2.2.1 σ) fun v22 =>
      sto 1 v22 (.val (.int .i64 (-1))) σ fun σ =>
      og (ibin .add y1.2.2.2.1 (.val (.int .i64 1))) fun v23 =>
      R1 (y1.1, y1.2.1, y1.2.2.1, v23, ()) σ) (
      og (lenS y1.1) fun v25 =>
      lp (X := Tup [0, 4, 24, 25, 26]) (fun R2 y2 σ =>
        og (ibin .lss y2.2.2.2.2.1 y2.2.2.2.1) fun v27 =>
        apick v27 (
          og (idx 2 y2.2.2.1 y2.2.2.2.2.1 σ) fun v29 =>
          og (lodA 2 v29 σ) fun v30 =>
          new [(.val (.int .i64 0)), (.val (.slice none 0 0))] σ fun v7 σ =>
          sto 2 v7 v30 σ fun σ =>
          frz v7 σ fun f7 σ =>
          og (fldA 1 f7) fun v31 =>
          og (lod v31 σ) fun v32 =>
          og (lenS v32) fun v33 =>
          lp (X := Tup [0, 4, 6, 24, 25, 26, 32, 33, 34]) (fun R3 y3 σ =>
            og (ibin .lss y3.2.2.2.2.2.2.2.2.1 y3.2.2.2.2.2.2.2.1) fun v35 =>
            apick v35 (
              jn (X := Tup [0, 4, 6, 24, 25, 26, 32, 33, 34]) (fun x4 σ =>
                  og (ibin .add x4.2.2.2.2.2.2.2.2.1 (.val (.int .i64 1))) fun v65 =>
                  R3 (x4.1, x4.2.1, x4.2.2.1, x4.2.2.2.1, x4.2.2.2.2.1, x4.2.2.2.2.2.1, x4.2.2.2.2.2.2.1, x4.2.2.2.2.2.2.2.1, v65, ()) σ) fun k4 =>
                og (idx 7 y3.2.2.2.2.2.2.1 y3.2.2.2.2.2.2.2.2.1 σ) fun v36 =>
                og (lodA 7 v36 σ) fun v37 =>
                new [(.val (.int .i64 0)), (.val (.int .i64 0)), (.val (.int .i64 0)), (.val (.int .i64 0)), (.val (.int .i64 0)), (.val (.string ⟨#[]⟩)), (.val (.slice none 0 0))] σ fun v9 σ =>
                sto 7 v9 v37 σ fun σ =>
                frz v9 σ fun f9 σ =>
                og (fldA 0 f9) fun v38 =>
                og (lod v38 σ) fun v39 =>
                og (ibin .neq v39 (.val (.int .i64 4))) fun v40 =>
                apick v40 (
                  k4 (y3.1, y3.2.1, y3.2.2.1, y3.2.2.2.1, y3.2.2.2.2.1, y3.2.2.2.2.2.1, y3.2.2.2.2.2.2.1, y3.2.2.2.2.2.2.2.1, y3.2.2.2.2.2.2.2.2.1, ()) σ) (
                  og (fldA 1 f9) fun v41 =>
                  og (lod v41 σ) fun v42 =>
                  og (ibin .leq v42 y3.2.2.1) fun v44 =>
                  og (gval v44 false false (fldA 1 f9)) fun v46 =>
                  og (gval v44 false false (lod v46 σ)) fun v47 =>
                  og (gval v44 false false (some y3.1)) fun v48 =>
                  og (gval v44 false false (lenS v48)) fun v49 =>
                  og (gval v44 false false (ibin .geq v47 v49)) fun v50 =>
                  og (pickV v44 (.val (.bool true)) v50) fun v51 =>
                  og (gval v51 false false (some y3.2.1)) fun v53 =>
                  og (gval v51 false false (fldA 1 f9)) fun v54 =>
                  og (gval v51 false false (lod v54 σ)) fun v55 =>
                  og (gval v51 false false (idx 1 v53 v55 σ)) fun v56 =>
                  og (gval v51 false false (lod v56 σ)) fun v57 =>
                  og (gval v51 false false (ibin .geq v57 (.val (.int .i64 0)))) fun v58 =>
                  og (pickV v51 (.val (.bool true)) v58) fun v59 =>
                  apick v59 (
                    aret (.tup [(.val (.slice none 0 0)), (.val (.bool false))]) σ R) (
                    og (fldA 1 f9) fun v61 =>
                    og (lod v61 σ) fun v62 =>
                    og (idx 1 y3.2.1 v62 σ) fun v64 =>
                    sto 1 v64 y3.2.2.1 σ fun σ =>
                    k4 (y3.1, y3.2.1, y3.2.2.1, y3.2.2.2.1, y3.2.2.2.2.1, y3.2.2.2.2.2.1, y3.2.2.2.2.2.2.1, y3.2.2.2.2.2.2.2.1, y3.2.2.2.2.2.2.2.2.1, ()) σ))) (
              og (ibin .add y3.2.2.2.2.2.1 (.val (.int .i64 1))) fun v66 =>
              R2 (y3.1, y3.2.1, y3.2.2.2.1, y3.2.2.2.2.1, v66, ()) σ)) (y2.1, y2.2.1, y2.2.2.2.2.1, y2.2.2.1, y2.2.2.2.1, y2.2.2.2.2.1, v32, v33, (.val (.int .i64 0)), ()) σ) (
          og (slc 1 y2.2.1 (some (.val (.int .i64 1))) none none σ) fun v68 =>
          og (lenS v68) fun v69 =>
          lp (X := Tup [4, 68, 69, 70]) (fun R5 y5 σ =>
            og (ibin .lss y5.2.2.2.1 y5.2.2.1) fun v71 =>
            apick v71 (
              og (idx 1 y5.2.1 y5.2.2.2.1 σ) fun v72 =>
              og (lod v72 σ) fun v73 =>
              og (ibin .lss v73 (.val (.int .i64 0))) fun v75 =>
              apick v75 (
                aret (.tup [(.val (.slice none 0 0)), (.val (.bool false))]) σ R) (
                og (ibin .add y5.2.2.2.1 (.val (.int .i64 1))) fun v76 =>
                R5 (y5.1, y5.2.1, y5.2.2.1, v76, ()) σ)) (
              aret (.tup [y5.1, (.val (.bool true))]) σ R)) (y2.2.1, v68, v69, (.val (.int .i64 0)), ()) σ)) (y1.1, y1.2.1, y1.1, v25, (.val (.int .i64 0)), ()) σ)) (a0, v14, v16, (.val (.int .i64 0)), ()) σ
def x63 : Sx := .og (.lenS (.var 0)) (.mks 26 (.var 0) (.var 0) (.og (.lenS (.var 0)) (.lp [0, 4, 16, 17] (.og (.ibin .lss (.var 3) (.var 2)) (.apick (.var 0) (.og (.idx 1 (.var 2) (.var 4)) (.sto 1 (.var 0) (.lit (.val (.int .i64 (-1)))) (.og (.ibin .add (.var 5) (.lit (.val (.int .i64 1)))) (.jump 0 [(.var 3), (.var 4), (.var 5), (.var 0)])))) (.og (.lenS (.var 1)) (.lp [0, 4, 24, 25, 26] (.og (.ibin .lss (.var 4) (.var 3)) (.apick (.var 0) (.og (.idx 2 (.var 3) (.var 5)) (.og (.lodA 2 (.var 0)) (.new [(.val (.int .i64 0)), (.val (.slice none 0 0))] (.sto 2 (.var 0) (.var 1) (.frz 8 (.var 0) (.og (.fldA 1 (.var 0)) (.og (.lod (.var 0)) (.og (.lenS (.var 0)) (.lp [0, 4, 6, 24, 25, 26, 32, 33, 34] (.og (.ibin .lss (.var 8) (.var 7)) (.apick (.var 0) (.jn 501351 [0, 4, 6, 24, 25, 26, 32, 33, 34] (.og (.ibin .add (.var 8) (.lit (.val (.int .i64 1)))) (.jump 0 [(.var 1), (.var 2), (.var 3), (.var 4), (.var 5), (.var 6), (.var 7), (.var 8), (.var 0)])) (.og (.idx 7 (.var 7) (.var 9)) (.og (.lodA 7 (.var 0)) (.new [(.val (.int .i64 0)), (.val (.int .i64 0)), (.val (.int .i64 0)), (.val (.int .i64 0)), (.val (.int .i64 0)), (.val (.string ⟨#[]⟩)), (.val (.slice none 0 0))] (.sto 7 (.var 0) (.var 1) (.frz 12 (.var 0) (.og (.fldA 0 (.var 0)) (.og (.lod (.var 0)) (.og (.ibin .neq (.var 0) (.lit (.val (.int .i64 4)))) (.apick (.var 0) (.jump 0 [(.var 8), (.var 9), (.var 10), (.var 11), (.var 12), (.var 13), (.var 14), (.var 15), (.var 16)]) (.og (.fldA 1 (.var 3)) (.og (.lod (.var 0)) (.og (.ibin .leq (.var 0) (.var 12)) (.gog (.var 0) false false (.fldA 1 (.var 6)) (.gog (.var 1) false false (.lod (.var 0)) (.gog (.var 2) false false (.ret (.var 13)) (.gog (.var 3) false false (.lenS (.var 0)) (.gog (.var 4) false false (.ibin .geq (.var 2) (.var 0)) (.og (.pickV (.var 5) (.lit (.val (.bool true))) (.var 0)) (.gog (.var 0) false false (.ret (.var 18)) (.gog (.var 1) false false (.fldA 1 (.var 13)) (.gog (.var 2) false false (.lod (.var 0)) (.gog (.var 3) false false (.idx 1 (.var 2) (.var 0)) (.gog (.var 4) false false (.lod (.var 0)) (.gog (.var 5) false false (.ibin .geq (.var 0) (.lit (.val (.int .i64 0)))) (.og (.pickV (.var 6) (.lit (.val (.bool true))) (.var 0)) (.apick (.var 0) (.rets [(.lit (.val (.slice none 0 0))), (.lit (.val (.bool false)))]) (.og (.fldA 1 (.var 19)) (.og (.lod (.var 0)) (.og (.idx 1 (.var 27) (.var 0)) (.sto 1 (.var 0) (.var 29) (.jump 0 [(.var 27), (.var 28), (.var 29), (.var 30), (.var 31), (.var 32), (.var 33), (.var 34), (.var 35)])))))))))))))))))))))))))))))))) (.og (.ibin .add (.var 6) (.lit (.val (.int .i64 1)))) (.jump 1 [(.var 2), (.var 3), (.var 5), (.var 6), (.var 0)])))) [(.var 8), (.var 9), (.var 12), (.var 10), (.var 11), (.var 12), (.var 1), (.var 0), (.lit (.val (.int .i64 0)))]))))))))) (.og (.slc 1 (.var 2) (some (.lit (.val (.int .i64 1)))) none none) (.og (.lenS (.var 0)) (.lp [4, 68, 69, 70] (.og (.ibin .lss (.var 3) (.var 2)) (.apick (.var 0) (.og (.idx 1 (.var 2) (.var 4)) (.og (.lod (.var 0)) (.og (.ibin .lss (.var 0) (.lit (.val (.int .i64 0)))) (.apick (.var 0) (.rets [(.lit (.val (.slice none 0 0))), (.lit (.val (.bool false)))]) (.og (.ibin .add (.var 7) (.lit (.val (.int .i64 1)))) (.jump 0 [(.var 5), (.var 6), (.var 7), (.var 0)])))))) (.rets [(.var 1), (.lit (.val (.bool true)))]))) [(.var 4), (.var 1), (.var 0), (.lit (.val (.int .i64 0)))]))))) [(.var 2), (.var 3), (.var 2), (.var 0), (.lit (.val (.int .i64 0)))])))) [(.var 3), (.var 1), (.var 0), (.lit (.val (.int .i64 0)))])))
set_option maxRecDepth 1000000 in
theorem x63_ok : okF TT Tryz.f63 1 x63 = true := by decide +kernel
set_option maxRecDepth 1000000 in
theorem s_impl_around_ok {a0 : AV} {σ : AH} {R : AEnd → AH → Prop} (h : s_impl_around a0 σ R) : acall TP fn_impl_around [a0] σ R :=
  acall_okF (ρ := [a0]) TT_ok Tryz.func63 rfl x63 x63_ok rfl h

/-- (loop.example/g00349/impl.Op).isFused -/
def s_impl_Op_isFused (a0 : AV) (σ : AH) (R : AEnd → AH → Prop) : Prop :=
  abox a0 σ fun v1 σ =>
  frz v1 σ fun f1 σ =>
  og (fldA 0 f1) fun v3 =>
  og (lod v3 σ) fun v4 =>
  acall TP fn_impl_in [v4, (.val (.int .i64 13)), (.val (.int .i64 16))] σ (onr (fun v5 σ =>
  aret v5 σ R) (fun v σ => apan v σ R))
def x64 : Sx := .box (.var 0) (.frz 1 (.var 0) (.og (.fldA 0 (.var 0)) (.og (.lod (.var 0)) (.call 62 [(.var 0), (.lit (.val (.int .i64 13))), (.lit (.val (.int .i64 16)))] (.ret (.var 0))))))
set_option maxRecDepth 1000000 in
theorem x64_ok : okF TT Tryz.f64 1 x64 = true := by decide +kernel
set_option maxRecDepth 1000000 in
theorem s_impl_Op_isFused_ok {a0 : AV} {σ : AH} {R : AEnd → AH → Prop} (h : s_impl_Op_isFused a0 σ R) : acall TP fn_impl_Op_isFused [a0] σ R :=
  acall_okF (ρ := [a0]) TT_ok Tryz.func64 rfl x64 x64_ok rfl h

/-- loop.example/g00349/spec.l10Takes -/
def s_spec_l10Takes (a0 : AV) (σ : AH) (R : AEnd → AH → Prop) : Prop :=
  og (anil a0) fun v5 =>
  og (fldA 0 v5) fun v6 =>
  og (lod v6 σ) fun v7 =>
  jn (X := Tup [0, 7, 8]) (fun x1 σ =>
      apick x1.2.2.1 (
        aret (.tup [(.val (.int .i64 0)), (.val (.int .i64 1))]) σ R) (
        jn (X := Tup [0, 7, 13]) (fun x2 σ =>
            apick x2.2.2.1 (
              aret (.tup [(.val (.int .i64 1)), (.val (.int .i64 0))]) σ R) (
              jn (X := Tup [0, 7, 16]) (fun x3 σ =>
                  apick x3.2.2.1 (
                    aret (.tup [(.val (.int .i64 1)), (.val (.int .i64 1))]) σ R) (
                    og (ibin .eql x3.2.1 (.val (.int .i64 10))) fun v20 =>
                    apick v20 (
                      og (anil x3.1) fun v22 =>
                      og (fldA 1 v22) fun v23 =>
                      og (lod v23 σ) fun v24 =>
                      og (ibin .add v24 (.val (.int .i64 1))) fun v25 =>
                      aret (.tup [v25, (.val (.int .i64 1))]) σ R) (
                      og (ibin .eql x3.2.1 (.val (.int .i64 15))) fun v27 =>
                      apick v27 (
                        aret (.tup [(.val (.int .i64 0)), (.val (.int .i64 2))]) σ R) (
                        aret (.tup [(.val (.int .i64 0)), (.val (.int .i64 0))]) σ R)))) fun k3 =>
                og (ibin .eql x2.2.1 (.val (.int .i64 8))) fun v17 =>
                apick v17 (
                  k3 (x2.1, x2.2.1, v17, ()) σ) (
                  og (ibin .eql x2.2.1 (.val (.int .i64 9))) fun v18 =>
                  k3 (x2.1, x2.2.1, v18, ()) σ))) fun k2 =>
          og (ibin .eql x1.2.1 (.val (.int .i64 6))) fun v14 =>
          apick v14 (
            k2 (x1.1, x1.2.1, v14, ()) σ) (
            og (ibin .eql x1.2.1 (.val (.int .i64 7))) fun v15 =>
            k2 (x1.1, x1.2.1, v15, ()) σ))) fun k1 =>
    og (ibin .eql v7 (.val (.int .i64 1))) fun v9 =>
    apick v9 (
      k1 (a0, v7, v9, ()) σ) (
      og (ibin .eql v7 (.val (.int .i64 2))) fun v10 =>
      apick v10 (
        k1 (a0, v7, v10, ()) σ) (
        og (ibin .eql v7 (.val (.int .i64 3))) fun v11 =>
        apick v11 (
          k1 (a0, v7, v11, ()) σ) (
          og (ibin .eql v7 (.val (.int .i64 4))) fun v12 =>
          k1 (a0, v7, v12, ()) σ)))
def x65 : Sx := .og (.anil (.var 0)) (.og (.fldA 0 (.var 0)) (.og (.lod (.var 0)) (.jn 53 [0, 7, 8] (.apick (.var 2) (.rets [(.lit (.val (.int .i64 0))), (.lit (.val (.int .i64 1)))]) (.jn 215 [0, 7, 13] (.apick (.var 2) (.rets [(.lit (.val (.int .i64 1))), (.lit (.val (.int .i64 0)))]) (.jn 863 [0, 7, 16] (.apick (.var 2) (.rets [(.lit (.val (.int .i64 1))), (.lit (.val (.int .i64 1)))]) (.og (.ibin .eql (.var 1) (.lit (.val (.int .i64 10)))) (.apick (.var 0) (.og (.anil (.var 1)) (.og (.fldA 1 (.var 0)) (.og (.lod (.var 0)) (.og (.ibin .add (.var 0) (.lit (.val (.int .i64 1)))) (.rets [(.var 0), (.lit (.val (.int .i64 1)))]))))) (.og (.ibin .eql (.var 2) (.lit (.val (.int .i64 15)))) (.apick (.var 0) (.rets [(.lit (.val (.int .i64 0))), (.lit (.val (.int .i64 2)))]) (.rets [(.lit (.val (.int .i64 0))), (.lit (.val (.int .i64 0)))])))))) (.og (.ibin .eql (.var 1) (.lit (.val (.int .i64 8)))) (.apick (.var 0) (.jump 0 [(.var 1), (.var 2), (.var 0)]) (.og (.ibin .eql (.var 2) (.lit (.val (.int .i64 9)))) (.jump 0 [(.var 2), (.var 3), (.var 0)])))))) (.og (.ibin .eql (.var 1) (.lit (.val (.int .i64 6)))) (.apick (.var 0) (.jump 0 [(.var 1), (.var 2), (.var 0)]) (.og (.ibin .eql (.var 2) (.lit (.val (.int .i64 7)))) (.jump 0 [(.var 2), (.var 3), (.var 0)])))))) (.og (.ibin .eql (.var 0) (.lit (.val (.int .i64 1)))) (.apick (.var 0) (.jump 0 [(.var 4), (.var 1), (.var 0)]) (.og (.ibin .eql (.var 1) (.lit (.val (.int .i64 2)))) (.apick (.var 0) (.jump 0 [(.var 5), (.var 2), (.var 0)]) (.og (.ibin .eql (.var 2) (.lit (.val (.int .i64 3)))) (.apick (.var 0) (.jump 0 [(.var 6), (.var 3), (.var 0)]) (.og (.ibin .eql (.var 3) (.lit (.val (.int .i64 4)))) (.jump 0 [(.var 7), (.var 4), (.var 0)])))))))))))
set_option maxRecDepth 1000000 in
theorem x65_ok : okF TT Tryz.f65 1 x65 = true := by decide +kernel
set_option maxRecDepth 1000000 in
theorem s_spec_l10Takes_ok {a0 : AV} {σ : AH} {R : AEnd → AH → Prop} (h : s_spec_l10Takes a0 σ R) : acall TP fn_spec_l10Takes [a0] σ R :=
  acall_okF (ρ := [a0]) TT_ok Tryz.func65 rfl x65 x65_ok rfl h

/-- loop.example/g00349/spec.l1Max -/
def s_spec_l1Max (a0 a1 : AV) (σ : AH) (R : AEnd → AH → Prop) : Prop :=
  og (ibin .gtr a0 a1) fun v7 =>
  apick v7 (
    aret a0 σ R) (
    aret a1 σ R)
def x66 : Sx := .og (.ibin .gtr (.var 1) (.var 0)) (.apick (.var 0) (.ret (.var 2)) (.ret (.var 1)))
set_option maxRecDepth 1000000 in
theorem x66_ok : okF TT Tryz.f66 2 x66 = true := by decide +kernel
set_option maxRecDepth 1000000 in
theorem s_spec_l1Max_ok {a0 a1 : AV} {σ : AH} {R : AEnd → AH → Prop} (h : s_spec_l1Max a0 a1 σ R) : acall TP fn_spec_l1Max [a0, a1] σ R :=
  acall_okF (ρ := [a1, a0]) TT_ok Tryz.func66 rfl x66 x66_ok rfl h

/-- (loop.example/g00349/impl.Op).takes -/
def s_impl_Op_takes (a0 : AV) (σ : AH) (R : AEnd → AH → Prop) : Prop :=
  abox a0 σ fun v1 σ =>
  frz v1 σ fun f1 σ =>
  og (fldA 0 f1) fun v3 =>
  og (lod v3 σ) fun v4 =>
  jn (X := Tup [1, 4, 5]) (fun x1 σ =>
      apick x1.2.2.1 (
        aret (.val (.int .i64 1)) σ R) (
        og (ibin .eql x1.2.1 (.val (.int .i64 10))) fun v11 =>
        apick v11 (
          og (fldA 1 x1.1) fun v12 =>
          og (lod v12 σ) fun v13 =>
          og (ibin .add v13 (.val (.int .i64 1))) fun v14 =>
          aret v14 σ R) (
          aret (.val (.int .i64 0)) σ R))) fun k1 =>
    og (ibin .eql v4 (.val (.int .i64 6))) fun v6 =>
    apick v6 (
      k1 (f1, v4, v6, ()) σ) (
      og (ibin .eql v4 (.val (.int .i64 7))) fun v7 =>
      apick v7 (
        k1 (f1, v4, v7, ()) σ) (
        og (ibin .eql v4 (.val (.int .i64 8))) fun v8 =>
        apick v8 (
          k1 (f1, v4, v8, ()) σ) (
          og (ibin .eql v4 (.val (.int .i64 9))) fun v9 =>
          k1 (f1, v4, v9, ()) σ)))
def x67 : Sx := .box (.var 0) (.frz 1 (.var 0) (.og (.fldA 0 (.var 0)) (.og (.lod (.var 0)) (.jn 53 [1, 4, 5] (.apick (.var 2) (.ret (.lit (.val (.int .i64 1)))) (.og (.ibin .eql (.var 1) (.lit (.val (.int .i64 10)))) (.apick (.var 0) (.og (.fldA 1 (.var 1)) (.og (.lod (.var 0)) (.og (.ibin .add (.var 0) (.lit (.val (.int .i64 1)))) (.ret (.var 0))))) (.ret (.lit (.val (.int .i64 0))))))) (.og (.ibin .eql (.var 0) (.lit (.val (.int .i64 6)))) (.apick (.var 0) (.jump 0 [(.var 3), (.var 1), (.var 0)]) (.og (.ibin .eql (.var 1) (.lit (.val (.int .i64 7)))) (.apick (.var 0) (.jump 0 [(.var 4), (.var 2), (.var 0)]) (.og (.ibin .eql (.var 2) (.lit (.val (.int .i64 8)))) (.apick (.var 0) (.jump 0 [(.var 5), (.var 3), (.var 0)]) (.og (.ibin .eql (.var 3) (.lit (.val (.int .i64 9)))) (.jump 0 [(.var 6), (.var 4), (.var 0)]))))))))))))
set_option maxRecDepth 1000000 in
theorem x67_ok : okF TT Tryz.f67 1 x67 = true := by decide +kernel
set_option maxRecDepth 1000000 in
theorem s_impl_Op_takes_ok {a0 : AV} {σ : AH} {R : AEnd → AH → Prop} (h : s_impl_Op_takes a0 σ R) : acall TP fn_impl_Op_takes [a0] σ R :=
  acall_okF (ρ := [a0]) TT_ok Tryz.func67 rfl x67 x67_ok rfl h

/-- (loop.example/g00349/impl.Op).puts -/
def s_impl_Op_puts (a0 : AV) (σ : AH) (R : AEnd → AH → Prop) : Prop :=
  abox a0 σ fun v1 σ =>
  frz v1 σ fun f1 σ =>
  og (fldA 0 f1) fun v3 =>
  og (lod v3 σ) fun v4 =>
  jn (X := Tup [4, 5]) (fun x1 σ =>
      apick x1.2.1 (
        aret (.val (.int .i64 1)) σ R) (
        og (ibin .eql x1.1 (.val (.int .i64 15))) fun v14 =>
        apick v14 (
          aret (.val (.int .i64 2)) σ R) (
          aret (.val (.int .i64 0)) σ R))) fun k1 =>
    og (ibin .eql v4 (.val (.int .i64 1))) fun v6 =>
    apick v6 (
      k1 (v4, v6, ()) σ) (
      og (ibin .eql v4 (.val (.int .i64 2))) fun v7 =>
      apick v7 (
        k1 (v4, v7, ()) σ) (
        og (ibin .eql v4 (.val (.int .i64 3))) fun v8 =>
        apick v8 (
          k1 (v4, v8, ()) σ) (
          og (ibin .eql v4 (.val (.int .i64 4))) fun v9 =>
          apick v9 (
            k1 (v4, v9, ()) σ) (
            og (ibin .eql v4 (.val (.int .i64 8))) fun v10 =>
            apick v10 (
              k1 (v4, v10, ()) σ) (
              og (ibin .eql v4 (.val (.int .i64 9))) fun v11 =>
              apick v11 (
                k1 (v4, v11, ()) σ) (
                og (ibin .eql v4 (.val (.int .i64 10))) fun v12 =>
                k1 (v4, v12, ()) σ))))))
def x68 : Sx := .box (.var 0) (.frz 1 (.var 0) (.og (.fldA 0 (.var 0)) (.og (.lod (.var 0)) (.jn 53 [4, 5] (.apick (.var 1) (.ret (.lit (.val (.int .i64 1)))) (.og (.ibin .eql (.var 0) (.lit (.val (.int .i64 15)))) (.apick (.var 0) (.ret (.lit (.val (.int .i64 2)))) (.ret (.lit (.val (.int .i64 0))))))) (.og (.ibin .eql (.var 0) (.lit (.val (.int .i64 1)))) (.apick (.var 0) (.jump 0 [(.var 1), (.var 0)]) (.og (.ibin .eql (.var 1) (.lit (.val (.int .i64 2)))) (.apick (.var 0) (.jump 0 [(.var 2), (.var 0)]) (.og (.ibin .eql (.var 2) (.lit (.val (.int .i64 3)))) (.apick (.var 0) (.jump 0 [(.var 3), (.var 0)]) (.og (.ibin .eql (.var 3) (.lit (.val (.int .i64 4)))) (.apick (.var 0) (.jump 0 [(.var 4), (.var 0)]) (.og (.ibin .eql (.var 4) (.lit (.val (.int .i64 8)))) (.apick (.var 0) (.jump 0 [(.var 5), (.var 0)]) (.og (.ibin .eql (.var 5) (.lit (.val (.int .i64 9)))) (.apick (.var 0) (.jump 0 [(.var 6), (.var 0)]) (.og (.ibin .eql (.var 6) (.lit (.val (.int .i64 10)))) (.jump 0 [(.var 7), (.var 0)]))))))))))))))))))
set_option maxRecDepth 1000000 in
theorem x68_ok : okF TT Tryz.f68 1 x68 = true := by decide +kernel
set_option maxRecDepth 1000000 in
theorem s_impl_Op_puts_ok {a0 : AV} {σ : AH} {R : AEnd → AH → Prop} (h : s_impl_Op_puts a0 σ R) : acall TP fn_impl_Op_puts [a0] σ R :=
  acall_okF (ρ := [a0]) TT_ok Tryz.func68 rfl x68 x68_ok rfl h

/-- loop.example/g00349/laws.markText -/
def s_laws_markText (a0 : AV) (σ : AH) (R : AEnd → AH → Prop) : Prop :=
  og (ibin .leq a0 (.val (.int .i64 0))) fun v5 =>
  apick v5 (
    aret (.val (.string ⟨#[109, 48]⟩)) σ R) (
    lp (X := Tup [0, 3]) (fun R1 y1 σ =>
      og (ibin .gtr y1.1 (.val (.int .i64 0))) fun v7 =>
      apick v7 (
        og (ibin .rem y1.1 (.val (.int .i64 10))) fun v9 =>
        og (ibin .add (.val (.int .i64 48)) v9) fun v10 =>
        og (convI .u8 v10) fun v11 =>
        bsl 1 [(.val (.int .u8 0))] 1 [(0, v11)] σ fun v12 σ =>
        aconv TT ty_Lb ty_s v12 σ fun v13 σ =>
        og (sbin .add v13 y1.2.1) fun v15 =>
        og (ibin .quo y1.1 (.val (.int .i64 10))) fun v17 =>
        R1 (v17, v15, ()) σ) (
        og (sbin .add (.val (.string ⟨#[109]⟩)) y1.2.1) fun v19 =>
        aret v19 σ R)) (a0, (.val (.string ⟨#[]⟩)), ()) σ)
def x86 : Sx := .og (.ibin .leq (.var 0) (.lit (.val (.int .i64 0)))) (.apick (.var 0) (.ret (.lit (.val (.string ⟨#[109, 48]⟩)))) (.lp [0, 3] (.og (.ibin .gtr (.var 0) (.lit (.val (.int .i64 0)))) (.apick (.var 0) (.og (.ibin .rem (.var 1) (.lit (.val (.int .i64 10)))) (.og (.ibin .add (.lit (.val (.int .i64 48))) (.var 0)) (.og (.conv .u8 (.var 0)) (.bsl 1 [(.val (.int .u8 0))] 1 [(0, (.var 0))] (.cnv 163 9 (.var 0) (.og (.sbin .add (.var 0) (.var 7)) (.og (.ibin .quo (.var 7) (.lit (.val (.int .i64 10)))) (.jump 0 [(.var 0), (.var 1)])))))))) (.og (.sbin .add (.lit (.val (.string ⟨#[109]⟩))) (.var 2)) (.ret (.var 0))))) [(.var 1), (.lit (.val (.string ⟨#[]⟩)))]))
set_option maxRecDepth 1000000 in
theorem x86_ok : okF TT Tryz.f86 1 x86 = true := by decide +kernel
set_option maxRecDepth 1000000 in
theorem s_laws_markText_ok {a0 : AV} {σ : AH} {R : AEnd → AH → Prop} (h : s_laws_markText a0 σ R) : acall TP fn_laws_markText [a0] σ R :=
  acall_okF (ρ := [a0]) TT_ok Tryz.func86 rfl x86 x86_ok rfl h

/-- loop.example/g00349/laws.markDatumS -/
def s_laws_markDatumS (a0 a1 : AV) (σ : AH) (R : AEnd → AH → Prop) : Prop :=
  lp (X := Tup [0, 1, 5]) (fun R1 y1 σ =>
    og (lenS y1.1) fun v8 =>
    og (ibin .lss y1.2.2.1 v8) fun v9 =>
    apick v9 (
      og (idx 4 y1.1 y1.2.2.1 σ) fun v15 =>
      og (fldA 0 v15) fun v16 =>
      sto 1 v16 y1.2.1 σ fun σ =>
      og (ibin .add y1.2.1 (.val (.int .i64 1))) fun v18 =>
      og (idx 4 y1.1 y1.2.2.1 σ) fun v22 =>
      og (fldA 1 v22) fun v23 =>
      sto 1 v23 v18 σ fun σ =>
      og (ibin .add v18 (.val (.int .i64 1))) fun v25 =>
      og (idx 4 y1.1 y1.2.2.1 σ) fun v29 =>
      og (fldA 2 v29) fun v30 =>
      sto 1 v30 v25 σ fun σ =>
      og (ibin .add v25 (.val (.int .i64 1))) fun v32 =>
      acall TP fn_laws_markText [v32] σ (onr (fun v36 σ =>
      og (idx 4 y1.1 y1.2.2.1 σ) fun v37 =>
      og (fldA 3 v37) fun v38 =>
      sto 1 v38 v36 σ fun σ =>
      og (ibin .add v32 (.val (.int .i64 1))) fun v40 =>
      og (ibin .add y1.2.2.1 (.val (.int .i64 1))) fun v11 =>
      R1 (y1.1, v40, v11, ()) σ) (fun v σ => apan v σ R))) (
      aret y1.2.1 σ R)) (a0, a1, (.val (.int .i64 0)), ()) σ
def x87 : Sx := .lp [0, 1, 5] (.og (.lenS (.var 0)) (.og (.ibin .lss (.var 3) (.var 0)) (.apick (.var 0) (.og (.idx 4 (.var 2) (.var 4)) (.og (.fldA 0 (.var 0)) (.sto 1 (.var 0) (.var 5) (.og (.ibin .add (.var 5) (.lit (.val (.int .i64 1)))) (.og (.idx 4 (.var 5) (.var 7)) (.og (.fldA 1 (.var 0)) (.sto 1 (.var 0) (.var 2) (.og (.ibin .add (.var 2) (.lit (.val (.int .i64 1)))) (.og (.idx 4 (.var 8) (.var 10)) (.og (.fldA 2 (.var 0)) (.sto 1 (.var 0) (.var 2) (.og (.ibin .add (.var 2) (.lit (.val (.int .i64 1)))) (.call 86 [(.var 0)] (.og (.idx 4 (.var 12) (.var 14)) (.og (.fldA 3 (.var 0)) (.sto 1 (.var 0) (.var 2) (.og (.ibin .add (.var 3) (.lit (.val (.int .i64 1)))) (.og (.ibin .add (.var 17) (.lit (.val (.int .i64 1)))) (.jump 0 [(.var 16), (.var 1), (.var 0)]))))))))))))))))))) (.ret (.var 3))))) [(.var 1), (.var 0), (.lit (.val (.int .i64 0)))]
set_option maxRecDepth 1000000 in
theorem x87_ok : okF TT Tryz.f87 2 x87 = true := by decide +kernel
set_option maxRecDepth 1000000 in
theorem s_laws_markDatumS_ok {a0 a1 : AV} {σ : AH} {R : AEnd → AH → Prop} (h : s_laws_markDatumS a0 a1 σ R) : acall TP fn_laws_markDatumS [a0, a1] σ R :=
  acall_okF (ρ := [a1, a0]) TT_ok Tryz.func87 rfl x87 x87_ok rfl h

/-- loop.example/g00349/laws.szOp -/
def s_laws_szOp (a0 a1 : AV) (σ : AH) (R : AEnd → AH → Prop) : Prop :=
  abox a0 σ fun v2 σ =>
  frz v2 σ fun f2 σ =>
  og (fldA 5 f2) fun v6 =>
  og (lod v6 σ) fun v7 =>
  og (lenStr v7) fun v8 =>
  og (ibin .sub a1 v8) fun v9 =>
  og (ibin .lss v9 (.val (.int .i64 0))) fun v11 =>
  apick v11 (
    aret (.val (.int .i64 (-1))) σ R) (
    og (fldA 6 f2) fun v12 =>
    og (lod v12 σ) fun v13 =>
    acall TP fn_laws_szDatumS [v13, v9] σ (onr (fun v15 σ =>
    og (ibin .lss v15 (.val (.int .i64 0))) fun v17 =>
    apick v17 (
      aret (.val (.int .i64 (-1))) σ R) (
      aret v15 σ R)) (fun v σ => apan v σ R)))
def x88 : Sx := .box (.var 1) (.frz 2 (.var 0) (.og (.fldA 5 (.var 0)) (.og (.lod (.var 0)) (.og (.lenStr (.var 0)) (.og (.ibin .sub (.var 5) (.var 0)) (.og (.ibin .lss (.var 0) (.lit (.val (.int .i64 0)))) (.apick (.var 0) (.ret (.lit (.val (.int .i64 (-1))))) (.og (.fldA 6 (.var 5)) (.og (.lod (.var 0)) (.call 113 [(.var 0), (.var 3)] (.og (.ibin .lss (.var 0) (.lit (.val (.int .i64 0)))) (.apick (.var 0) (.ret (.lit (.val (.int .i64 (-1))))) (.ret (.var 1))))))))))))))
set_option maxRecDepth 1000000 in
theorem x88_ok : okF TT Tryz.f88 2 x88 = true := by decide +kernel
set_option maxRecDepth 1000000 in
theorem s_laws_szOp_ok {a0 a1 : AV} {σ : AH} {R : AEnd → AH → Prop} (h : s_laws_szOp a0 a1 σ R) : acall TP fn_laws_szOp [a0, a1] σ R :=
  acall_okF (ρ := [a1, a0]) TT_ok Tryz.func88 rfl x88 x88_ok rfl h

/-- loop.example/g00349/spec.l9Op -/
def s_spec_l9Op (a0 : AV) (σ : AH) (R : AEnd → AH → Prop) : Prop :=
  og (anil a0) fun v7 =>
  og (fldA 0 v7) fun v8 =>
  og (lod v8 σ) fun v9 =>
  acall TP fn_spec_l1In [v9, (.val (.int .i64 1)), (.val (.int .i64 16))] σ (onr (fun v10 σ =>
  og (aun .not v10) fun v11 =>
  apick v11 (
    aret (.val (.int .i64 1)) σ R) (
    acall TP fn_spec_l9All [a0] σ (onr (fun v13 σ =>
    og (anil a0) fun v15 =>
    og (fldA 0 v15) fun v16 =>
    og (lod v16 σ) fun v17 =>
    acall TP fn_spec_l9Nums [v17] σ (onr (fun v18 σ =>
    lp (X := Tup [0, 3, 4]) (fun R1 y1 σ =>
      og (ibin .lss y1.2.2.1 (.val (.int .i64 4))) fun v20 =>
      apick v20 (
        og (idx 1 y1.2.1 y1.2.2.1 σ) fun v25 =>
        og (lod v25 σ) fun v26 =>
        og (ibin .neq v26 (.val (.int .i64 0))) fun v27 =>
        apick v27 (
          aret (.val (.int .i64 1)) σ R) (
          og (ibin .add y1.2.2.1 (.val (.int .i64 1))) fun v22 =>
          R1 (y1.1, y1.2.1, v22, ()) σ)) (
        jn (X := Tup [0, 3, 56]) (fun x2 σ =>
            apick x2.2.2.1 (
              aret (.val (.int .i64 1)) σ R) (
              lp (X := Tup [0, 3, 5]) (fun R3 y3 σ =>
                og (ibin .lss y3.2.2.1 (.val (.int .i64 4))) fun v58 =>
                apick v58 (
                  og (idx 1 y3.2.1 y3.2.2.1 σ) fun v63 =>
                  og (lod v63 σ) fun v64 =>
                  acall TP fn_spec_l1In [v64, (.val (.int .i64 0)), (.val (.int .i64 999))] σ (onr (fun v65 σ =>
                  og (aun .not v65) fun v66 =>
                  apick v66 (
                    aret (.val (.int .i64 3)) σ R) (
                    og (ibin .add y3.2.2.1 (.val (.int .i64 1))) fun v60 =>
                    R3 (y3.1, y3.2.1, v60, ()) σ)) (fun v σ => apan v σ R))) (
                  og (anil y3.1) fun v68 =>
                  og (fldA 0 v68) fun v69 =>
                  og (lod v69 σ) fun v70 =>
                  og (ibin .eql v70 (.val (.int .i64 10))) fun v71 =>
                  og (gval v71 false false (some y3.1)) fun v73 =>
                  og (gval v71 false false (anil v73)) fun v74 =>
                  og (gval v71 false false (fldA 0 v74)) fun v75 =>
                  og (gval v71 false false (lod v75 σ)) fun v76 =>
                  og (gval v71 false false (ibin .eql v76 (.val (.int .i64 11)))) fun v77 =>
                  og (pickV v71 (.val (.bool true)) v77) fun v78 =>
                  og (gval v78 true false (some y3.1)) fun v80 =>
                  og (gval v78 true false (anil v80)) fun v81 =>
                  og (gval v78 true false (fldA 1 v81)) fun v82 =>
                  og (gval v78 true false (lod v82 σ)) fun v83 =>
                  og (gval v78 true false (ibin .gtr v83 (.val (.int .i64 3)))) fun v84 =>
                  og (pickV v78 v84 (.val (.bool false))) fun v85 =>
                  apick v85 (
                    aret (.val (.int .i64 3)) σ R) (
                    jn (X := Tup [0, 98]) (fun x4 σ =>
                        apick x4.2.1 (
                          aret (.val (.int .i64 5)) σ R) (
                          og (anil x4.1) fun v100 =>
                          og (fldA 0 v100) fun v101 =>
                          og (lod v101 σ) fun v102 =>
                          acall TP fn_spec_l9Const [v102] σ (onr (fun v103 σ =>
                          apick v103 (
                            og (anil x4.1) fun v105 =>
                            og (fldA 6 v105) fun v106 =>
                            og (lod v106 σ) fun v107 =>
                            acall TP fn_spec_l3Fault [v107] σ (onr (fun v108 σ =>
                            aret v108 σ R) (fun v σ => apan v σ R))) (
                            aret (.val (.int .i64 0)) σ R)) (fun v σ => apan v σ R)))) fun k4 =>
                      og (anil y3.1) fun v87 =>
                      og (fldA 0 v87) fun v88 =>
                      og (lod v88 σ) fun v89 =>
                      acall TP fn_spec_l9Named [v89] σ (onr (fun v90 σ =>
                      og (gval v90 true false (some y3.1)) fun v92 =>
                      og (gval v90 true false (anil v92)) fun v93 =>
                      og (gval v90 true false (fldA 5 v93)) fun v94 =>
                      og (gval v90 true false (lod v94 σ)) fun v95 =>
                      gpick v90 (
                        acall TP fn_spec_l2Sym [v95] σ (onr (fun v96 σ =>
                        og (aun .not v96) fun v97 =>
                        k4 (y3.1, v97, ()) σ) (fun v σ => apan v σ R))) (
                        k4 (y3.1, (.val (.bool false)), ()) σ) (False)) (fun v σ => apan v σ R))))) (x2.1, x2.2.1, (.val (.int .i64 0)), ()) σ)) fun k2 =>
          og (anil y1.1) fun v29 =>
          og (fldA 0 v29) fun v30 =>
          og (lod v30 σ) fun v31 =>
          acall TP fn_spec_l9Named [v31] σ (onr (fun v32 σ =>
          og (aun .not v32) fun v33 =>
          og (gval v33 true false (some y1.1)) fun v35 =>
          og (gval v33 true false (anil v35)) fun v36 =>
          og (gval v33 true false (fldA 5 v36)) fun v37 =>
          og (gval v33 true false (lod v37 σ)) fun v38 =>
          og (gval v33 true false (sbin .neq v38 (.val (.string ⟨#[]⟩)))) fun v39 =>
          og (pickV v33 v39 (.val (.bool false))) fun v40 =>
          og (gval v40 false false (some y1.1)) fun v42 =>
          og (gval v40 false false (anil v42)) fun v43 =>
          og (gval v40 false false (fldA 0 v43)) fun v44 =>
          og (gval v40 false false (lod v44 σ)) fun v45 =>
          gpick v40 (
            k2 (y1.1, y1.2.1, (.val (.bool true)), ()) σ) (
            acall TP fn_spec_l9Const [v45] σ (onr (fun v46 σ =>
            og (aun .not v46) fun v47 =>
            og (gval v47 true true (some y1.1)) fun v49 =>
            og (gval v47 true true (anil v49)) fun v50 =>
            og (gval v47 true true (fldA 6 v50)) fun v51 =>
            og (gval v47 true true (lod v51 σ)) fun v52 =>
            og (gval v47 true true (lenS v52)) fun v53 =>
            og (gval v47 true true (ibin .gtr v53 (.val (.int .i64 0)))) fun v54 =>
            og (pickV v47 v54 (.val (.bool false))) fun v55 =>
            k2 (y1.1, y1.2.1, v55, ()) σ) (fun v σ => apan v σ R))) (False)) (fun v σ => apan v σ R)))) (a0, v13, v18, ()) σ) (fun v σ => apan v σ R))) (fun v σ => apan v σ R)))) (fun v σ => apan v σ R))
def x89 : Sx := .og (.anil (.var 0)) (.og (.fldA 0 (.var 0)) (.og (.lod (.var 0)) (.call 60 [(.var 0), (.lit (.val (.int .i64 1))), (.lit (.val (.int .i64 16)))] (.og (.aun .not (.var 0)) (.apick (.var 0) (.ret (.lit (.val (.int .i64 1)))) (.call 126 [(.var 5)] (.og (.anil (.var 6)) (.og (.fldA 0 (.var 0)) (.og (.lod (.var 0)) (.call 127 [(.var 0)] (.lp [0, 3, 4] (.og (.ibin .lss (.var 2) (.lit (.val (.int .i64 4)))) (.apick (.var 0) (.og (.idx 1 (.var 2) (.var 3)) (.og (.lod (.var 0)) (.og (.ibin .neq (.var 0) (.lit (.val (.int .i64 0)))) (.apick (.var 0) (.ret (.lit (.val (.int .i64 1)))) (.og (.ibin .add (.var 6) (.lit (.val (.int .i64 1)))) (.jump 0 [(.var 5), (.var 6), (.var 0)])))))) (.jn 125 [0, 3, 56] (.apick (.var 2) (.ret (.lit (.val (.int .i64 1)))) (.lp [0, 3, 5] (.og (.ibin .lss (.var 2) (.lit (.val (.int .i64 4)))) (.apick (.var 0) (.og (.idx 1 (.var 2) (.var 3)) (.og (.lod (.var 0)) (.call 60 [(.var 0), (.lit (.val (.int .i64 0))), (.lit (.val (.int .i64 999)))] (.og (.aun .not (.var 0)) (.apick (.var 0) (.ret (.lit (.val (.int .i64 3)))) (.og (.ibin .add (.var 7) (.lit (.val (.int .i64 1)))) (.jump 0 [(.var 6), (.var 7), (.var 0)]))))))) (.og (.anil (.var 1)) (.og (.fldA 0 (.var 0)) (.og (.lod (.var 0)) (.og (.ibin .eql (.var 0) (.lit (.val (.int .i64 10)))) (.gog (.var 0) false false (.ret (.var 5)) (.gog (.var 1) false false (.anil (.var 0)) (.gog (.var 2) false false (.fldA 0 (.var 0)) (.gog (.var 3) false false (.lod (.var 0)) (.gog (.var 4) false false (.ibin .eql (.var 0) (.lit (.val (.int .i64 11)))) (.og (.pickV (.var 5) (.lit (.val (.bool true))) (.var 0)) (.gog (.var 0) true false (.ret (.var 11)) (.gog (.var 1) true false (.anil (.var 0)) (.gog (.var 2) true false (.fldA 1 (.var 0)) (.gog (.var 3) true false (.lod (.var 0)) (.gog (.var 4) true false (.ibin .gtr (.var 0) (.lit (.val (.int .i64 3)))) (.og (.pickV (.var 5) (.var 0) (.lit (.val (.bool false)))) (.apick (.var 0) (.ret (.lit (.val (.int .i64 3)))) (.jn 1021 [0, 98] (.apick (.var 1) (.ret (.lit (.val (.int .i64 5)))) (.og (.anil (.var 0)) (.og (.fldA 0 (.var 0)) (.og (.lod (.var 0)) (.call 129 [(.var 0)] (.apick (.var 0) (.og (.anil (.var 4)) (.og (.fldA 6 (.var 0)) (.og (.lod (.var 0)) (.call 131 [(.var 0)] (.ret (.var 0)))))) (.ret (.lit (.val (.int .i64 0)))))))))) (.og (.anil (.var 17)) (.og (.fldA 0 (.var 0)) (.og (.lod (.var 0)) (.call 128 [(.var 0)] (.gog (.var 0) true false (.ret (.var 21)) (.gog (.var 1) true false (.anil (.var 0)) (.gog (.var 2) true false (.fldA 5 (.var 0)) (.gog (.var 3) true false (.lod (.var 0)) (.gpick (.var 4) (.call 130 [(.var 0)] (.og (.aun .not (.var 0)) (.jump 0 [(.var 27), (.var 0)]))) (.jump 0 [(.var 25), (.lit (.val (.bool false)))]) (.no)))))))))))))))))))))))))))))) [(.var 0), (.var 1), (.lit (.val (.int .i64 0)))])) (.og (.anil (.var 1)) (.og (.fldA 0 (.var 0)) (.og (.lod (.var 0)) (.call 128 [(.var 0)] (.og (.aun .not (.var 0)) (.gog (.var 0) true false (.ret (.var 6)) (.gog (.var 1) true false (.anil (.var 0)) (.gog (.var 2) true false (.fldA 5 (.var 0)) (.gog (.var 3) true false (.lod (.var 0)) (.gog (.var 4) true false (.sbin .neq (.var 0) (.lit (.val (.string ⟨#[]⟩)))) (.og (.pickV (.var 5) (.var 0) (.lit (.val (.bool false)))) (.gog (.var 0) false false (.ret (.var 12)) (.gog (.var 1) false false (.anil (.var 0)) (.gog (.var 2) false false (.fldA 0 (.var 0)) (.gog (.var 3) false false (.lod (.var 0)) (.gpick (.var 4) (.jump 0 [(.var 16), (.var 17), (.lit (.val (.bool true)))]) (.call 129 [(.var 0)] (.og (.aun .not (.var 0)) (.gog (.var 0) true true (.ret (.var 18)) (.gog (.var 1) true true (.anil (.var 0)) (.gog (.var 2) true true (.fldA 6 (.var 0)) (.gog (.var 3) true true (.lod (.var 0)) (.gog (.var 4) true true (.lenS (.var 0)) (.gog (.var 5) true true (.ibin .gtr (.var 0) (.lit (.val (.int .i64 0)))) (.og (.pickV (.var 6) (.var 0) (.lit (.val (.bool false)))) (.jump 0 [(.var 25), (.var 26), (.var 0)])))))))))) (.no)))))))))))))))))))) [(.var 10), (.var 4), (.var 0)])))))))))))
set_option maxRecDepth 1000000 in
theorem x89_ok : okF TT Tryz.f89 1 x89 = true := by decide +kernel
set_option maxRecDepth 1000000 in
theorem s_spec_l9Op_ok {a0 : AV} {σ : AH} {R : AEnd → AH → Prop} (h : s_spec_l9Op a0 σ R) : acall TP fn_spec_l9Op [a0] σ R :=
  acall_okF (ρ := [a0]) TT_ok Tryz.func89 rfl x89 x89_ok rfl h

/-- loop.example/g00349/spec.l9Target -/
def s_spec_l9Target (a0 : AV) (σ : AH) (R : AEnd → AH → Prop) : Prop :=
  og (anil a0) fun v4 =>
  og (fldA 0 v4) fun v5 =>
  og (lod v5 σ) fun v6 =>
  jn (X := Tup [0, 6, 7]) (fun x1 σ =>
      apick x1.2.2.1 (
        og (anil x1.1) fun v11 =>
        og (fldA 1 v11) fun v12 =>
        og (lod v12 σ) fun v13 =>
        aret v13 σ R) (
        og (ibin .eql x1.2.1 (.val (.int .i64 16))) fun v15 =>
        apick v15 (
          og (anil x1.1) fun v17 =>
          og (fldA 3 v17) fun v18 =>
          og (lod v18 σ) fun v19 =>
          aret v19 σ R) (
          aret (.val (.int .i64 (-1))) σ R))) fun k1 =>
    og (ibin .eql v6 (.val (.int .i64 5))) fun v8 =>
    apick v8 (
      k1 (a0, v6, v8, ()) σ) (
      og (ibin .eql v6 (.val (.int .i64 6))) fun v9 =>
      k1 (a0, v6, v9, ()) σ)
def x90 : Sx := .og (.anil (.var 0)) (.og (.fldA 0 (.var 0)) (.og (.lod (.var 0)) (.jn 53 [0, 6, 7] (.apick (.var 2) (.og (.anil (.var 0)) (.og (.fldA 1 (.var 0)) (.og (.lod (.var 0)) (.ret (.var 0))))) (.og (.ibin .eql (.var 1) (.lit (.val (.int .i64 16)))) (.apick (.var 0) (.og (.anil (.var 1)) (.og (.fldA 3 (.var 0)) (.og (.lod (.var 0)) (.ret (.var 0))))) (.ret (.lit (.val (.int .i64 (-1)))))))) (.og (.ibin .eql (.var 0) (.lit (.val (.int .i64 5)))) (.apick (.var 0) (.jump 0 [(.var 4), (.var 1), (.var 0)]) (.og (.ibin .eql (.var 1) (.lit (.val (.int .i64 6)))) (.jump 0 [(.var 5), (.var 2), (.var 0)])))))))
set_option maxRecDepth 1000000 in
theorem x90_ok : okF TT Tryz.f90 1 x90 = true := by decide +kernel
set_option maxRecDepth 1000000 in
theorem s_spec_l9Target_ok {a0 : AV} {σ : AH} {R : AEnd → AH → Prop} (h : s_spec_l9Target a0 σ R) : acall TP fn_spec_l9Target [a0] σ R :=
  acall_okF (ρ := [a0]) TT_ok Tryz.func90 rfl x90 x90_ok rfl h

/-- loop.example/g00349/laws.toOp -/
def s_laws_toOp (a0 : AV) (σ : AH) (R : AEnd → AH → Prop) : Prop :=
  abox a0 σ fun v1 σ =>
  new [(.val (.int .i64 0)), (.val (.int .i64 0)), (.val (.int .i64 0)), (.val (.int .i64 0)), (.val (.int .i64 0)), (.val (.string ⟨#[]⟩)), (.val (.slice none 0 0))] σ fun v2 σ =>
  frz v1 σ fun f1 σ =>
  new [(.val (.int .i64 0)), (.val (.int .i64 0)), (.val (.int .i64 0)), (.val (.int .i64 0)), (.val (.int .i64 0)), (.val (.string ⟨#[]⟩)), (.val (.slice none 0 0))] σ fun v3 σ =>
  og (fldA 0 f1) fun v4 =>
  og (lod v4 σ) fun v5 =>
  og (fldA 0 v3) fun v6 =>
  sto 1 v6 v5 σ fun σ =>
  og (fldA 1 f1) fun v7 =>
  og (lod v7 σ) fun v8 =>
  og (fldA 1 v3) fun v9 =>
  sto 1 v9 v8 σ fun σ =>
  og (fldA 2 f1) fun v10 =>
  og (lod v10 σ) fun v11 =>
  og (fldA 2 v3) fun v12 =>
  sto 1 v12 v11 σ fun σ =>
  og (fldA 3 f1) fun v13 =>
  og (lod v13 σ) fun v14 =>
  og (fldA 3 v3) fun v15 =>
  sto 1 v15 v14 σ fun σ =>
  og (fldA 4 f1) fun v16 =>
  og (lod v16 σ) fun v17 =>
  og (fldA 4 v3) fun v18 =>
  sto 1 v18 v17 σ fun σ =>
  og (fldA 5 f1) fun v19 =>
  og (lod v19 σ) fun v20 =>
  og (fldA 5 v3) fun v21 =>
  sto 1 v21 v20 σ fun σ =>
  og (fldA 6 f1) fun v22 =>
  og (lod v22 σ) fun v23 =>
  acall TP fn_laws_toDatumS [v23] σ (onr (fun v24 σ =>
  og (fldA 6 v3) fun v25 =>
  sto 1 v25 v24 σ fun σ =>
  frz v3 σ fun f3 σ =>
  og (lodA 7 f3 σ) fun v26 =>
  sto 7 v2 v26 σ fun σ =>
  og (lodA 7 v2 σ) fun r2 =>
  aret r2 σ R) (fun v σ => apan v σ R))
def x91 : Sx := .box (.var 0) (.new [(.val (.int .i64 0)), (.val (.int .i64 0)), (.val (.int .i64 0)), (.val (.int .i64 0)), (.val (.int .i64 0)), (.val (.string ⟨#[]⟩)), (.val (.slice none 0 0))] (.frz 1 (.var 1) (.new [(.val (.int .i64 0)), (.val (.int .i64 0)), (.val (.int .i64 0)), (.val (.int .i64 0)), (.val (.int .i64 0)), (.val (.string ⟨#[]⟩)), (.val (.slice none 0 0))] (.og (.fldA 0 (.var 1)) (.og (.lod (.var 0)) (.og (.fldA 0 (.var 2)) (.sto 1 (.var 0) (.var 1) (.og (.fldA 1 (.var 4)) (.og (.lod (.var 0)) (.og (.fldA 1 (.var 5)) (.sto 1 (.var 0) (.var 1) (.og (.fldA 2 (.var 7)) (.og (.lod (.var 0)) (.og (.fldA 2 (.var 8)) (.sto 1 (.var 0) (.var 1) (.og (.fldA 3 (.var 10)) (.og (.lod (.var 0)) (.og (.fldA 3 (.var 11)) (.sto 1 (.var 0) (.var 1) (.og (.fldA 4 (.var 13)) (.og (.lod (.var 0)) (.og (.fldA 4 (.var 14)) (.sto 1 (.var 0) (.var 1) (.og (.fldA 5 (.var 16)) (.og (.lod (.var 0)) (.og (.fldA 5 (.var 17)) (.sto 1 (.var 0) (.var 1) (.og (.fldA 6 (.var 19)) (.og (.lod (.var 0)) (.call 118 [(.var 0)] (.og (.fldA 6 (.var 21)) (.sto 1 (.var 0) (.var 1) (.frz 4 (.var 22) (.og (.lodA 7 (.var 0)) (.sto 7 (.var 26) (.var 0) (.og (.lodA 7 (.var 26)) (.ret (.var 0))))))))))))))))))))))))))))))))))))))
set_option maxRecDepth 1000000 in
theorem x91_ok : okF TT Tryz.f91 1 x91 = true := by decide +kernel
set_option maxRecDepth 1000000 in
theorem s_laws_toOp_ok {a0 : AV} {σ : AH} {R : AEnd → AH → Prop} (h : s_laws_toOp a0 σ R) : acall TP fn_laws_toOp [a0] σ R :=
  acall_okF (ρ := [a0]) TT_ok Tryz.func91 rfl x91 x91_ok rfl h

/-- loop.example/g00349/impl.OpFault -/
def s_impl_OpFault (a0 : AV) (σ : AH) (R : AEnd → AH → Prop) : Prop :=
  abox a0 σ fun v1 σ =>
  frz v1 σ fun f1 σ =>
  og (fldA 1 f1) fun v5 =>
  og (lod v5 σ) fun v6 =>
  og (fldA 2 f1) fun v7 =>
  og (lod v7 σ) fun v8 =>
  og (fldA 3 f1) fun v9 =>
  og (lod v9 σ) fun v10 =>
  og (fldA 4 f1) fun v11 =>
  og (lod v11 σ) fun v12 =>
  bsl 1 [(.val (.int .i64 0))] 4 [(0, v6), (1, v8), (2, v10), (3, v12)] σ fun v13 σ =>
  frz v13 σ fun f13 σ =>
  jn (X := Tup [1, 3, 14]) (fun x1 σ =>
      apick x1.2.2.1 (
        aret (.val (.int .i64 1)) σ R) (
        acall TP fn_slices_ContainsFunc [x1.2.1, (.clo (.func fn_impl_OpFault_2) [] [])] σ (onr (fun v53 σ =>
        og (gval v53 false false (fldA 0 x1.1)) fun v55 =>
        og (gval v53 false false (lod v55 σ)) fun v56 =>
        og (gval v53 false false (ibin .eql v56 (.val (.int .i64 10)))) fun v57 =>
        og (gval v53 false false (some v57)) fun v58 =>
        og (gval v58 false true (fldA 0 x1.1)) fun v59 =>
        og (gval v58 false true (lod v59 σ)) fun v60 =>
        og (gval v58 false true (ibin .eql v60 (.val (.int .i64 11)))) fun v61 =>
        og (gval v53 false false (pickV v58 (.val (.bool true)) v61)) fun v62 =>
        og (gval v53 false false (some v62)) fun v63 =>
        og (gval v63 true true (fldA 1 x1.1)) fun v64 =>
        og (gval v63 true true (lod v64 σ)) fun v65 =>
        og (gval v63 true true (ibin .gtr v65 (.val (.int .i64 3)))) fun v66 =>
        og (gval v53 false false (pickV v63 v66 (.val (.bool false)))) fun v67 =>
        og (pickV v53 (.val (.bool true)) v67) fun v68 =>
        apick v68 (
          aret (.val (.int .i64 3)) σ R) (
          og (fldA 0 x1.1) fun v70 =>
          og (lod v70 σ) fun v71 =>
          acall TP fn_impl_opNamed [v71] σ (onr (fun v72 σ =>
          apick v72 (
            og (fldA 5 x1.1) fun v73 =>
            og (lod v73 σ) fun v74 =>
            acall TP fn_impl_SymFault [v74] σ (onr (fun v75 σ =>
            aret v75 σ R) (fun v σ => apan v σ R))) (
            og (fldA 0 x1.1) fun v77 =>
            og (lod v77 σ) fun v78 =>
            acall TP fn_impl_opData [v78] σ (onr (fun v79 σ =>
            apick v79 (
              og (fldA 6 x1.1) fun v80 =>
              og (lod v80 σ) fun v81 =>
              acall TP fn_impl_DataFault [v81] σ (onr (fun v82 σ =>
              aret v82 σ R) (fun v σ => apan v σ R))) (
              aret (.val (.int .i64 0)) σ R)) (fun v σ => apan v σ R)))) (fun v σ => apan v σ R)))) (fun v σ => apan v σ R)))) fun k1 =>
    og (fldA 0 f1) fun v15 =>
    og (lod v15 σ) fun v16 =>
    acall TP fn_impl_in [v16, (.val (.int .i64 1)), (.val (.int .i64 16))] σ (onr (fun v17 σ =>
    og (aun .not v17) fun v18 =>
    og (gval v18 false false (some f13)) fun v20 =>
    og (gval v18 false false (fldA 0 f1)) fun v21 =>
    og (gval v18 false false (lod v21 σ)) fun v22 =>
    gpick v18 (
      k1 (f1, f13, (.val (.bool true)), ()) σ) (
      acall TP fn_impl_opNums [v22] σ (onr (fun v23 σ =>
      og (slc 1 v20 (some v23) none none σ) fun v24 =>
      acall TP fn_slices_ContainsFunc [v24, (.clo (.func fn_impl_OpFault_1) [] [])] σ (onr (fun v26 σ =>
      og (gval v26 false false (fldA 5 f1)) fun v29 =>
      og (gval v26 false false (lod v29 σ)) fun v30 =>
      og (gval v26 false false (sbin .neq v30 (.val (.string ⟨#[]⟩)))) fun v31 =>
      og (gval v26 false false (some v31)) fun v32 =>
      og (gval v32 true true (fldA 0 f1)) fun v33 =>
      og (gval v32 true true (lod v33 σ)) fun v34 =>
      gpick v32 (
        acall TP fn_impl_opNamed [v34] σ (onr (fun v35 σ =>
        og (aun .not v35) fun v36 =>
        og (gval v26 false false (some v36)) fun v37 =>
        og (pickV v26 (.val (.bool true)) v37) fun v38 =>
        og (gval v38 false false (fldA 6 f1)) fun v40 =>
        og (gval v38 false false (lod v40 σ)) fun v41 =>
        og (gval v38 false false (lenS v41)) fun v42 =>
        og (gval v38 false false (ibin .gtr v42 (.val (.int .i64 0)))) fun v43 =>
        og (gval v38 false false (some v43)) fun v44 =>
        og (gval v44 true true (fldA 0 f1)) fun v45 =>
        og (gval v44 true true (lod v45 σ)) fun v46 =>
        gpick v44 (
          acall TP fn_impl_opData [v46] σ (onr (fun v47 σ =>
          og (aun .not v47) fun v48 =>
          og (gval v38 false false (some v48)) fun v49 =>
          og (pickV v38 (.val (.bool true)) v49) fun v50 =>
          k1 (f1, f13, v50, ()) σ) (fun v σ => apan v σ R))) (
          og (gval v38 false false (some (.val (.bool false)))) fun v49 =>
          og (pickV v38 (.val (.bool true)) v49) fun v50 =>
          k1 (f1, f13, v50, ()) σ) (
          og (gval v38 false false (pickV (.tup []) (.tup []) (.val (.bool false)))) fun v49 =>
          og (pickV v38 (.val (.bool true)) v49) fun v50 =>
          k1 (f1, f13, v50, ()) σ)) (fun v σ => apan v σ R))) (
        og (gval v26 false false (some (.val (.bool false)))) fun v37 =>
        og (pickV v26 (.val (.bool true)) v37) fun v38 =>
        og (gval v38 false false (fldA 6 f1)) fun v40 =>
        og (gval v38 false false (lod v40 σ)) fun v41 =>
        og (gval v38 false false (lenS v41)) fun v42 =>
        og (gval v38 false false (ibin .gtr v42 (.val (.int .i64 0)))) fun v43 =>
        og (gval v38 false false (some v43)) fun v44 =>
        og (gval v44 true true (fldA 0 f1)) fun v45 =>
        og (gval v44 true true (lod v45 σ)) fun v46 =>
        gpick v44 (
          acall TP fn_impl_opData [v46] σ (onr (fun v47 σ =>
          og (aun .not v47) fun v48 =>
          og (gval v38 false false (some v48)) fun v49 =>
          og (pickV v38 (.val (.bool true)) v49) fun v50 =>
          k1 (f1, f13, v50, ()) σ) (fun v σ => apan v σ R))) (
          og (gval v38 false false (some (.val (.bool false)))) fun v49 =>
          og (pickV v38 (.val (.bool true)) v49) fun v50 =>
          k1 (f1, f13, v50, ()) σ) (
          og (gval v38 false false (pickV (.tup []) (.tup []) (.val (.bool false)))) fun v49 =>
          og (pickV v38 (.val (.bool true)) v49) fun v50 =>
          k1 (f1, f13, v50, ()) σ)) (
        og (gval v26 false false (pickV (.tup []) (.tup []) (.val (.bool false)))) fun v37 =>
        og (pickV v26 (.val (.bool true)) v37) fun v38 =>
        og (gval v38 false false (fldA 6 f1)) fun v40 =>
        og (gval v38 false false (lod v40 σ)) fun v41 =>
        og (gval v38 false false (lenS v41)) fun v42 =>
        og (gval v38 false false (ibin .gtr v42 (.val (.int .i64 0)))) fun v43 =>
        og (gval v38 false false (some v43)) fun v44 =>
        og (gval v44 true true (fldA 0 f1)) fun v45 =>
        og (gval v44 true true (lod v45 σ)) fun v46 =>
        gpick v44 (
          acall TP fn_impl_opData [v46] σ (onr (fun v47 σ =>
          og (aun .not v47) fun v48 =>
          og (gval v38 false false (some v48)) fun v49 =>
          og (pickV v38 (.val (.bool true)) v49) fun v50 =>
          k1 (f1, f13, v50, ()) σ) (fun v σ => apan v σ R))) (
          og (gval v38 false false (some (.val (.bool false)))) fun v49 =>
          og (pickV v38 (.val (.bool true)) v49) fun v50 =>
          k1 (f1, f13, v50, ()) σ) (
          og (gval v38 false false (pickV (.tup []) (.tup []) (.val (.bool false)))) fun v49 =>
          og (pickV v38 (.val (.bool true)) v49) fun v50 =>
          k1 (f1, f13, v50, ()) σ))) (fun v σ => apan v σ R))) (fun v σ => apan v σ R))) (False)) (fun v σ => apan v σ R))
def x92 : Sx := .box (.var 0) (.frz 1 (.var 0) (.og (.fldA 1 (.var 0)) (.og (.lod (.var 0)) (.og (.fldA 2 (.var 2)) (.og (.lod (.var 0)) (.og (.fldA 3 (.var 4)) (.og (.lod (.var 0)) (.og (.fldA 4 (.var 6)) (.og (.lod (.var 0)) (.bsl 1 [(.val (.int .i64 0))] 4 [(0, (.var 6)), (1, (.var 4)), (2, (.var 2)), (3, (.var 0))] (.frz 11 (.var 0) (.jn 121 [1, 3, 14] (.apick (.var 2) (.ret (.lit (.val (.int .i64 1)))) (.call 133 [(.var 1), (.lit (.clo (.func fn_impl_OpFault_2) [] []))] (.gog (.var 0) false false (.fldA 0 (.var 1)) (.gog (.var 1) false false (.lod (.var 0)) (.gog (.var 2) false false (.ibin .eql (.var 0) (.lit (.val (.int .i64 10)))) (.gog (.var 3) false false (.ret (.var 0)) (.gog (.var 0) false true (.fldA 0 (.var 5)) (.gog (.var 1) false true (.lod (.var 0)) (.gog (.var 2) false true (.ibin .eql (.var 0) (.lit (.val (.int .i64 11)))) (.gog (.var 7) false false (.pickV (.var 3) (.lit (.val (.bool true))) (.var 0)) (.gog (.var 8) false false (.ret (.var 0)) (.gog (.var 0) true true (.fldA 1 (.var 10)) (.gog (.var 1) true true (.lod (.var 0)) (.gog (.var 2) true true (.ibin .gtr (.var 0) (.lit (.val (.int .i64 3)))) (.gog (.var 12) false false (.pickV (.var 3) (.var 0) (.lit (.val (.bool false)))) (.og (.pickV (.var 13) (.lit (.val (.bool true))) (.var 0)) (.apick (.var 0) (.ret (.lit (.val (.int .i64 3)))) (.og (.fldA 0 (.var 15)) (.og (.lod (.var 0)) (.call 135 [(.var 0)] (.apick (.var 0) (.og (.fldA 5 (.var 18)) (.og (.lod (.var 0)) (.call 138 [(.var 0)] (.ret (.var 0))))) (.og (.fldA 0 (.var 18)) (.og (.lod (.var 0)) (.call 136 [(.var 0)] (.apick (.var 0) (.og (.fldA 6 (.var 21)) (.og (.lod (.var 0)) (.call 139 [(.var 0)] (.ret (.var 0))))) (.ret (.lit (.val (.int .i64 0))))))))))))))))))))))))))))) (.og (.fldA 0 (.var 10)) (.og (.lod (.var 0)) (.call 62 [(.var 0), (.lit (.val (.int .i64 1))), (.lit (.val (.int .i64 16)))] (.og (.aun .not (.var 0)) (.gog (.var 0) false false (.ret (.var 4)) (.gog (.var 1) false false (.fldA 0 (.var 15)) (.gog (.var 2) false false (.lod (.var 0)) (.gpick (.var 3) (.jump 0 [(.var 17), (.var 7), (.lit (.val (.bool true)))]) (.call 134 [(.var 0)] (.og (.slc 1 (.var 3) (some (.var 0)) none none) (.call 133 [(.var 0), (.lit (.clo (.func fn_impl_OpFault_1) [] []))] (.gog (.var 0) false false (.fldA 5 (.var 20)) (.gog (.var 1) false false (.lod (.var 0)) (.gog (.var 2) false false (.sbin .neq (.var 0) (.lit (.val (.string ⟨#[]⟩)))) (.gog (.var 3) false false (.ret (.var 0)) (.gog (.var 0) true true (.fldA 0 (.var 24)) (.gog (.var 1) true true (.lod (.var 0)) (.gpick (.var 2) (.call 135 [(.var 0)] (.og (.aun .not (.var 0)) (.gog (.var 8) false false (.ret (.var 0)) (.og (.pickV (.var 9) (.lit (.val (.bool true))) (.var 0)) (.gog (.var 0) false false (.fldA 6 (.var 30)) (.gog (.var 1) false false (.lod (.var 0)) (.gog (.var 2) false false (.lenS (.var 0)) (.gog (.var 3) false false (.ibin .gtr (.var 0) (.lit (.val (.int .i64 0)))) (.gog (.var 4) false false (.ret (.var 0)) (.gog (.var 0) true true (.fldA 0 (.var 35)) (.gog (.var 1) true true (.lod (.var 0)) (.gpick (.var 2) (.call 136 [(.var 0)] (.og (.aun .not (.var 0)) (.gog (.var 9) false false (.ret (.var 0)) (.og (.pickV (.var 10) (.lit (.val (.bool true))) (.var 0)) (.jump 0 [(.var 41), (.var 31), (.var 0)]))))) (.gog (.var 7) false false (.ret (.lit (.val (.bool false)))) (.og (.pickV (.var 8) (.lit (.val (.bool true))) (.var 0)) (.jump 0 [(.var 39), (.var 29), (.var 0)]))) (.gog (.var 7) false false (.pickV (.lit (.tup [])) (.lit (.tup [])) (.lit (.val (.bool false)))) (.og (.pickV (.var 8) (.lit (.val (.bool true))) (.var 0)) (.jump 0 [(.var 39), (.var 29), (.var 0)]))))))))))))))) (.gog (.var 6) false false (.ret (.lit (.val (.bool false)))) (.og (.pickV (.var 7) (.lit (.val (.bool true))) (.var 0)) (.gog (.var 0) false false (.fldA 6 (.var 28)) (.gog (.var 1) false false (.lod (.var 0)) (.gog (.var 2) false false (.lenS (.var 0)) (.gog (.var 3) false false (.ibin .gtr (.var 0) (.lit (.val (.int .i64 0)))) (.gog (.var 4) false false (.ret (.var 0)) (.gog (.var 0) true true (.fldA 0 (.var 33)) (.gog (.var 1) true true (.lod (.var 0)) (.gpick (.var 2) (.call 136 [(.var 0)] (.og (.aun .not (.var 0)) (.gog (.var 9) false false (.ret (.var 0)) (.og (.pickV (.var 10) (.lit (.val (.bool true))) (.var 0)) (.jump 0 [(.var 39), (.var 29), (.var 0)]))))) (.gog (.var 7) false false (.ret (.lit (.val (.bool false)))) (.og (.pickV (.var 8) (.lit (.val (.bool true))) (.var 0)) (.jump 0 [(.var 37), (.var 27), (.var 0)]))) (.gog (.var 7) false false (.pickV (.lit (.tup [])) (.lit (.tup [])) (.lit (.val (.bool false)))) (.og (.pickV (.var 8) (.lit (.val (.bool true))) (.var 0)) (.jump 0 [(.var 37), (.var 27), (.var 0)]))))))))))))) (.gog (.var 6) false false (.pickV (.lit (.tup [])) (.lit (.tup [])) (.lit (.val (.bool false)))) (.og (.pickV (.var 7) (.lit (.val (.bool true))) (.var 0)) (.gog (.var 0) false false (.fldA 6 (.var 28)) (.gog (.var 1) false false (.lod (.var 0)) (.gog (.var 2) false false (.lenS (.var 0)) (.gog (.var 3) false false (.ibin .gtr (.var 0) (.lit (.val (.int .i64 0)))) (.gog (.var 4) false false (.ret (.var 0)) (.gog (.var 0) true true (.fldA 0 (.var 33)) (.gog (.var 1) true true (.lod (.var 0)) (.gpick (.var 2) (.call 136 [(.var 0)] (.og (.aun .not (.var 0)) (.gog (.var 9) false false (.ret (.var 0)) (.og (.pickV (.var 10) (.lit (.val (.bool true))) (.var 0)) (.jump 0 [(.var 39), (.var 29), (.var 0)]))))) (.gog (.var 7) false false (.ret (.lit (.val (.bool false)))) (.og (.pickV (.var 8) (.lit (.val (.bool true))) (.var 0)) (.jump 0 [(.var 37), (.var 27), (.var 0)]))) (.gog (.var 7) false false (.pickV (.lit (.tup [])) (.lit (.tup [])) (.lit (.val (.bool false)))) (.og (.pickV (.var 8) (.lit (.val (.bool true))) (.var 0)) (.jump 0 [(.var 37), (.var 27), (.var 0)]))))))))))))))))))))))) (.no)))))))))))))))))))))
set_option maxRecDepth 1000000 in
theorem x92_ok : okF TT Tryz.f92 1 x92 = true := by decide +kernel
set_option maxRecDepth 1000000 in
theorem s_impl_OpFault_ok {a0 : AV} {σ : AH} {R : AEnd → AH → Prop} (h : s_impl_OpFault a0 σ R) : acall TP fn_impl_OpFault [a0] σ R :=
  acall_okF (ρ := [a0]) TT_ok Tryz.func92 rfl x92 x92_ok rfl h

/-- (*loop.example/g00349/impl.Op).target -/
def s_impl_Op_target (a0 : AV) (σ : AH) (R : AEnd → AH → Prop) : Prop :=
  og (anil a0) fun v4 =>
  og (fldA 0 v4) fun v5 =>
  og (lod v5 σ) fun v6 =>
  jn (X := Tup [0, 6, 7]) (fun x1 σ =>
      apick x1.2.2.1 (
        og (anil x1.1) fun v11 =>
        og (fldA 1 v11) fun v12 =>
        aret v12 σ R) (
        og (ibin .eql x1.2.1 (.val (.int .i64 16))) fun v14 =>
        apick v14 (
          og (anil x1.1) fun v16 =>
          og (fldA 3 v16) fun v17 =>
          aret v17 σ R) (
          aret (.val (.pointer none)) σ R))) fun k1 =>
    og (ibin .eql v6 (.val (.int .i64 5))) fun v8 =>
    apick v8 (
      k1 (a0, v6, v8, ()) σ) (
      og (ibin .eql v6 (.val (.int .i64 6))) fun v9 =>
      k1 (a0, v6, v9, ()) σ)
def x93 : Sx := .og (.anil (.var 0)) (.og (.fldA 0 (.var 0)) (.og (.lod (.var 0)) (.jn 53 [0, 6, 7] (.apick (.var 2) (.og (.anil (.var 0)) (.og (.fldA 1 (.var 0)) (.ret (.var 0)))) (.og (.ibin .eql (.var 1) (.lit (.val (.int .i64 16)))) (.apick (.var 0) (.og (.anil (.var 1)) (.og (.fldA 3 (.var 0)) (.ret (.var 0)))) (.ret (.lit (.val (.pointer none))))))) (.og (.ibin .eql (.var 0) (.lit (.val (.int .i64 5)))) (.apick (.var 0) (.jump 0 [(.var 4), (.var 1), (.var 0)]) (.og (.ibin .eql (.var 1) (.lit (.val (.int .i64 6)))) (.jump 0 [(.var 5), (.var 2), (.var 0)])))))))
set_option maxRecDepth 1000000 in
theorem x93_ok : okF TT Tryz.f93 1 x93 = true := by decide +kernel
set_option maxRecDepth 1000000 in
theorem s_impl_Op_target_ok {a0 : AV} {σ : AH} {R : AEnd → AH → Prop} (h : s_impl_Op_target a0 σ R) : acall TP fn_impl_Op_target [a0] σ R :=
  acall_okF (ρ := [a0]) TT_ok Tryz.func93 rfl x93 x93_ok rfl h

/-- loop.example/g00349/laws.eqOp -/
def s_laws_eqOp (a0 a1 : AV) (σ : AH) (R : AEnd → AH → Prop) : Prop :=
  abox a0 σ fun v2 σ =>
  abox a1 σ fun v3 σ =>
  frz v2 σ fun f2 σ =>
  frz v3 σ fun f3 σ =>
  og (fldA 0 f2) fun v5 =>
  og (lod v5 σ) fun v6 =>
  og (fldA 0 f3) fun v7 =>
  og (lod v7 σ) fun v8 =>
  og (ibin .neq v6 v8) fun v9 =>
  apick v9 (
    aret (.val (.bool false)) σ R) (
    og (fldA 1 f2) fun v10 =>
    og (lod v10 σ) fun v11 =>
    og (fldA 1 f3) fun v12 =>
    og (lod v12 σ) fun v13 =>
    og (ibin .neq v11 v13) fun v14 =>
    apick v14 (
      aret (.val (.bool false)) σ R) (
      og (fldA 2 f2) fun v15 =>
      og (lod v15 σ) fun v16 =>
      og (fldA 2 f3) fun v17 =>
      og (lod v17 σ) fun v18 =>
      og (ibin .neq v16 v18) fun v19 =>
      apick v19 (
        aret (.val (.bool false)) σ R) (
        og (fldA 3 f2) fun v20 =>
        og (lod v20 σ) fun v21 =>
        og (fldA 3 f3) fun v22 =>
        og (lod v22 σ) fun v23 =>
        og (ibin .neq v21 v23) fun v24 =>
        apick v24 (
          aret (.val (.bool false)) σ R) (
          og (fldA 4 f2) fun v25 =>
          og (lod v25 σ) fun v26 =>
          og (fldA 4 f3) fun v27 =>
          og (lod v27 σ) fun v28 =>
          og (ibin .neq v26 v28) fun v29 =>
          apick v29 (
            aret (.val (.bool false)) σ R) (
            og (fldA 5 f2) fun v30 =>
            og (lod v30 σ) fun v31 =>
            og (fldA 5 f3) fun v32 =>
            og (lod v32 σ) fun v33 =>
            og (sbin .neq v31 v33) fun v34 =>
            apick v34 (
              aret (.val (.bool false)) σ R) (
              og (fldA 6 f2) fun v35 =>
              og (lod v35 σ) fun v36 =>
              og (fldA 6 f3) fun v37 =>
              og (lod v37 σ) fun v38 =>
              acall TP fn_laws_eqDatumS [v36, v38] σ (onr (fun v39 σ =>
              og (aun .not v39) fun v40 =>
              apick v40 (
                aret (.val (.bool false)) σ R) (
                aret (.val (.bool true)) σ R)) (fun v σ => apan v σ R))))))))
def x96 : Sx := .box (.var 1) (.box (.var 1) (.frz 2 (.var 1) (.frz 3 (.var 1) (.og (.fldA 0 (.var 1)) (.og (.lod (.var 0)) (.og (.fldA 0 (.var 2)) (.og (.lod (.var 0)) (.og (.ibin .neq (.var 2) (.var 0)) (.apick (.var 0) (.ret (.lit (.val (.bool false)))) (.og (.fldA 1 (.var 6)) (.og (.lod (.var 0)) (.og (.fldA 1 (.var 7)) (.og (.lod (.var 0)) (.og (.ibin .neq (.var 2) (.var 0)) (.apick (.var 0) (.ret (.lit (.val (.bool false)))) (.og (.fldA 2 (.var 11)) (.og (.lod (.var 0)) (.og (.fldA 2 (.var 12)) (.og (.lod (.var 0)) (.og (.ibin .neq (.var 2) (.var 0)) (.apick (.var 0) (.ret (.lit (.val (.bool false)))) (.og (.fldA 3 (.var 16)) (.og (.lod (.var 0)) (.og (.fldA 3 (.var 17)) (.og (.lod (.var 0)) (.og (.ibin .neq (.var 2) (.var 0)) (.apick (.var 0) (.ret (.lit (.val (.bool false)))) (.og (.fldA 4 (.var 21)) (.og (.lod (.var 0)) (.og (.fldA 4 (.var 22)) (.og (.lod (.var 0)) (.og (.ibin .neq (.var 2) (.var 0)) (.apick (.var 0) (.ret (.lit (.val (.bool false)))) (.og (.fldA 5 (.var 26)) (.og (.lod (.var 0)) (.og (.fldA 5 (.var 27)) (.og (.lod (.var 0)) (.og (.sbin .neq (.var 2) (.var 0)) (.apick (.var 0) (.ret (.lit (.val (.bool false)))) (.og (.fldA 6 (.var 31)) (.og (.lod (.var 0)) (.og (.fldA 6 (.var 32)) (.og (.lod (.var 0)) (.call 125 [(.var 2), (.var 0)] (.og (.aun .not (.var 0)) (.apick (.var 0) (.ret (.lit (.val (.bool false)))) (.ret (.lit (.val (.bool true))))))))))))))))))))))))))))))))))))))))))))))))))
set_option maxRecDepth 1000000 in
theorem x96_ok : okF TT Tryz.f96 2 x96 = true := by decide +kernel
set_option maxRecDepth 1000000 in
theorem s_laws_eqOp_ok {a0 a1 : AV} {σ : AH} {R : AEnd → AH → Prop} (h : s_laws_eqOp a0 a1 σ R) : acall TP fn_laws_eqOp [a0, a1] σ R :=
  acall_okF (ρ := [a1, a0]) TT_ok Tryz.func96 rfl x96 x96_ok rfl h

end Go.Proofs.YtinhodpfgjddmaaGreatDoor.E
