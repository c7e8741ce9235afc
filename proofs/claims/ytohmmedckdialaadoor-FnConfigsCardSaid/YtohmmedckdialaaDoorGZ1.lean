/- What functions come to. Printed by mkg.py. -/
import Derived.Test.YtohmmedckdialaaDoorGZ0
namespace Go.Proofs.YtohmmedckdialaaDoor.E
open Go Go.RowKit
set_option linter.unusedVariables false
set_option linter.unusedSectionVars false
variable [Lam]
/-- loop.example/g00349/laws.FnExactLoopLines -/
def s_laws_FnExactLoopLines (a0 : AV) (σ : AH) (R : AEnd → AH → Prop) : Prop :=
  og (lenStr a0) fun v9 =>
  og (ibin .gtr v9 (.val (.int .i64 1048576))) fun v10 =>
  apick v10 (
    aret (.val (.bool true)) σ R) (
    acall TP fn_spec_LoopLines [a0] σ (onr (fun v12 σ =>
    new [(.val (.int .i64 0)), (.val (.slice none 0 0))] σ fun v3 σ =>
    sto 2 v3 v12 σ fun σ =>
    frz v3 σ fun f3 σ =>
    acall TP fn_impl_LoopLines [a0] σ (onr (fun v14 σ =>
    new [(.val (.int .i64 0)), (.val (.slice none 0 0))] σ fun v4 σ =>
    sto 2 v4 v14 σ fun σ =>
    frz v4 σ fun f4 σ =>
    og (lodA 2 f4 σ) fun v15 =>
    og (lodA 2 f3 σ) fun v16 =>
    acall TP fn_laws_eqTextsResult [v15, v16] σ (onr (fun v17 σ =>
    og (aun .not v17) fun v18 =>
    apick v18 (
      aret (.val (.bool false)) σ R) (
      og (lodA 2 f4 σ) fun v19 =>
      acall TP fn_laws_markTextsResult [v19, (.val (.int .i64 1))] σ (onr (fun v21 σ =>
      og (lodA 2 f4 σ) fun v22 =>
      acall TP fn_laws_heldTextsResult [v22, (.val (.int .i64 1))] σ (onr (fun v24 σ =>
      og (ibin .lss v24 (.val (.int .i64 0))) fun v26 =>
      apick v26 (
        aret (.val (.bool false)) σ R) (
        og (ibin .neq v24 v21) fun v29 =>
        apick v29 (
          aret (.val (.bool false)) σ R) (
          acall TP fn_impl_LoopLines [a0] σ (onr (fun v31 σ =>
          new [(.val (.int .i64 0)), (.val (.slice none 0 0))] σ fun v7 σ =>
          sto 2 v7 v31 σ fun σ =>
          frz v7 σ fun f7 σ =>
          og (lodA 2 f7 σ) fun v32 =>
          og (lodA 2 f3 σ) fun v33 =>
          acall TP fn_laws_eqTextsResult [v32, v33] σ (onr (fun v34 σ =>
          og (aun .not v34) fun v35 =>
          apick v35 (
            aret (.val (.bool false)) σ R) (
            og (lodA 2 f4 σ) fun v36 =>
            acall TP fn_laws_heldTextsResult [v36, (.val (.int .i64 1))] σ (onr (fun v38 σ =>
            og (ibin .lss v38 (.val (.int .i64 0))) fun v40 =>
            apick v40 (
              aret (.val (.bool false)) σ R) (
              og (ibin .neq v38 v21) fun v43 =>
              apick v43 (
                aret (.val (.bool false)) σ R) (
                aret (.val (.bool true)) σ R))) (fun v σ => apan v σ R)))) (fun v σ => apan v σ R))) (fun v σ => apan v σ R))))) (fun v σ => apan v σ R))) (fun v σ => apan v σ R)))) (fun v σ => apan v σ R))) (fun v σ => apan v σ R))) (fun v σ => apan v σ R)))
def x3 : Sx := .og (.lenStr (.var 0)) (.og (.ibin .gtr (.var 0) (.lit (.val (.int .i64 1048576)))) (.apick (.var 0) (.ret (.lit (.val (.bool true)))) (.call 7 [(.var 2)] (.new [(.val (.int .i64 0)), (.val (.slice none 0 0))] (.sto 2 (.var 0) (.var 1) (.frz 4 (.var 0) (.call 8 [(.var 5)] (.new [(.val (.int .i64 0)), (.val (.slice none 0 0))] (.sto 2 (.var 0) (.var 1) (.frz 7 (.var 0) (.og (.lodA 2 (.var 0)) (.og (.lodA 2 (.var 4)) (.call 9 [(.var 1), (.var 0)] (.og (.aun .not (.var 0)) (.apick (.var 0) (.ret (.lit (.val (.bool false)))) (.og (.lodA 2 (.var 4)) (.call 10 [(.var 0), (.lit (.val (.int .i64 1)))] (.og (.lodA 2 (.var 6)) (.call 11 [(.var 0), (.lit (.val (.int .i64 1)))] (.og (.ibin .lss (.var 0) (.lit (.val (.int .i64 0)))) (.apick (.var 0) (.ret (.lit (.val (.bool false)))) (.og (.ibin .neq (.var 1) (.var 3)) (.apick (.var 0) (.ret (.lit (.val (.bool false)))) (.call 8 [(.var 18)] (.new [(.val (.int .i64 0)), (.val (.slice none 0 0))] (.sto 2 (.var 0) (.var 1) (.frz 20 (.var 0) (.og (.lodA 2 (.var 0)) (.og (.lodA 2 (.var 17)) (.call 9 [(.var 1), (.var 0)] (.og (.aun .not (.var 0)) (.apick (.var 0) (.ret (.lit (.val (.bool false)))) (.og (.lodA 2 (.var 17)) (.call 11 [(.var 0), (.lit (.val (.int .i64 1)))] (.og (.ibin .lss (.var 0) (.lit (.val (.int .i64 0)))) (.apick (.var 0) (.ret (.lit (.val (.bool false)))) (.og (.ibin .neq (.var 1) (.var 14)) (.apick (.var 0) (.ret (.lit (.val (.bool false)))) (.ret (.lit (.val (.bool true))))))))))))))))))))))))))))))))))))))))))
set_option maxRecDepth 1000000 in
theorem x3_ok : okF TT Tryd.f3 1 x3 = true := by decide +kernel
set_option maxRecDepth 1000000 in
theorem s_laws_FnExactLoopLines_ok {a0 : AV} {σ : AH} {R : AEnd → AH → Prop} (h : s_laws_FnExactLoopLines a0 σ R) : acall TP fn_laws_FnExactLoopLines [a0] σ R :=
  acall_okF (ρ := [a0]) TT_ok Tryd.func3 rfl x3 x3_ok rfl h

/-- loop.example/g00349/laws.FnExactParseConfig -/
def s_laws_FnExactParseConfig (a0 : AV) (σ : AH) (R : AEnd → AH → Prop) : Prop :=
  og (lenStr a0) fun v6 =>
  og (ibin .gtr v6 (.val (.int .i64 1048576))) fun v7 =>
  apick v7 (
    aret (.val (.bool true)) σ R) (
    acall TP fn_spec_ParseConfig [a0] σ (onr (fun v9 σ =>
    new [(.val (.int .i64 0)), (.val (.int .i64 0)), (.val (.int .i64 0)), (.val (.bool false)), (.val (.bool false))] σ fun v3 σ =>
    sto 5 v3 v9 σ fun σ =>
    frz v3 σ fun f3 σ =>
    acall TP fn_impl_ParseConfig [a0] σ (onr (fun v11 σ =>
    new [(.val (.int .i64 0)), (.val (.int .i64 0)), (.val (.int .i64 0)), (.val (.bool false)), (.val (.bool false))] σ fun v4 σ =>
    sto 5 v4 v11 σ fun σ =>
    frz v4 σ fun f4 σ =>
    og (lodA 5 f4 σ) fun v12 =>
    og (lodA 5 f3 σ) fun v13 =>
    acall TP fn_laws_eqConfigResult [v12, v13] σ (onr (fun v14 σ =>
    og (aun .not v14) fun v15 =>
    apick v15 (
      aret (.val (.bool false)) σ R) (
      aret (.val (.bool true)) σ R)) (fun v σ => apan v σ R))) (fun v σ => apan v σ R))) (fun v σ => apan v σ R)))
def x4 : Sx := .og (.lenStr (.var 0)) (.og (.ibin .gtr (.var 0) (.lit (.val (.int .i64 1048576)))) (.apick (.var 0) (.ret (.lit (.val (.bool true)))) (.call 12 [(.var 2)] (.new [(.val (.int .i64 0)), (.val (.int .i64 0)), (.val (.int .i64 0)), (.val (.bool false)), (.val (.bool false))] (.sto 5 (.var 0) (.var 1) (.frz 4 (.var 0) (.call 13 [(.var 5)] (.new [(.val (.int .i64 0)), (.val (.int .i64 0)), (.val (.int .i64 0)), (.val (.bool false)), (.val (.bool false))] (.sto 5 (.var 0) (.var 1) (.frz 7 (.var 0) (.og (.lodA 5 (.var 0)) (.og (.lodA 5 (.var 4)) (.call 14 [(.var 1), (.var 0)] (.og (.aun .not (.var 0)) (.apick (.var 0) (.ret (.lit (.val (.bool false)))) (.ret (.lit (.val (.bool true)))))))))))))))))))
set_option maxRecDepth 1000000 in
theorem x4_ok : okF TT Tryd.f4 1 x4 = true := by decide +kernel
set_option maxRecDepth 1000000 in
theorem s_laws_FnExactParseConfig_ok {a0 : AV} {σ : AH} {R : AEnd → AH → Prop} (h : s_laws_FnExactParseConfig a0 σ R) : acall TP fn_laws_FnExactParseConfig [a0] σ R :=
  acall_okF (ρ := [a0]) TT_ok Tryd.func4 rfl x4 x4_ok rfl h

/-- loop.example/g00349/laws.FnConfigs -/
def s_laws_FnConfigs (a0 : AV) (σ : AH) (R : AEnd → AH → Prop) : Prop :=
  acall TP fn_laws_lwBig [a0] σ (onr (fun v8 σ =>
  apick v8 (
    aret (.val (.bool true)) σ R) (
    acall TP fn_spec_DrawParseConfig [a0] σ (onr (fun v10 σ =>
    acall TP fn_impl_ParseConfig [v10] σ (onr (fun v12 σ =>
    new [(.val (.int .i64 0)), (.val (.int .i64 0)), (.val (.int .i64 0)), (.val (.bool false)), (.val (.bool false))] σ fun v4 σ =>
    sto 5 v4 v12 σ fun σ =>
    jn (X := Tup [0, 36]) (fun x1 σ =>
        apick x1.2.1 (
          aret (.val (.bool false)) σ R) (
          acall TP fn_spec_DrawConfigText [x1.1] σ (onr (fun v38 σ =>
          new [(.val (.int .i64 0)), (.val (.int .i64 0)), (.val (.bool false)), (.val (.bool false))] σ fun v5 σ =>
          sto 4 v5 v38 σ fun σ =>
          frz v5 σ fun f5 σ =>
          og (lodA 4 f5 σ) fun v39 =>
          acall TP fn_impl_ConfigText [v39] σ (onr (fun v40 σ =>
          new [(.val (.int .i64 0)), (.val (.string ⟨#[]⟩))] σ fun v6 σ =>
          sto 2 v6 v40 σ fun σ =>
          frz v6 σ fun f6 σ =>
          og (fldA 0 f6) fun v41 =>
          og (lod v41 σ) fun v42 =>
          og (ibin .neq v42 (.val (.int .i64 0))) fun v43 =>
          apick v43 (
            jn (X := Tup [2]) (fun x2 σ =>
                aret x2.1 σ R) fun k2 =>
              og (lodA 4 f5 σ) fun v44 =>
              og (fldA 0 f6) fun v47 =>
              og (lod v47 σ) fun v48 =>
              acall TP fn_spec_ConfigText [v44] σ (onr (fun v45 σ =>
              (lod v47 σ = some v48 ∧ True) ∧
              og (fldV 0 v45) fun v46 =>
              og (ibin .eql v46 v48) fun v49 =>
              og (gval v49 true false (lodA 4 f5 σ)) fun v51 =>
              og (gval v49 true false (fldA 0 f6)) fun v53 =>
              og (gval v49 true false (lod v53 σ)) fun v54 =>
              gpick v49 (
                acall TP fn_impl_ConfigFault [v51] σ (onr (fun v52 σ =>
                (lod v53 σ = some v54 ∧ True) ∧
                og (ibin .eql v52 v54) fun v55 =>
                k2 (v55, ()) σ) (fun v σ => apan v σ R))) (
                k2 ((.val (.bool false)), ()) σ) (False)) (fun v σ => apan v σ R))) (
            jn (X := Tup [2]) (fun x3 σ =>
                aret x3.1 σ R) fun k3 =>
              og (fldA 1 f6) fun v57 =>
              og (lod v57 σ) fun v58 =>
              og (lodA 4 f5 σ) fun v61 =>
              acall TP fn_impl_ParseConfig [v58] σ (onr (fun v59 σ =>
              (lodA 4 f5 σ = some v61 ∧ True) ∧
              og (fldG 1 4 v59) fun v60 =>
              og (cmpV TT .eql ty_RiiooE v60 v61) fun v62 =>
              og (gval v62 true false (fldA 1 f6)) fun v64 =>
              og (gval v62 true false (lod v64 σ)) fun v65 =>
              gpick v62 (
                acall TP fn_impl_ParseConfig [v65] σ (onr (fun v66 σ =>
                (True) ∧
                og (fldV 0 v66) fun v67 =>
                og (ibin .eql v67 (.val (.int .i64 0))) fun v68 =>
                og (gval v68 true false (fldA 1 f6)) fun v71 =>
                og (gval v68 true false (lod v71 σ)) fun v72 =>
                og (gval v68 true false (lenStr v72)) fun v73 =>
                og (gval v68 true false (ibin .gtr v73 (.val (.int .i64 10)))) fun v74 =>
                og (pickV v68 v74 (.val (.bool false))) fun v75 =>
                k3 (v75, ()) σ) (fun v σ => apan v σ R))) (
                k3 ((.val (.bool false)), ()) σ) (False)) (fun v σ => apan v σ R)))) (fun v σ => apan v σ R))) (fun v σ => apan v σ R)))) fun k1 =>
      frz v4 σ fun f4 σ =>
      og (fldA 0 f4) fun v13 =>
      og (lod v13 σ) fun v14 =>
      og (ibin .eql v14 (.val (.int .i64 0))) fun v15 =>
      og (gval v15 true false (fldA 1 f4)) fun v17 =>
      og (gval v15 true false (lodA 4 v17 σ)) fun v18 =>
      og (gval v15 true false (some v10)) fun v21 =>
      gpick v15 (
        acall TP fn_impl_ConfigText [v18] σ (onr (fun v19 σ =>
        (True) ∧
        og (fldV 1 v19) fun v20 =>
        og (sbin .neq v20 v21) fun v22 =>
        og (gval v22 false false (fldA 0 f4)) fun v25 =>
        og (gval v22 false false (lod v25 σ)) fun v26 =>
        og (gval v22 false false (ibin .neq v26 (.val (.int .i64 0)))) fun v27 =>
        og (gval v22 false false (some v27)) fun v28 =>
        og (gval v28 true true (some v10)) fun v29 =>
        og (gval v28 true true (fldA 0 f4)) fun v32 =>
        og (gval v28 true true (lod v32 σ)) fun v33 =>
        gpick v28 (
          acall TP fn_spec_ParseConfig [v29] σ (onr (fun v30 σ =>
          (lod v32 σ = some v33 ∧ True) ∧
          og (fldV 0 v30) fun v31 =>
          og (ibin .neq v31 v33) fun v34 =>
          og (gval v22 false false (some v34)) fun v35 =>
          og (pickV v22 (.val (.bool true)) v35) fun v36 =>
          k1 (a0, v36, ()) σ) (fun v σ => apan v σ R))) (
          og (gval v22 false false (some (.val (.bool false)))) fun v35 =>
          og (pickV v22 (.val (.bool true)) v35) fun v36 =>
          k1 (a0, v36, ()) σ) (
          og (gval v22 false false (pickV (.tup []) (.tup []) (.val (.bool false)))) fun v35 =>
          og (pickV v22 (.val (.bool true)) v35) fun v36 =>
          k1 (a0, v36, ()) σ)) (fun v σ => apan v σ R))) (
        og (fldA 0 f4) fun v25 =>
        og (lod v25 σ) fun v26 =>
        og (ibin .neq v26 (.val (.int .i64 0))) fun v27 =>
        og (gval v27 true true (some v10)) fun v29 =>
        og (gval v27 true true (fldA 0 f4)) fun v32 =>
        og (gval v27 true true (lod v32 σ)) fun v33 =>
        gpick v27 (
          acall TP fn_spec_ParseConfig [v29] σ (onr (fun v30 σ =>
          (lod v32 σ = some v33 ∧ True) ∧
          og (fldV 0 v30) fun v31 =>
          og (ibin .neq v31 v33) fun v34 =>
          k1 (a0, v34, ()) σ) (fun v σ => apan v σ R))) (
          k1 (a0, (.val (.bool false)), ()) σ) (
          og (pickV (.tup []) (.tup []) (.val (.bool false))) fun v35 =>
          k1 (a0, v35, ()) σ)) (False)) (fun v σ => apan v σ R))) (fun v σ => apan v σ R)))) (fun v σ => apan v σ R))
def x5 : Sx := .call 15 [(.var 0)] (.apick (.var 0) (.ret (.lit (.val (.bool true)))) (.call 16 [(.var 1)] (.call 13 [(.var 0)] (.new [(.val (.int .i64 0)), (.val (.int .i64 0)), (.val (.int .i64 0)), (.val (.bool false)), (.val (.bool false))] (.sto 5 (.var 0) (.var 1) (.jn 125 [0, 36] (.apick (.var 1) (.ret (.lit (.val (.bool false)))) (.call 18 [(.var 0)] (.new [(.val (.int .i64 0)), (.val (.int .i64 0)), (.val (.bool false)), (.val (.bool false))] (.sto 4 (.var 0) (.var 1) (.frz 3 (.var 0) (.og (.lodA 4 (.var 0)) (.call 17 [(.var 0)] (.new [(.val (.int .i64 0)), (.val (.string ⟨#[]⟩))] (.sto 2 (.var 0) (.var 1) (.frz 7 (.var 0) (.og (.fldA 0 (.var 0)) (.og (.lod (.var 0)) (.og (.ibin .neq (.var 0) (.lit (.val (.int .i64 0)))) (.apick (.var 0) (.jn 4085 [2] (.ret (.var 0)) (.ord [0, 3, 4, 1, 2, 5, 6, 7, 9, 10, 8, 11, 12, 13] [0, 1, 3, 0, 8, 31, 63, 127, 255, 127, 639, 2047, 4095, 8191] (.og (.lodA 4 (.var 7)) (.og (.fldA 0 (.var 4)) (.og (.lod (.var 0)) (.call 19 [(.var 2)] (.wat [⟨none, (.lod (.var 2)), (.var 1)⟩] (.og (.fldV 0 (.var 0)) (.og (.ibin .eql (.var 0) (.var 2)) (.gog (.var 0) true false (.lodA 4 (.var 13)) (.gog (.var 1) true false (.fldA 0 (.var 10)) (.gog (.var 2) true false (.lod (.var 0)) (.gpick (.var 3) (.call 20 [(.var 2)] (.wat [⟨none, (.lod (.var 2)), (.var 1)⟩] (.og (.ibin .eql (.var 0) (.var 1)) (.jump 0 [(.var 0)])))) (.jump 0 [(.lit (.val (.bool false)))]) (.no)))))))))))))) (.jn 1023 [2] (.ret (.var 0)) (.ord [0, 1, 4, 2, 3, 5, 6, 7, 8, 9, 10, 11, 12, 13, 14, 15, 16, 17, 18, 19] [0, 1, 3, 7, 0, 31, 63, 127, 255, 511, 1023, 2047, 4095, 8191, 16383, 32767, 65535, 131071, 262143, 524287] (.og (.fldA 1 (.var 3)) (.og (.lod (.var 0)) (.og (.lodA 4 (.var 9)) (.call 13 [(.var 1)] (.wat [⟨none, (.lodA 4 (.var 11)), (.var 1)⟩] (.og (.fldG 1 4 (.var 0)) (.og (.cmpV .eql 30 (.var 0) (.var 2)) (.gog (.var 0) true false (.fldA 1 (.var 9)) (.gog (.var 1) true false (.lod (.var 0)) (.gpick (.var 2) (.call 13 [(.var 0)] (.wat [] (.og (.fldV 0 (.var 0)) (.og (.ibin .eql (.var 0) (.lit (.val (.int .i64 0)))) (.gog (.var 0) true false (.fldA 1 (.var 14)) (.gog (.var 1) true false (.lod (.var 0)) (.gog (.var 2) true false (.lenStr (.var 0)) (.gog (.var 3) true false (.ibin .gtr (.var 0) (.lit (.val (.int .i64 10)))) (.og (.pickV (.var 4) (.var 0) (.lit (.val (.bool false)))) (.jump 0 [(.var 0)])))))))))) (.jump 0 [(.lit (.val (.bool false)))]) (.no))))))))))))))))))))))))))) (.frz 4 (.var 0) (.ord [0, 1, 2, 3, 4, 5, 8, 6, 7, 9, 10, 11, 12, 13, 14, 15, 16, 19, 20, 17, 18, 21, 22, 23] [0, 1, 3, 7, 15, 31, 63, 127, 15, 511, 1023, 2047, 4095, 8191, 16383, 32767, 65535, 131071, 262143, 65535, 589823, 2097151, 4194303, 8388607] (.og (.fldA 0 (.var 0)) (.og (.lod (.var 0)) (.og (.ibin .eql (.var 0) (.lit (.val (.int .i64 0)))) (.gog (.var 0) true false (.fldA 1 (.var 3)) (.gog (.var 1) true false (.lodA 4 (.var 0)) (.gog (.var 2) true false (.ret (.var 8)) (.gpick (.var 3) (.call 17 [(.var 1)] (.wat [] (.og (.fldV 1 (.var 0)) (.og (.sbin .neq (.var 0) (.var 2)) (.gog (.var 0) false false (.fldA 0 (.var 9)) (.gog (.var 1) false false (.lod (.var 0)) (.gog (.var 2) false false (.ibin .neq (.var 0) (.lit (.val (.int .i64 0)))) (.gog (.var 3) false false (.ret (.var 0)) (.gog (.var 0) true true (.ret (.var 16)) (.gog (.var 1) true true (.fldA 0 (.var 14)) (.gog (.var 2) true true (.lod (.var 0)) (.gpick (.var 3) (.call 12 [(.var 2)] (.wat [⟨none, (.lod (.var 2)), (.var 1)⟩] (.og (.fldV 0 (.var 0)) (.og (.ibin .neq (.var 0) (.var 2)) (.gog (.var 10) false false (.ret (.var 0)) (.og (.pickV (.var 11) (.lit (.val (.bool true))) (.var 0)) (.jump 0 [(.var 26), (.var 0)]))))))) (.gog (.var 7) false false (.ret (.lit (.val (.bool false)))) (.og (.pickV (.var 8) (.lit (.val (.bool true))) (.var 0)) (.jump 0 [(.var 23), (.var 0)]))) (.gog (.var 7) false false (.pickV (.lit (.tup [])) (.lit (.tup [])) (.lit (.val (.bool false)))) (.og (.pickV (.var 8) (.lit (.val (.bool true))) (.var 0)) (.jump 0 [(.var 23), (.var 0)]))))))))))))))) (.og (.fldA 0 (.var 6)) (.og (.lod (.var 0)) (.og (.ibin .neq (.var 0) (.lit (.val (.int .i64 0)))) (.gog (.var 0) true true (.ret (.var 12)) (.gog (.var 1) true true (.fldA 0 (.var 10)) (.gog (.var 2) true true (.lod (.var 0)) (.gpick (.var 3) (.call 12 [(.var 2)] (.wat [⟨none, (.lod (.var 2)), (.var 1)⟩] (.og (.fldV 0 (.var 0)) (.og (.ibin .neq (.var 0) (.var 2)) (.jump 0 [(.var 20), (.var 0)]))))) (.jump 0 [(.var 17), (.lit (.val (.bool false)))]) (.og (.pickV (.lit (.tup [])) (.lit (.tup [])) (.lit (.val (.bool false)))) (.jump 0 [(.var 18), (.var 0)]))))))))) (.no))))))))))))))))
set_option maxRecDepth 1000000 in
theorem x5_ok : okF TT Tryd.f5 1 x5 = true := by decide +kernel
set_option maxRecDepth 1000000 in
theorem s_laws_FnConfigs_ok {a0 : AV} {σ : AH} {R : AEnd → AH → Prop} (h : s_laws_FnConfigs a0 σ R) : acall TP fn_laws_FnConfigs [a0] σ R :=
  acall_okF (ρ := [a0]) TT_ok Tryd.func5 rfl x5 x5_ok rfl h

/-- loop.example/g00349/laws.FnExactCommandOf -/
def s_laws_FnExactCommandOf (a0 : AV) (σ : AH) (R : AEnd → AH → Prop) : Prop :=
  og (lenStr a0) fun v6 =>
  og (ibin .gtr v6 (.val (.int .i64 1048576))) fun v7 =>
  apick v7 (
    aret (.val (.bool true)) σ R) (
    acall TP fn_spec_CommandOf [a0] σ (onr (fun v9 σ =>
    new [(.val (.int .i64 0)), (.val (.int .i64 0)), (.val (.int .i64 0)), (.val (.string ⟨#[]⟩))] σ fun v3 σ =>
    sto 4 v3 v9 σ fun σ =>
    frz v3 σ fun f3 σ =>
    acall TP fn_impl_CommandOf [a0] σ (onr (fun v11 σ =>
    new [(.val (.int .i64 0)), (.val (.int .i64 0)), (.val (.int .i64 0)), (.val (.string ⟨#[]⟩))] σ fun v4 σ =>
    sto 4 v4 v11 σ fun σ =>
    frz v4 σ fun f4 σ =>
    og (lodA 4 f4 σ) fun v12 =>
    og (lodA 4 f3 σ) fun v13 =>
    acall TP fn_laws_eqCommandResult [v12, v13] σ (onr (fun v14 σ =>
    og (aun .not v14) fun v15 =>
    apick v15 (
      aret (.val (.bool false)) σ R) (
      aret (.val (.bool true)) σ R)) (fun v σ => apan v σ R))) (fun v σ => apan v σ R))) (fun v σ => apan v σ R)))
def x6 : Sx := .og (.lenStr (.var 0)) (.og (.ibin .gtr (.var 0) (.lit (.val (.int .i64 1048576)))) (.apick (.var 0) (.ret (.lit (.val (.bool true)))) (.call 21 [(.var 2)] (.new [(.val (.int .i64 0)), (.val (.int .i64 0)), (.val (.int .i64 0)), (.val (.string ⟨#[]⟩))] (.sto 4 (.var 0) (.var 1) (.frz 4 (.var 0) (.call 22 [(.var 5)] (.new [(.val (.int .i64 0)), (.val (.int .i64 0)), (.val (.int .i64 0)), (.val (.string ⟨#[]⟩))] (.sto 4 (.var 0) (.var 1) (.frz 7 (.var 0) (.og (.lodA 4 (.var 0)) (.og (.lodA 4 (.var 4)) (.call 23 [(.var 1), (.var 0)] (.og (.aun .not (.var 0)) (.apick (.var 0) (.ret (.lit (.val (.bool false)))) (.ret (.lit (.val (.bool true)))))))))))))))))))
set_option maxRecDepth 1000000 in
theorem x6_ok : okF TT Tryd.f6 1 x6 = true := by decide +kernel
set_option maxRecDepth 1000000 in
theorem s_laws_FnExactCommandOf_ok {a0 : AV} {σ : AH} {R : AEnd → AH → Prop} (h : s_laws_FnExactCommandOf a0 σ R) : acall TP fn_laws_FnExactCommandOf [a0] σ R :=
  acall_okF (ρ := [a0]) TT_ok Tryd.func6 rfl x6 x6_ok rfl h

/-- loop.example/g00349/spec.LoopLines -/
def s_spec_LoopLines (a0 : AV) (σ : AH) (R : AEnd → AH → Prop) : Prop :=
  new [(.val (.int .i64 0)), (.val (.slice none 0 0))] σ fun v2 σ =>
  og (lenStr a0) fun v8 =>
  og (ibin .gtr v8 (.val (.int .i64 2000))) fun v9 =>
  apick v9 (
    og (bld [(.val (.int .i64 0)), (.val (.slice none 0 0))] [(0, 1), (1, 1)] [(0, (.val (.int .i64 2)))]) fun v10 =>
    sto 2 v2 v10 σ fun σ =>
    og (lodA 2 v2 σ) fun r2 =>
    aret r2 σ R) (
    og (bld [(.val (.int .i64 0)), (.val (.slice none 0 0))] [(0, 1), (1, 1)] []) fun v11 =>
    new [(.val (.int .i64 0)), (.val (.slice none 0 0))] σ fun v3 σ =>
    sto 2 v3 v11 σ fun σ =>
    lp (X := Tup [0, 2, 3, 4, 5]) (fun R1 y1 σ =>
      og (lenStr y1.1) fun v14 =>
      og (ibin .leq y1.2.2.2.2.1 v14) fun v15 =>
      apick v15 (
        jn (X := Tup [0, 2, 3, 4, 5]) (fun x2 σ =>
            og (ibin .add x2.2.2.2.2.1 (.val (.int .i64 1))) fun v17 =>
            R1 (x2.1, x2.2.1, x2.2.2.1, x2.2.2.2.1, v17, ()) σ) fun k2 =>
          og (lenStr y1.1) fun v20 =>
          og (ibin .lss y1.2.2.2.2.1 v20) fun v21 =>
          og (gval v21 true false (some y1.1)) fun v23 =>
          og (gval v21 true false (some y1.2.2.2.2.1)) fun v24 =>
          og (gval v21 true false (idxStr v23 v24)) fun v25 =>
          og (gval v21 true false (ibin .neq v25 (.val (.int .u8 10)))) fun v26 =>
          og (pickV v21 v26 (.val (.bool false))) fun v27 =>
          apick v27 (
            k2 (y1.1, y1.2.1, y1.2.2.1, y1.2.2.2.1, y1.2.2.2.2.1, ()) σ) (
            jn (X := Tup [0, 2, 3, 5]) (fun x3 σ =>
                og (ibin .add x3.2.2.2.1 (.val (.int .i64 1))) fun v42 =>
                k2 (x3.1, x3.2.1, x3.2.2.1, v42, x3.2.2.2.1, ()) σ) fun k3 =>
              og (slcStr y1.1 (some y1.2.2.2.1) (some y1.2.2.2.2.1)) fun v31 =>
              acall TP fn_spec_l15Blank [v31] σ (onr (fun v33 σ =>
              og (aun .not v33) fun v34 =>
              apick v34 (
                og (fldA 1 y1.2.2.1) fun v35 =>
                og (lod v35 σ) fun v36 =>
                bsl 1 [(.val (.string ⟨#[]⟩))] 1 [(0, v31)] σ fun v38 σ =>
                app 1 v36 v38 σ fun v39 σ =>
                og (fldA 1 y1.2.2.1) fun v40 =>
                sto 1 v40 v39 σ fun σ =>
                k3 (y1.1, y1.2.1, y1.2.2.1, y1.2.2.2.2.1, ()) σ) (
                k3 (y1.1, y1.2.1, y1.2.2.1, y1.2.2.2.2.1, ()) σ)) (fun v σ => apan v σ R)))) (
        og (fldA 1 y1.2.2.1) fun v43 =>
        og (lod v43 σ) fun v44 =>
        acall TP fn_spec_LinesFault [v44, (.val (.int .i64 0))] σ (onr (fun v45 σ =>
        og (ibin .neq v45 (.val (.int .i64 0))) fun v46 =>
        apick v46 (
          og (bld [(.val (.int .i64 0)), (.val (.slice none 0 0))] [(0, 1), (1, 1)] [(0, (.val (.int .i64 2)))]) fun v47 =>
          sto 2 y1.2.1 v47 σ fun σ =>
          og (lodA 2 y1.2.1 σ) fun r2 =>
          aret r2 σ R) (
          og (lodA 2 y1.2.2.1 σ) fun v48 =>
          sto 2 y1.2.1 v48 σ fun σ =>
          og (lodA 2 y1.2.1 σ) fun r2 =>
          aret r2 σ R)) (fun v σ => apan v σ R)))) (a0, v2, v3, (.val (.int .i64 0)), (.val (.int .i64 0)), ()) σ)
def x7 : Sx := .new [(.val (.int .i64 0)), (.val (.slice none 0 0))] (.og (.lenStr (.var 1)) (.og (.ibin .gtr (.var 0) (.lit (.val (.int .i64 2000)))) (.apick (.var 0) (.og (.bld [(.val (.int .i64 0)), (.val (.slice none 0 0))] [(0, 1), (1, 1)] [(0, (.lit (.val (.int .i64 2))))]) (.sto 2 (.var 3) (.var 0) (.og (.lodA 2 (.var 3)) (.ret (.var 0))))) (.og (.bld [(.val (.int .i64 0)), (.val (.slice none 0 0))] [(0, 1), (1, 1)] []) (.new [(.val (.int .i64 0)), (.val (.slice none 0 0))] (.sto 2 (.var 0) (.var 1) (.lp [0, 2, 3, 4, 5] (.og (.lenStr (.var 0)) (.og (.ibin .leq (.var 5) (.var 0)) (.apick (.var 0) (.jn 2003 [0, 2, 3, 4, 5] (.og (.ibin .add (.var 4) (.lit (.val (.int .i64 1)))) (.jump 0 [(.var 1), (.var 2), (.var 3), (.var 4), (.var 0)])) (.og (.lenStr (.var 2)) (.og (.ibin .lss (.var 7) (.var 0)) (.gog (.var 0) true false (.ret (.var 4)) (.gog (.var 1) true false (.ret (.var 9)) (.gog (.var 2) true false (.idxStr (.var 1) (.var 0)) (.gog (.var 3) true false (.ibin .neq (.var 0) (.lit (.val (.int .u8 10)))) (.og (.pickV (.var 4) (.var 0) (.lit (.val (.bool false)))) (.apick (.var 0) (.jump 0 [(.var 9), (.var 10), (.var 11), (.var 12), (.var 13)]) (.jn 16019 [0, 2, 3, 5] (.og (.ibin .add (.var 3) (.lit (.val (.int .i64 1)))) (.jump 0 [(.var 1), (.var 2), (.var 3), (.var 0), (.var 4)])) (.og (.slcStr (.var 9) (some (.var 12)) (some (.var 13))) (.call 24 [(.var 0)] (.og (.aun .not (.var 0)) (.apick (.var 0) (.og (.fldA 1 (.var 14)) (.og (.lod (.var 0)) (.bsl 1 [(.val (.string ⟨#[]⟩))] 1 [(0, (.var 4))] (.app 1 (.var 1) (.var 0) (.og (.fldA 1 (.var 18)) (.sto 1 (.var 0) (.var 1) (.jump 0 [(.var 17), (.var 18), (.var 19), (.var 21)]))))))) (.jump 0 [(.var 12), (.var 13), (.var 14), (.var 16)]))))))))))))))) (.og (.fldA 1 (.var 4)) (.og (.lod (.var 0)) (.call 25 [(.var 0), (.lit (.val (.int .i64 0)))] (.og (.ibin .neq (.var 0) (.lit (.val (.int .i64 0)))) (.apick (.var 0) (.og (.bld [(.val (.int .i64 0)), (.val (.slice none 0 0))] [(0, 1), (1, 1)] [(0, (.lit (.val (.int .i64 2))))]) (.sto 2 (.var 8) (.var 0) (.og (.lodA 2 (.var 8)) (.ret (.var 0))))) (.og (.lodA 2 (.var 8)) (.sto 2 (.var 8) (.var 0) (.og (.lodA 2 (.var 8)) (.ret (.var 0))))))))))))) [(.var 5), (.var 4), (.var 0), (.lit (.val (.int .i64 0))), (.lit (.val (.int .i64 0)))])))))))
set_option maxRecDepth 1000000 in
theorem x7_ok : okF TT Tryd.f7 1 x7 = true := by decide +kernel
set_option maxRecDepth 1000000 in
theorem s_spec_LoopLines_ok {a0 : AV} {σ : AH} {R : AEnd → AH → Prop} (h : s_spec_LoopLines a0 σ R) : acall TP fn_spec_LoopLines [a0] σ R :=
  acall_okF (ρ := [a0]) TT_ok Tryd.func7 rfl x7 x7_ok rfl h

/-- loop.example/g00349/impl.LoopLines -/
def s_impl_LoopLines (a0 : AV) (σ : AH) (R : AEnd → AH → Prop) : Prop :=
  new [(.val (.int .i64 0)), (.val (.slice none 0 0))] σ fun v2 σ =>
  og (lenStr a0) fun v5 =>
  og (ibin .gtr v5 (.val (.int .i64 2000))) fun v6 =>
  apick v6 (
    og (bld [(.val (.int .i64 0)), (.val (.slice none 0 0))] [(0, 1), (1, 1)] [(0, (.val (.int .i64 2)))]) fun v7 =>
    sto 2 v2 v7 σ fun σ =>
    og (lodA 2 v2 σ) fun r2 =>
    aret r2 σ R) (
    acall TP fn_strings_Split [a0, (.val (.string ⟨#[10]⟩))] σ (onr (fun v9 σ =>
    acall TP fn_slices_DeleteFunc [v9, (.clo (.func fn_impl_LoopLines_1) [] [])] σ (onr (fun v10 σ =>
    jn (X := Tup [2, 3, 17]) (fun x1 σ =>
        apick x1.2.2.1 (
          og (bld [(.val (.int .i64 0)), (.val (.slice none 0 0))] [(0, 1), (1, 1)] [(0, (.val (.int .i64 2)))]) fun v18 =>
          sto 2 x1.1 v18 σ fun σ =>
          og (lodA 2 x1.1 σ) fun r2 =>
          aret r2 σ R) (
          og (bld [(.val (.int .i64 0)), (.val (.slice none 0 0))] [(0, 1), (1, 1)] [(1, x1.2.1)]) fun v20 =>
          sto 2 x1.1 v20 σ fun σ =>
          og (lodA 2 x1.1 σ) fun r2 =>
          aret r2 σ R)) fun k1 =>
      og (lenS v10) fun v12 =>
      og (ibin .gtr v12 (.val (.int .i64 12))) fun v13 =>
      og (gval v13 false false (some v10)) fun v15 =>
      gpick v13 (
        k1 (v2, v10, (.val (.bool true)), ()) σ) (
        acall TP fn_slices_ContainsFunc [v15, (.clo (.func fn_impl_LoopLines_2) [] [])] σ (onr (fun v16 σ =>
        k1 (v2, v10, v16, ()) σ) (fun v σ => apan v σ R))) (False)) (fun v σ => apan v σ R))) (fun v σ => apan v σ R)))
def x8 : Sx := .new [(.val (.int .i64 0)), (.val (.slice none 0 0))] (.og (.lenStr (.var 1)) (.og (.ibin .gtr (.var 0) (.lit (.val (.int .i64 2000)))) (.apick (.var 0) (.og (.bld [(.val (.int .i64 0)), (.val (.slice none 0 0))] [(0, 1), (1, 1)] [(0, (.lit (.val (.int .i64 2))))]) (.sto 2 (.var 3) (.var 0) (.og (.lodA 2 (.var 3)) (.ret (.var 0))))) (.call 27 [(.var 3), (.lit (.val (.string ⟨#[10]⟩)))] (.call 26 [(.var 0), (.lit (.clo (.func fn_impl_LoopLines_1) [] []))] (.jn 61 [2, 3, 17] (.apick (.var 2) (.og (.bld [(.val (.int .i64 0)), (.val (.slice none 0 0))] [(0, 1), (1, 1)] [(0, (.lit (.val (.int .i64 2))))]) (.sto 2 (.var 1) (.var 0) (.og (.lodA 2 (.var 1)) (.ret (.var 0))))) (.og (.bld [(.val (.int .i64 0)), (.val (.slice none 0 0))] [(0, 1), (1, 1)] [(1, (.var 1))]) (.sto 2 (.var 1) (.var 0) (.og (.lodA 2 (.var 1)) (.ret (.var 0)))))) (.og (.lenS (.var 0)) (.og (.ibin .gtr (.var 0) (.lit (.val (.int .i64 12)))) (.gog (.var 0) false false (.ret (.var 2)) (.gpick (.var 1) (.jump 0 [(.var 7), (.var 3), (.lit (.val (.bool true)))]) (.call 30 [(.var 0), (.lit (.clo (.func fn_impl_LoopLines_2) [] []))] (.jump 0 [(.var 8), (.var 4), (.var 0)])) (.no)))))))))))
set_option maxRecDepth 1000000 in
theorem x8_ok : okF TT Tryd.f8 1 x8 = true := by decide +kernel
set_option maxRecDepth 1000000 in
theorem s_impl_LoopLines_ok {a0 : AV} {σ : AH} {R : AEnd → AH → Prop} (h : s_impl_LoopLines a0 σ R) : acall TP fn_impl_LoopLines [a0] σ R :=
  acall_okF (ρ := [a0]) TT_ok Tryd.func8 rfl x8 x8_ok rfl h

/-- loop.example/g00349/laws.eqTextsResult -/
def s_laws_eqTextsResult (a0 a1 : AV) (σ : AH) (R : AEnd → AH → Prop) : Prop :=
  abox a0 σ fun v2 σ =>
  abox a1 σ fun v3 σ =>
  frz v2 σ fun f2 σ =>
  frz v3 σ fun f3 σ =>
  og (fldA 0 f2) fun v5 =>
  og (lod v5 σ) fun v6 =>
  og (fldA 0 f3) fun v7 =>
  og (lod v7 σ) fun v8 =>
  og (ibin .neq v6 v8) fun v9 =>
  apick v9 (
    aret (.val (.bool false)) σ R) (
    og (fldA 1 f2) fun v10 =>
    og (lod v10 σ) fun v11 =>
    og (fldA 1 f3) fun v12 =>
    og (lod v12 σ) fun v13 =>
    acall TP fn_laws_eqStringS [v11, v13] σ (onr (fun v14 σ =>
    og (aun .not v14) fun v15 =>
    apick v15 (
      aret (.val (.bool false)) σ R) (
      aret (.val (.bool true)) σ R)) (fun v σ => apan v σ R)))
def x9 : Sx := .box (.var 1) (.box (.var 1) (.frz 2 (.var 1) (.frz 3 (.var 1) (.og (.fldA 0 (.var 1)) (.og (.lod (.var 0)) (.og (.fldA 0 (.var 2)) (.og (.lod (.var 0)) (.og (.ibin .neq (.var 2) (.var 0)) (.apick (.var 0) (.ret (.lit (.val (.bool false)))) (.og (.fldA 1 (.var 6)) (.og (.lod (.var 0)) (.og (.fldA 1 (.var 7)) (.og (.lod (.var 0)) (.call 32 [(.var 2), (.var 0)] (.og (.aun .not (.var 0)) (.apick (.var 0) (.ret (.lit (.val (.bool false)))) (.ret (.lit (.val (.bool true))))))))))))))))))))
set_option maxRecDepth 1000000 in
theorem x9_ok : okF TT Tryd.f9 2 x9 = true := by decide +kernel
set_option maxRecDepth 1000000 in
theorem s_laws_eqTextsResult_ok {a0 a1 : AV} {σ : AH} {R : AEnd → AH → Prop} (h : s_laws_eqTextsResult a0 a1 σ R) : acall TP fn_laws_eqTextsResult [a0, a1] σ R :=
  acall_okF (ρ := [a1, a0]) TT_ok Tryd.func9 rfl x9 x9_ok rfl h

/-- loop.example/g00349/laws.markTextsResult -/
def s_laws_markTextsResult (a0 a1 : AV) (σ : AH) (R : AEnd → AH → Prop) : Prop :=
  abox a0 σ fun v2 σ =>
  frz v2 σ fun f2 σ =>
  og (fldA 1 f2) fun v5 =>
  og (lod v5 σ) fun v6 =>
  acall TP fn_laws_markStringS [v6, a1] σ (onr (fun v8 σ =>
  aret v8 σ R) (fun v σ => apan v σ R))
def x10 : Sx := .box (.var 1) (.frz 2 (.var 0) (.og (.fldA 1 (.var 0)) (.og (.lod (.var 0)) (.call 33 [(.var 0), (.var 4)] (.ret (.var 0))))))
set_option maxRecDepth 1000000 in
theorem x10_ok : okF TT Tryd.f10 2 x10 = true := by decide +kernel
set_option maxRecDepth 1000000 in
theorem s_laws_markTextsResult_ok {a0 a1 : AV} {σ : AH} {R : AEnd → AH → Prop} (h : s_laws_markTextsResult a0 a1 σ R) : acall TP fn_laws_markTextsResult [a0, a1] σ R :=
  acall_okF (ρ := [a1, a0]) TT_ok Tryd.func10 rfl x10 x10_ok rfl h

/-- loop.example/g00349/laws.heldTextsResult -/
def s_laws_heldTextsResult (a0 a1 : AV) (σ : AH) (R : AEnd → AH → Prop) : Prop :=
  abox a0 σ fun v2 σ =>
  frz v2 σ fun f2 σ =>
  og (fldA 1 f2) fun v5 =>
  og (lod v5 σ) fun v6 =>
  acall TP fn_laws_heldStringS [v6, a1] σ (onr (fun v8 σ =>
  og (ibin .lss v8 (.val (.int .i64 0))) fun v10 =>
  apick v10 (
    aret (.val (.int .i64 (-1))) σ R) (
    aret v8 σ R)) (fun v σ => apan v σ R))
def x11 : Sx := .box (.var 1) (.frz 2 (.var 0) (.og (.fldA 1 (.var 0)) (.og (.lod (.var 0)) (.call 34 [(.var 0), (.var 4)] (.og (.ibin .lss (.var 0) (.lit (.val (.int .i64 0)))) (.apick (.var 0) (.ret (.lit (.val (.int .i64 (-1))))) (.ret (.var 1))))))))
set_option maxRecDepth 1000000 in
theorem x11_ok : okF TT Tryd.f11 2 x11 = true := by decide +kernel
set_option maxRecDepth 1000000 in
theorem s_laws_heldTextsResult_ok {a0 a1 : AV} {σ : AH} {R : AEnd → AH → Prop} (h : s_laws_heldTextsResult a0 a1 σ R) : acall TP fn_laws_heldTextsResult [a0, a1] σ R :=
  acall_okF (ρ := [a1, a0]) TT_ok Tryd.func11 rfl x11 x11_ok rfl h

/-- loop.example/g00349/spec.ParseConfig -/
def s_spec_ParseConfig (a0 : AV) (σ : AH) (R : AEnd → AH → Prop) : Prop :=
  new [(.val (.int .i64 0)), (.val (.int .i64 0)), (.val (.int .i64 0)), (.val (.bool false)), (.val (.bool false))] σ fun v2 σ =>
  lp (X := Tup [0, 2, 3]) (fun R1 y1 σ =>
    og (ibin .leq y1.2.2.1 (.val (.int .i64 64))) fun v8 =>
    apick v8 (
      lp (X := Tup [0, 2, 3, 4]) (fun R2 y2 σ =>
        og (ibin .lss y2.2.2.2.1 (.val (.int .i64 16))) fun v12 =>
        apick v12 (
          lp (X := Tup [0, 2, 3, 4, 5]) (fun R3 y3 σ =>
            og (ibin .lss y3.2.2.2.2.1 (.val (.int .i64 4))) fun v16 =>
            apick v16 (
              og (ibin .rem y3.2.2.2.2.1 (.val (.int .i64 2))) fun v22 =>
              og (ibin .eql v22 (.val (.int .i64 1))) fun v23 =>
              og (ibin .quo y3.2.2.2.2.1 (.val (.int .i64 2))) fun v25 =>
              og (ibin .eql v25 (.val (.int .i64 1))) fun v26 =>
              og (bld [(.val (.int .i64 0)), (.val (.int .i64 0)), (.val (.bool false)), (.val (.bool false))] [(0, 1), (1, 1), (2, 1), (3, 1)] [(0, y3.2.2.1), (1, y3.2.2.2.1), (2, v23), (3, v26)]) fun v27 =>
              new [(.val (.int .i64 0)), (.val (.int .i64 0)), (.val (.bool false)), (.val (.bool false))] σ fun v6 σ =>
              sto 4 v6 v27 σ fun σ =>
              frz v6 σ fun f6 σ =>
              acall TP fn_spec_l13Text [f6] σ (onr (fun v28 σ =>
              og (sbin .eql v28 y3.1) fun v30 =>
              apick v30 (
                og (lodA 4 f6 σ) fun v31 =>
                og (bld [(.val (.int .i64 0)), (.val (.int .i64 0)), (.val (.int .i64 0)), (.val (.bool false)), (.val (.bool false))] [(0, 1), (1, 4)] [(1, v31)]) fun v32 =>
                sto 5 y3.2.1 v32 σ fun σ =>
                og (lodA 5 y3.2.1 σ) fun r2 =>
                aret r2 σ R) (
                og (ibin .add y3.2.2.2.2.1 (.val (.int .i64 1))) fun v18 =>
                R3 (y3.1, y3.2.1, y3.2.2.1, y3.2.2.2.1, v18, ()) σ)) (fun v σ => apan v σ R))) (
              og (ibin .add y3.2.2.2.1 (.val (.int .i64 1))) fun v14 =>
              R2 (y3.1, y3.2.1, y3.2.2.1, v14, ()) σ)) (y2.1, y2.2.1, y2.2.2.1, y2.2.2.2.1, (.val (.int .i64 0)), ()) σ) (
          og (ibin .add y2.2.2.1 (.val (.int .i64 1))) fun v10 =>
          R1 (y2.1, y2.2.1, v10, ()) σ)) (y1.1, y1.2.1, y1.2.2.1, (.val (.int .i64 0)), ()) σ) (
      og (bld [(.val (.int .i64 0)), (.val (.int .i64 0)), (.val (.int .i64 0)), (.val (.bool false)), (.val (.bool false))] [(0, 1), (1, 4)] [(0, (.val (.int .i64 5)))]) fun v33 =>
      sto 5 y1.2.1 v33 σ fun σ =>
      og (lodA 5 y1.2.1 σ) fun r2 =>
      aret r2 σ R)) (a0, v2, (.val (.int .i64 1)), ()) σ
def x12 : Sx := .new [(.val (.int .i64 0)), (.val (.int .i64 0)), (.val (.int .i64 0)), (.val (.bool false)), (.val (.bool false))] (.lp [0, 2, 3] (.og (.ibin .leq (.var 2) (.lit (.val (.int .i64 64)))) (.apick (.var 0) (.lp [0, 2, 3, 4] (.og (.ibin .lss (.var 3) (.lit (.val (.int .i64 16)))) (.apick (.var 0) (.lp [0, 2, 3, 4, 5] (.og (.ibin .lss (.var 4) (.lit (.val (.int .i64 4)))) (.apick (.var 0) (.og (.ibin .rem (.var 5) (.lit (.val (.int .i64 2)))) (.og (.ibin .eql (.var 0) (.lit (.val (.int .i64 1)))) (.og (.ibin .quo (.var 7) (.lit (.val (.int .i64 2)))) (.og (.ibin .eql (.var 0) (.lit (.val (.int .i64 1)))) (.og (.bld [(.val (.int .i64 0)), (.val (.int .i64 0)), (.val (.bool false)), (.val (.bool false))] [(0, 1), (1, 1), (2, 1), (3, 1)] [(0, (.var 7)), (1, (.var 8)), (2, (.var 2)), (3, (.var 0))]) (.new [(.val (.int .i64 0)), (.val (.int .i64 0)), (.val (.bool false)), (.val (.bool false))] (.sto 4 (.var 0) (.var 1) (.frz 11 (.var 0) (.call 35 [(.var 0)] (.og (.sbin .eql (.var 0) (.var 9)) (.apick (.var 0) (.og (.lodA 4 (.var 2)) (.og (.bld [(.val (.int .i64 0)), (.val (.int .i64 0)), (.val (.int .i64 0)), (.val (.bool false)), (.val (.bool false))] [(0, 1), (1, 4)] [(1, (.var 0))]) (.sto 5 (.var 13) (.var 0) (.og (.lodA 5 (.var 13)) (.ret (.var 0)))))) (.og (.ibin .add (.var 14) (.lit (.val (.int .i64 1)))) (.jump 0 [(.var 11), (.var 12), (.var 13), (.var 14), (.var 0)]))))))))))))) (.og (.ibin .add (.var 4) (.lit (.val (.int .i64 1)))) (.jump 1 [(.var 2), (.var 3), (.var 4), (.var 0)])))) [(.var 1), (.var 2), (.var 3), (.var 4), (.lit (.val (.int .i64 0)))]) (.og (.ibin .add (.var 3) (.lit (.val (.int .i64 1)))) (.jump 1 [(.var 2), (.var 3), (.var 0)])))) [(.var 1), (.var 2), (.var 3), (.lit (.val (.int .i64 0)))]) (.og (.bld [(.val (.int .i64 0)), (.val (.int .i64 0)), (.val (.int .i64 0)), (.val (.bool false)), (.val (.bool false))] [(0, 1), (1, 4)] [(0, (.lit (.val (.int .i64 5))))]) (.sto 5 (.var 3) (.var 0) (.og (.lodA 5 (.var 3)) (.ret (.var 0))))))) [(.var 1), (.var 0), (.lit (.val (.int .i64 1)))])
set_option maxRecDepth 1000000 in
theorem x12_ok : okF TT Tryd.f12 1 x12 = true := by decide +kernel
set_option maxRecDepth 1000000 in
theorem s_spec_ParseConfig_ok {a0 : AV} {σ : AH} {R : AEnd → AH → Prop} (h : s_spec_ParseConfig a0 σ R) : acall TP fn_spec_ParseConfig [a0] σ R :=
  acall_okF (ρ := [a0]) TT_ok Tryd.func12 rfl x12 x12_ok rfl h

/-- loop.example/g00349/impl.ParseConfig -/
def s_impl_ParseConfig (a0 : AV) (σ : AH) (R : AEnd → AH → Prop) : Prop :=
  new [(.val (.int .i64 0)), (.val (.int .i64 0)), (.val (.int .i64 0)), (.val (.bool false)), (.val (.bool false))] σ fun v2 σ =>
  acall TP fn_strings_Split [a0, (.val (.string ⟨#[32]⟩))] σ (onr (fun v6 σ =>
  og (lenS v6) fun v8 =>
  og (ibin .neq v8 (.val (.int .i64 6))) fun v9 =>
  apick v9 (
    og (bld [(.val (.int .i64 0)), (.val (.int .i64 0)), (.val (.int .i64 0)), (.val (.bool false)), (.val (.bool false))] [(0, 1), (1, 4)] [(0, (.val (.int .i64 5)))]) fun v10 =>
    sto 5 v2 v10 σ fun σ =>
    og (lodA 5 v2 σ) fun r2 =>
    aret r2 σ R) (
    og (idx 1 v6 (.val (.int .i64 1)) σ) fun v12 =>
    og (lod v12 σ) fun v13 =>
    og (idx 1 v6 (.val (.int .i64 3)) σ) fun v17 =>
    og (lod v17 σ) fun v18 =>
    og (idx 1 v6 (.val (.int .i64 4)) σ) fun v22 =>
    og (lod v22 σ) fun v23 =>
    og (sbin .eql v23 (.val (.string ⟨#[112, 101, 101, 112]⟩))) fun v24 =>
    og (idx 1 v6 (.val (.int .i64 5)) σ) fun v26 =>
    og (lod v26 σ) fun v27 =>
    og (sbin .eql v27 (.val (.string ⟨#[99, 97, 99, 104, 101]⟩))) fun v28 =>
    acall TP fn_impl_ParseNum [v13] σ (onr (fun v14 σ =>
    (lod v26 σ = some v27 ∧ idx 1 v6 (.val (.int .i64 5)) σ = some v26 ∧ lod v22 σ = some v23 ∧ idx 1 v6 (.val (.int .i64 4)) σ = some v22 ∧ lod v17 σ = some v18 ∧ idx 1 v6 (.val (.int .i64 3)) σ = some v17 ∧ True) ∧
    og (fldV 1 v14) fun v15 =>
    acall TP fn_impl_ParseNum [v18] σ (onr (fun v19 σ =>
    (lod v26 σ = some v27 ∧ idx 1 v6 (.val (.int .i64 5)) σ = some v26 ∧ lod v22 σ = some v23 ∧ idx 1 v6 (.val (.int .i64 4)) σ = some v22 ∧ True) ∧
    og (fldV 1 v19) fun v20 =>
    og (bld [(.val (.int .i64 0)), (.val (.int .i64 0)), (.val (.bool false)), (.val (.bool false))] [(0, 1), (1, 1), (2, 1), (3, 1)] [(0, v15), (1, v20), (2, v24), (3, v28)]) fun v29 =>
    new [(.val (.int .i64 0)), (.val (.int .i64 0)), (.val (.bool false)), (.val (.bool false))] σ fun v4 σ =>
    (True) ∧
    sto 4 v4 v29 σ fun σ =>
    (True) ∧
    jn (X := Tup [2, 4, 38]) (fun x1 σ =>
        apick x1.2.2.1 (
          og (bld [(.val (.int .i64 0)), (.val (.int .i64 0)), (.val (.int .i64 0)), (.val (.bool false)), (.val (.bool false))] [(0, 1), (1, 4)] [(0, (.val (.int .i64 5)))]) fun v39 =>
          sto 5 x1.1 v39 σ fun σ =>
          og (lodA 5 x1.1 σ) fun r2 =>
          aret r2 σ R) (
          og (lodA 4 x1.2.1 σ) fun v40 =>
          og (bld [(.val (.int .i64 0)), (.val (.int .i64 0)), (.val (.int .i64 0)), (.val (.bool false)), (.val (.bool false))] [(0, 1), (1, 4)] [(1, v40)]) fun v41 =>
          sto 5 x1.1 v41 σ fun σ =>
          og (lodA 5 x1.1 σ) fun r2 =>
          aret r2 σ R)) fun k1 =>
      frz v4 σ fun f4 σ =>
      og (lodA 4 f4 σ) fun v30 =>
      acall TP fn_impl_ConfigFault [v30] σ (onr (fun v31 σ =>
      og (ibin .neq v31 (.val (.int .i64 0))) fun v32 =>
      og (gval v32 false false (lodA 4 f4 σ)) fun v34 =>
      gpick v32 (
        k1 (v2, f4, (.val (.bool true)), ()) σ) (
        acall TP fn_impl_Config_text [v34] σ (onr (fun v35 σ =>
        og (sbin .neq v35 a0) fun v37 =>
        k1 (v2, f4, v37, ()) σ) (fun v σ => apan v σ R))) (False)) (fun v σ => apan v σ R))) (fun v σ => apan v σ R))) (fun v σ => apan v σ R)))) (fun v σ => apan v σ R))
def x13 : Sx := .new [(.val (.int .i64 0)), (.val (.int .i64 0)), (.val (.int .i64 0)), (.val (.bool false)), (.val (.bool false))] (.call 27 [(.var 1), (.lit (.val (.string ⟨#[32]⟩)))] (.og (.lenS (.var 0)) (.og (.ibin .neq (.var 0) (.lit (.val (.int .i64 6)))) (.apick (.var 0) (.og (.bld [(.val (.int .i64 0)), (.val (.int .i64 0)), (.val (.int .i64 0)), (.val (.bool false)), (.val (.bool false))] [(0, 1), (1, 4)] [(0, (.lit (.val (.int .i64 5))))]) (.sto 5 (.var 4) (.var 0) (.og (.lodA 5 (.var 4)) (.ret (.var 0))))) (.ord [0, 1, 2, 5, 6, 7, 10, 11, 12, 13, 14, 15, 16, 17, 3, 4, 8, 9, 18, 19, 20] [0, 1, 3, 7, 15, 0, 32, 96, 239, 495, 0, 1024, 3072, 7168, 0, 16384, 49152, 114688, 262143, 0, 1048575] (.og (.idx 1 (.var 2) (.lit (.val (.int .i64 1)))) (.og (.lod (.var 0)) (.og (.idx 1 (.var 4) (.lit (.val (.int .i64 3)))) (.og (.lod (.var 0)) (.og (.idx 1 (.var 6) (.lit (.val (.int .i64 4)))) (.og (.lod (.var 0)) (.og (.sbin .eql (.var 0) (.lit (.val (.string ⟨#[112, 101, 101, 112]⟩)))) (.og (.idx 1 (.var 9) (.lit (.val (.int .i64 5)))) (.og (.lod (.var 0)) (.og (.sbin .eql (.var 0) (.lit (.val (.string ⟨#[99, 97, 99, 104, 101]⟩)))) (.call 36 [(.var 8)] (.wat [⟨none, (.lod (.var 3)), (.var 2)⟩, ⟨none, (.idx 1 (.var 13) (.lit (.val (.int .i64 5)))), (.var 3)⟩, ⟨none, (.lod (.var 6)), (.var 5)⟩, ⟨none, (.idx 1 (.var 13) (.lit (.val (.int .i64 4)))), (.var 6)⟩, ⟨none, (.lod (.var 8)), (.var 7)⟩, ⟨none, (.idx 1 (.var 13) (.lit (.val (.int .i64 3)))), (.var 8)⟩] (.og (.fldV 1 (.var 0)) (.call 36 [(.var 8)] (.wat [⟨none, (.lod (.var 5)), (.var 4)⟩, ⟨none, (.idx 1 (.var 15) (.lit (.val (.int .i64 5)))), (.var 5)⟩, ⟨none, (.lod (.var 8)), (.var 7)⟩, ⟨none, (.idx 1 (.var 15) (.lit (.val (.int .i64 4)))), (.var 8)⟩] (.og (.fldV 1 (.var 0)) (.og (.bld [(.val (.int .i64 0)), (.val (.int .i64 0)), (.val (.bool false)), (.val (.bool false))] [(0, 1), (1, 1), (2, 1), (3, 1)] [(0, (.var 2)), (1, (.var 0)), (2, (.var 7)), (3, (.var 4))]) (.new [(.val (.int .i64 0)), (.val (.int .i64 0)), (.val (.bool false)), (.val (.bool false))] (.wat [] (.sto 4 (.var 0) (.var 1) (.wat [] (.jn 125 [2, 4, 38] (.apick (.var 2) (.og (.bld [(.val (.int .i64 0)), (.val (.int .i64 0)), (.val (.int .i64 0)), (.val (.bool false)), (.val (.bool false))] [(0, 1), (1, 4)] [(0, (.lit (.val (.int .i64 5))))]) (.sto 5 (.var 1) (.var 0) (.og (.lodA 5 (.var 1)) (.ret (.var 0))))) (.og (.lodA 4 (.var 1)) (.og (.bld [(.val (.int .i64 0)), (.val (.int .i64 0)), (.val (.int .i64 0)), (.val (.bool false)), (.val (.bool false))] [(0, 1), (1, 4)] [(1, (.var 0))]) (.sto 5 (.var 2) (.var 0) (.og (.lodA 5 (.var 2)) (.ret (.var 0))))))) (.frz 20 (.var 0) (.og (.lodA 4 (.var 0)) (.call 20 [(.var 0)] (.og (.ibin .neq (.var 0) (.lit (.val (.int .i64 0)))) (.gog (.var 0) false false (.lodA 4 (.var 3)) (.gpick (.var 1) (.jump 0 [(.var 24), (.var 4), (.lit (.val (.bool true)))]) (.call 37 [(.var 0)] (.og (.sbin .neq (.var 0) (.var 26)) (.jump 0 [(.var 26), (.var 6), (.var 0)]))) (.no))))))))))))))))))))))))))))))))))
set_option maxRecDepth 1000000 in
theorem x13_ok : okF TT Tryd.f13 1 x13 = true := by decide +kernel
set_option maxRecDepth 1000000 in
theorem s_impl_ParseConfig_ok {a0 : AV} {σ : AH} {R : AEnd → AH → Prop} (h : s_impl_ParseConfig a0 σ R) : acall TP fn_impl_ParseConfig [a0] σ R :=
  acall_okF (ρ := [a0]) TT_ok Tryd.func13 rfl x13 x13_ok rfl h

/-- loop.example/g00349/laws.eqConfigResult -/
def s_laws_eqConfigResult (a0 a1 : AV) (σ : AH) (R : AEnd → AH → Prop) : Prop :=
  abox a0 σ fun v2 σ =>
  abox a1 σ fun v3 σ =>
  frz v2 σ fun f2 σ =>
  frz v3 σ fun f3 σ =>
  og (fldA 0 f2) fun v5 =>
  og (lod v5 σ) fun v6 =>
  og (fldA 0 f3) fun v7 =>
  og (lod v7 σ) fun v8 =>
  og (ibin .neq v6 v8) fun v9 =>
  apick v9 (
    aret (.val (.bool false)) σ R) (
    og (fldA 1 f2) fun v10 =>
    og (lodA 4 v10 σ) fun v11 =>
    og (fldA 1 f3) fun v12 =>
    og (lodA 4 v12 σ) fun v13 =>
    acall TP fn_laws_eqConfig [v11, v13] σ (onr (fun v14 σ =>
    og (aun .not v14) fun v15 =>
    apick v15 (
      aret (.val (.bool false)) σ R) (
      aret (.val (.bool true)) σ R)) (fun v σ => apan v σ R)))
def x14 : Sx := .box (.var 1) (.box (.var 1) (.frz 2 (.var 1) (.frz 3 (.var 1) (.og (.fldA 0 (.var 1)) (.og (.lod (.var 0)) (.og (.fldA 0 (.var 2)) (.og (.lod (.var 0)) (.og (.ibin .neq (.var 2) (.var 0)) (.apick (.var 0) (.ret (.lit (.val (.bool false)))) (.og (.fldA 1 (.var 6)) (.og (.lodA 4 (.var 0)) (.og (.fldA 1 (.var 7)) (.og (.lodA 4 (.var 0)) (.call 38 [(.var 2), (.var 0)] (.og (.aun .not (.var 0)) (.apick (.var 0) (.ret (.lit (.val (.bool false)))) (.ret (.lit (.val (.bool true))))))))))))))))))))
set_option maxRecDepth 1000000 in
theorem x14_ok : okF TT Tryd.f14 2 x14 = true := by decide +kernel
set_option maxRecDepth 1000000 in
theorem s_laws_eqConfigResult_ok {a0 a1 : AV} {σ : AH} {R : AEnd → AH → Prop} (h : s_laws_eqConfigResult a0 a1 σ R) : acall TP fn_laws_eqConfigResult [a0, a1] σ R :=
  acall_okF (ρ := [a1, a0]) TT_ok Tryd.func14 rfl x14 x14_ok rfl h

/-- loop.example/g00349/laws.lwBig -/
def s_laws_lwBig (a0 : AV) (σ : AH) (R : AEnd → AH → Prop) : Prop :=
  og (lenS a0) fun v4 =>
  og (ibin .gtr v4 (.val (.int .i64 1048576))) fun v5 =>
  aret v5 σ R
def x15 : Sx := .og (.lenS (.var 0)) (.og (.ibin .gtr (.var 0) (.lit (.val (.int .i64 1048576)))) (.ret (.var 0)))
set_option maxRecDepth 1000000 in
theorem x15_ok : okF TT Tryd.f15 1 x15 = true := by decide +kernel
set_option maxRecDepth 1000000 in
theorem s_laws_lwBig_ok {a0 : AV} {σ : AH} {R : AEnd → AH → Prop} (h : s_laws_lwBig a0 σ R) : acall TP fn_laws_lwBig [a0] σ R :=
  acall_okF (ρ := [a0]) TT_ok Tryd.func15 rfl x15 x15_ok rfl h

/-- loop.example/g00349/spec.DrawParseConfig -/
def s_spec_DrawParseConfig (a0 : AV) (σ : AH) (R : AEnd → AH → Prop) : Prop :=
  acall TP fn_spec_l1Source [a0] σ (onr (fun v7 σ =>
  acall TP fn_spec_l13Draw [v7] σ (onr (fun v9 σ =>
  new [(.val (.int .i64 0)), (.val (.int .i64 0)), (.val (.bool false)), (.val (.bool false))] σ fun v4 σ =>
  sto 4 v4 v9 σ fun σ =>
  frz v4 σ fun f4 σ =>
  acall TP fn_spec_l13Text [f4] σ (onr (fun v10 σ =>
  aconv TT ty_s ty_Lb v10 σ fun v11 σ =>
  jn (X := Tup [5]) (fun x1 σ =>
      aconv TT ty_Lb ty_s x1.1 σ fun v35 σ =>
      aret v35 σ R) fun k1 =>
    acall TP fn_spec_l1Next [v7, (.val (.int .i64 4))] σ (onr (fun v13 σ =>
    og (ibin .eql v13 (.val (.int .i64 0))) fun v15 =>
    apick v15 (
      og (lenS v11) fun v19 =>
      acall TP fn_spec_l1Next [v7, v19] σ (onr (fun v20 σ =>
      bsl 1 [(.val (.int .i64 0))] 3 [(0, (.val (.int .i64 48))), (1, (.val (.int .i64 32))), (2, (.val (.int .i64 120)))] σ fun v22 σ =>
      acall TP fn_spec_l1Pick [v7, v22] σ (onr (fun v23 σ =>
      og (convI .u8 v23) fun v24 =>
      og (idx 1 v11 v20 σ) fun v25 =>
      sto 1 v25 v24 σ fun σ =>
      k1 (v11, ()) σ) (fun v σ => apan v σ R))) (fun v σ => apan v σ R))) (
      og (ibin .eql v13 (.val (.int .i64 1))) fun v27 =>
      apick v27 (
        og (lenS v11) fun v31 =>
        acall TP fn_spec_l1Next [v7, v31] σ (onr (fun v32 σ =>
        og (slc 1 v11 none (some v32) none σ) fun v33 =>
        k1 (v33, ()) σ) (fun v σ => apan v σ R))) (
        k1 (v11, ()) σ))) (fun v σ => apan v σ R))) (fun v σ => apan v σ R))) (fun v σ => apan v σ R))) (fun v σ => apan v σ R))
def x16 : Sx := .call 39 [(.var 0)] (.call 40 [(.var 0)] (.new [(.val (.int .i64 0)), (.val (.int .i64 0)), (.val (.bool false)), (.val (.bool false))] (.sto 4 (.var 0) (.var 1) (.frz 3 (.var 0) (.call 35 [(.var 0)] (.cnv 9 35 (.var 0) (.jn 63 [5] (.cnv 35 9 (.var 0) (.ret (.var 0))) (.call 41 [(.var 5), (.lit (.val (.int .i64 4)))] (.og (.ibin .eql (.var 0) (.lit (.val (.int .i64 0)))) (.apick (.var 0) (.og (.lenS (.var 2)) (.call 41 [(.var 8), (.var 0)] (.bsl 1 [(.val (.int .i64 0))] 3 [(0, (.lit (.val (.int .i64 48)))), (1, (.lit (.val (.int .i64 32)))), (2, (.lit (.val (.int .i64 120))))] (.call 42 [(.var 10), (.var 0)] (.og (.conv .u8 (.var 0)) (.og (.idx 1 (.var 7) (.var 3)) (.sto 1 (.var 0) (.var 1) (.jump 0 [(.var 8)])))))))) (.og (.ibin .eql (.var 1) (.lit (.val (.int .i64 1)))) (.apick (.var 0) (.og (.lenS (.var 3)) (.call 41 [(.var 9), (.var 0)] (.og (.slc 1 (.var 5) none (some (.var 0)) none) (.jump 0 [(.var 0)])))) (.jump 0 [(.var 3)])))))))))))))
set_option maxRecDepth 1000000 in
theorem x16_ok : okF TT Tryd.f16 1 x16 = true := by decide +kernel
set_option maxRecDepth 1000000 in
theorem s_spec_DrawParseConfig_ok {a0 : AV} {σ : AH} {R : AEnd → AH → Prop} (h : s_spec_DrawParseConfig a0 σ R) : acall TP fn_spec_DrawParseConfig [a0] σ R :=
  acall_okF (ρ := [a0]) TT_ok Tryd.func16 rfl x16 x16_ok rfl h

/-- loop.example/g00349/impl.ConfigText -/
def s_impl_ConfigText (a0 : AV) (σ : AH) (R : AEnd → AH → Prop) : Prop :=
  abox a0 σ fun v1 σ =>
  new [(.val (.int .i64 0)), (.val (.string ⟨#[]⟩))] σ fun v2 σ =>
  frz v1 σ fun f1 σ =>
  og (lodA 4 f1 σ) fun v4 =>
  acall TP fn_impl_ConfigFault [v4] σ (onr (fun v5 σ =>
  og (ibin .neq v5 (.val (.int .i64 0))) fun v7 =>
  apick v7 (
    og (bld [(.val (.int .i64 0)), (.val (.string ⟨#[]⟩))] [(0, 1), (1, 1)] [(0, v5)]) fun v9 =>
    sto 2 v2 v9 σ fun σ =>
    og (lodA 2 v2 σ) fun r2 =>
    aret r2 σ R) (
    og (lodA 4 f1 σ) fun v10 =>
    acall TP fn_impl_Config_text [v10] σ (onr (fun v11 σ =>
    og (bld [(.val (.int .i64 0)), (.val (.string ⟨#[]⟩))] [(0, 1), (1, 1)] [(1, v11)]) fun v12 =>
    sto 2 v2 v12 σ fun σ =>
    og (lodA 2 v2 σ) fun r2 =>
    aret r2 σ R) (fun v σ => apan v σ R)))) (fun v σ => apan v σ R))
def x17 : Sx := .box (.var 0) (.new [(.val (.int .i64 0)), (.val (.string ⟨#[]⟩))] (.frz 1 (.var 1) (.og (.lodA 4 (.var 0)) (.call 20 [(.var 0)] (.og (.ibin .neq (.var 0) (.lit (.val (.int .i64 0)))) (.apick (.var 0) (.og (.bld [(.val (.int .i64 0)), (.val (.string ⟨#[]⟩))] [(0, 1), (1, 1)] [(0, (.var 1))]) (.sto 2 (.var 5) (.var 0) (.og (.lodA 2 (.var 5)) (.ret (.var 0))))) (.og (.lodA 4 (.var 3)) (.call 37 [(.var 0)] (.og (.bld [(.val (.int .i64 0)), (.val (.string ⟨#[]⟩))] [(0, 1), (1, 1)] [(1, (.var 0))]) (.sto 2 (.var 7) (.var 0) (.og (.lodA 2 (.var 7)) (.ret (.var 0)))))))))))))
set_option maxRecDepth 1000000 in
theorem x17_ok : okF TT Tryd.f17 1 x17 = true := by decide +kernel
set_option maxRecDepth 1000000 in
theorem s_impl_ConfigText_ok {a0 : AV} {σ : AH} {R : AEnd → AH → Prop} (h : s_impl_ConfigText a0 σ R) : acall TP fn_impl_ConfigText [a0] σ R :=
  acall_okF (ρ := [a0]) TT_ok Tryd.func17 rfl x17 x17_ok rfl h

/-- loop.example/g00349/spec.DrawConfigText -/
def s_spec_DrawConfigText (a0 : AV) (σ : AH) (R : AEnd → AH → Prop) : Prop :=
  new [(.val (.int .i64 0)), (.val (.int .i64 0)), (.val (.bool false)), (.val (.bool false))] σ fun v2 σ =>
  acall TP fn_spec_l1Source [a0] σ (onr (fun v4 σ =>
  acall TP fn_spec_l13Bent [v4] σ (onr (fun v5 σ =>
  sto 4 v2 v5 σ fun σ =>
  og (lodA 4 v2 σ) fun r2 =>
  aret r2 σ R) (fun v σ => apan v σ R))) (fun v σ => apan v σ R))
def x18 : Sx := .new [(.val (.int .i64 0)), (.val (.int .i64 0)), (.val (.bool false)), (.val (.bool false))] (.call 39 [(.var 1)] (.call 43 [(.var 0)] (.sto 4 (.var 2) (.var 0) (.og (.lodA 4 (.var 2)) (.ret (.var 0))))))
set_option maxRecDepth 1000000 in
theorem x18_ok : okF TT Tryd.f18 1 x18 = true := by decide +kernel
set_option maxRecDepth 1000000 in
theorem s_spec_DrawConfigText_ok {a0 : AV} {σ : AH} {R : AEnd → AH → Prop} (h : s_spec_DrawConfigText a0 σ R) : acall TP fn_spec_DrawConfigText [a0] σ R :=
  acall_okF (ρ := [a0]) TT_ok Tryd.func18 rfl x18 x18_ok rfl h

/-- loop.example/g00349/spec.ConfigText -/
def s_spec_ConfigText (a0 : AV) (σ : AH) (R : AEnd → AH → Prop) : Prop :=
  abox a0 σ fun v1 σ =>
  new [(.val (.int .i64 0)), (.val (.string ⟨#[]⟩))] σ fun v2 σ =>
  frz v1 σ fun f1 σ =>
  acall TP fn_spec_l13Fault [f1] σ (onr (fun v4 σ =>
  og (ibin .neq v4 (.val (.int .i64 0))) fun v6 =>
  apick v6 (
    og (bld [(.val (.int .i64 0)), (.val (.string ⟨#[]⟩))] [(0, 1), (1, 1)] [(0, v4)]) fun v8 =>
    sto 2 v2 v8 σ fun σ =>
    og (lodA 2 v2 σ) fun r2 =>
    aret r2 σ R) (
    acall TP fn_spec_l13Text [f1] σ (onr (fun v9 σ =>
    og (bld [(.val (.int .i64 0)), (.val (.string ⟨#[]⟩))] [(0, 1), (1, 1)] [(1, v9)]) fun v10 =>
    sto 2 v2 v10 σ fun σ =>
    og (lodA 2 v2 σ) fun r2 =>
    aret r2 σ R) (fun v σ => apan v σ R)))) (fun v σ => apan v σ R))
def x19 : Sx := .box (.var 0) (.new [(.val (.int .i64 0)), (.val (.string ⟨#[]⟩))] (.frz 1 (.var 1) (.call 44 [(.var 0)] (.og (.ibin .neq (.var 0) (.lit (.val (.int .i64 0)))) (.apick (.var 0) (.og (.bld [(.val (.int .i64 0)), (.val (.string ⟨#[]⟩))] [(0, 1), (1, 1)] [(0, (.var 1))]) (.sto 2 (.var 4) (.var 0) (.og (.lodA 2 (.var 4)) (.ret (.var 0))))) (.call 35 [(.var 2)] (.og (.bld [(.val (.int .i64 0)), (.val (.string ⟨#[]⟩))] [(0, 1), (1, 1)] [(1, (.var 0))]) (.sto 2 (.var 5) (.var 0) (.og (.lodA 2 (.var 5)) (.ret (.var 0)))))))))))
set_option maxRecDepth 1000000 in
theorem x19_ok : okF TT Tryd.f19 1 x19 = true := by decide +kernel
set_option maxRecDepth 1000000 in
theorem s_spec_ConfigText_ok {a0 : AV} {σ : AH} {R : AEnd → AH → Prop} (h : s_spec_ConfigText a0 σ R) : acall TP fn_spec_ConfigText [a0] σ R :=
  acall_okF (ρ := [a0]) TT_ok Tryd.func19 rfl x19 x19_ok rfl h

/-- loop.example/g00349/impl.ConfigFault -/
def s_impl_ConfigFault (a0 : AV) (σ : AH) (R : AEnd → AH → Prop) : Prop :=
  abox a0 σ fun v1 σ =>
  jn (X := Tup [12]) (fun x1 σ =>
      apick x1.1 (
        aret (.val (.int .i64 3)) σ R) (
        aret (.val (.int .i64 0)) σ R)) fun k1 =>
    frz v1 σ fun f1 σ =>
    og (fldA 0 f1) fun v3 =>
    og (lod v3 σ) fun v4 =>
    acall TP fn_impl_isSize [v4] σ (onr (fun v5 σ =>
    og (aun .not v5) fun v6 =>
    og (gval v6 false false (fldA 1 f1)) fun v8 =>
    og (gval v6 false false (lod v8 σ)) fun v9 =>
    gpick v6 (
      k1 ((.val (.bool true)), ()) σ) (
      acall TP fn_impl_TableFault [v9] σ (onr (fun v10 σ =>
      og (ibin .neq v10 (.val (.int .i64 0))) fun v11 =>
      k1 (v11, ()) σ) (fun v σ => apan v σ R))) (False)) (fun v σ => apan v σ R))
def x20 : Sx := .box (.var 0) (.jn 13 [12] (.apick (.var 0) (.ret (.lit (.val (.int .i64 3)))) (.ret (.lit (.val (.int .i64 0))))) (.frz 1 (.var 0) (.og (.fldA 0 (.var 0)) (.og (.lod (.var 0)) (.call 45 [(.var 0)] (.og (.aun .not (.var 0)) (.gog (.var 0) false false (.fldA 1 (.var 4)) (.gog (.var 1) false false (.lod (.var 0)) (.gpick (.var 2) (.jump 0 [(.lit (.val (.bool true)))]) (.call 46 [(.var 0)] (.og (.ibin .neq (.var 0) (.lit (.val (.int .i64 0)))) (.jump 0 [(.var 0)]))) (.no))))))))))
set_option maxRecDepth 1000000 in
theorem x20_ok : okF TT Tryd.f20 1 x20 = true := by decide +kernel
set_option maxRecDepth 1000000 in
theorem s_impl_ConfigFault_ok {a0 : AV} {σ : AH} {R : AEnd → AH → Prop} (h : s_impl_ConfigFault a0 σ R) : acall TP fn_impl_ConfigFault [a0] σ R :=
  acall_okF (ρ := [a0]) TT_ok Tryd.func20 rfl x20 x20_ok rfl h

/-- loop.example/g00349/spec.CommandOf -/
def s_spec_CommandOf (a0 : AV) (σ : AH) (R : AEnd → AH → Prop) : Prop :=
  new [(.val (.int .i64 0)), (.val (.int .i64 0)), (.val (.int .i64 0)), (.val (.string ⟨#[]⟩))] σ fun v2 σ =>
  og (lenStr a0) fun v10 =>
  og (ibin .eql v10 (.val (.int .i64 0))) fun v11 =>
  og (gval v11 false false (some a0)) fun v13 =>
  og (gval v11 false false (idxStr v13 (.val (.int .i64 0)))) fun v14 =>
  og (gval v11 false false (ibin .neq v14 (.val (.int .u8 58)))) fun v15 =>
  og (pickV v11 (.val (.bool true)) v15) fun v16 =>
  apick v16 (
    og (bld [(.val (.int .i64 0)), (.val (.int .i64 0)), (.val (.int .i64 0)), (.val (.string ⟨#[]⟩))] [(0, 1), (1, 1), (2, 1), (3, 1)] [(1, (.val (.int .i64 1))), (3, a0)]) fun v18 =>
    sto 4 v2 v18 σ fun σ =>
    og (lodA 4 v2 σ) fun r2 =>
    aret r2 σ R) (
    lp (X := Tup [0, 2, 3]) (fun R1 y1 σ =>
      og (lenStr y1.1) fun v21 =>
      og (ibin .lss y1.2.2.1 v21) fun v22 =>
      og (gval v22 true false (some y1.1)) fun v24 =>
      og (gval v22 true false (some y1.2.2.1)) fun v25 =>
      og (gval v22 true false (idxStr v24 v25)) fun v26 =>
      og (gval v22 true false (ibin .neq v26 (.val (.int .u8 32)))) fun v27 =>
      og (pickV v22 v27 (.val (.bool false))) fun v28 =>
      apick v28 (
        og (ibin .add y1.2.2.1 (.val (.int .i64 1))) fun v30 =>
        R1 (y1.1, y1.2.1, v30, ()) σ) (
        og (slcStr y1.1 none (some y1.2.2.1)) fun v33 =>
        acall TP fn_spec_l15Kind [v33] σ (onr (fun v34 σ =>
        og (ibin .eql v34 (.val (.int .i64 0))) fun v36 =>
        apick v36 (
          og (bld [(.val (.int .i64 0)), (.val (.int .i64 0)), (.val (.int .i64 0)), (.val (.string ⟨#[]⟩))] [(0, 1), (1, 1), (2, 1), (3, 1)] [(0, (.val (.int .i64 5)))]) fun v37 =>
          sto 4 y1.2.1 v37 σ fun σ =>
          og (lodA 4 y1.2.1 σ) fun r2 =>
          aret r2 σ R) (
          lp (X := Tup [0, 2, 3, 4]) (fun R2 y2 σ =>
            og (lenStr y2.1) fun v40 =>
            og (ibin .lss y2.2.2.1 v40) fun v41 =>
            og (gval v41 true false (some y2.1)) fun v43 =>
            og (gval v41 true false (some y2.2.2.1)) fun v44 =>
            og (gval v41 true false (idxStr v43 v44)) fun v45 =>
            og (gval v41 true false (ibin .eql v45 (.val (.int .u8 32)))) fun v46 =>
            og (pickV v41 v46 (.val (.bool false))) fun v47 =>
            apick v47 (
              og (ibin .add y2.2.2.1 (.val (.int .i64 1))) fun v49 =>
              R2 (y2.1, y2.2.1, v49, y2.2.2.2.1, ()) σ) (
              og (ibin .geq y2.2.2.2.1 (.val (.int .i64 7))) fun v51 =>
              apick v51 (
                og (slcStr y2.1 (some y2.2.2.1) none) fun v55 =>
                og (bld [(.val (.int .i64 0)), (.val (.int .i64 0)), (.val (.int .i64 0)), (.val (.string ⟨#[]⟩))] [(0, 1), (1, 1), (2, 1), (3, 1)] [(1, y2.2.2.2.1), (3, v55)]) fun v56 =>
                sto 4 y2.2.1 v56 σ fun σ =>
                og (lodA 4 y2.2.1 σ) fun r2 =>
                aret r2 σ R) (
                og (slcStr y2.1 (some y2.2.2.1) none) fun v60 =>
                acall TP fn_spec_l1Parse [v60] σ (onr (fun v61 σ =>
                og (aext v61 0) fun v62 =>
                og (aext v61 1) fun v63 =>
                og (aun .not v63) fun v65 =>
                apick v65 (
                  og (bld [(.val (.int .i64 0)), (.val (.int .i64 0)), (.val (.int .i64 0)), (.val (.string ⟨#[]⟩))] [(0, 1), (1, 1), (2, 1), (3, 1)] [(0, (.val (.int .i64 5)))]) fun v66 =>
                  sto 4 y2.2.1 v66 σ fun σ =>
                  og (lodA 4 y2.2.1 σ) fun r2 =>
                  aret r2 σ R) (
                  acall TP fn_spec_l15Bounds [y2.2.2.2.1] σ (onr (fun v69 σ =>
                  og (aext v69 0) fun v70 =>
                  og (aext v69 1) fun v71 =>
                  acall TP fn_spec_l1In [v62, v70, v71] σ (onr (fun v75 σ =>
                  og (aun .not v75) fun v76 =>
                  apick v76 (
                    og (bld [(.val (.int .i64 0)), (.val (.int .i64 0)), (.val (.int .i64 0)), (.val (.string ⟨#[]⟩))] [(0, 1), (1, 1), (2, 1), (3, 1)] [(0, (.val (.int .i64 3)))]) fun v77 =>
                    sto 4 y2.2.1 v77 σ fun σ =>
                    og (lodA 4 y2.2.1 σ) fun r2 =>
                    aret r2 σ R) (
                    og (bld [(.val (.int .i64 0)), (.val (.int .i64 0)), (.val (.int .i64 0)), (.val (.string ⟨#[]⟩))] [(0, 1), (1, 1), (2, 1), (3, 1)] [(1, y2.2.2.2.1), (2, v62)]) fun v80 =>
                    sto 4 y2.2.1 v80 σ fun σ =>
                    og (lodA 4 y2.2.1 σ) fun r2 =>
                    aret r2 σ R)) (fun v σ => apan v σ R))) (fun v σ => apan v σ R)))) (fun v σ => apan v σ R))))) (y1.1, y1.2.1, y1.2.2.1, v34, ()) σ)) (fun v σ => apan v σ R)))) (a0, v2, (.val (.int .i64 0)), ()) σ)
def x21 : Sx := .new [(.val (.int .i64 0)), (.val (.int .i64 0)), (.val (.int .i64 0)), (.val (.string ⟨#[]⟩))] (.og (.lenStr (.var 1)) (.og (.ibin .eql (.var 0) (.lit (.val (.int .i64 0)))) (.gog (.var 0) false false (.ret (.var 3)) (.gog (.var 1) false false (.idxStr (.var 0) (.lit (.val (.int .i64 0)))) (.gog (.var 2) false false (.ibin .neq (.var 0) (.lit (.val (.int .u8 58)))) (.og (.pickV (.var 3) (.lit (.val (.bool true))) (.var 0)) (.apick (.var 0) (.og (.bld [(.val (.int .i64 0)), (.val (.int .i64 0)), (.val (.int .i64 0)), (.val (.string ⟨#[]⟩))] [(0, 1), (1, 1), (2, 1), (3, 1)] [(1, (.lit (.val (.int .i64 1)))), (3, (.var 7))]) (.sto 4 (.var 7) (.var 0) (.og (.lodA 4 (.var 7)) (.ret (.var 0))))) (.lp [0, 2, 3] (.og (.lenStr (.var 0)) (.og (.ibin .lss (.var 3) (.var 0)) (.gog (.var 0) true false (.ret (.var 2)) (.gog (.var 1) true false (.ret (.var 5)) (.gog (.var 2) true false (.idxStr (.var 1) (.var 0)) (.gog (.var 3) true false (.ibin .neq (.var 0) (.lit (.val (.int .u8 32)))) (.og (.pickV (.var 4) (.var 0) (.lit (.val (.bool false)))) (.apick (.var 0) (.og (.ibin .add (.var 9) (.lit (.val (.int .i64 1)))) (.jump 0 [(.var 8), (.var 9), (.var 0)])) (.og (.slcStr (.var 7) none (some (.var 9))) (.call 47 [(.var 0)] (.og (.ibin .eql (.var 0) (.lit (.val (.int .i64 0)))) (.apick (.var 0) (.og (.bld [(.val (.int .i64 0)), (.val (.int .i64 0)), (.val (.int .i64 0)), (.val (.string ⟨#[]⟩))] [(0, 1), (1, 1), (2, 1), (3, 1)] [(0, (.lit (.val (.int .i64 5))))]) (.sto 4 (.var 12) (.var 0) (.og (.lodA 4 (.var 12)) (.ret (.var 0))))) (.lp [0, 2, 3, 4] (.og (.lenStr (.var 0)) (.og (.ibin .lss (.var 3) (.var 0)) (.gog (.var 0) true false (.ret (.var 2)) (.gog (.var 1) true false (.ret (.var 5)) (.gog (.var 2) true false (.idxStr (.var 1) (.var 0)) (.gog (.var 3) true false (.ibin .eql (.var 0) (.lit (.val (.int .u8 32)))) (.og (.pickV (.var 4) (.var 0) (.lit (.val (.bool false)))) (.apick (.var 0) (.og (.ibin .add (.var 9) (.lit (.val (.int .i64 1)))) (.jump 0 [(.var 8), (.var 9), (.var 0), (.var 11)])) (.og (.ibin .geq (.var 10) (.lit (.val (.int .i64 7)))) (.apick (.var 0) (.og (.slcStr (.var 8) (some (.var 10)) none) (.og (.bld [(.val (.int .i64 0)), (.val (.int .i64 0)), (.val (.int .i64 0)), (.val (.string ⟨#[]⟩))] [(0, 1), (1, 1), (2, 1), (3, 1)] [(1, (.var 12)), (3, (.var 0))]) (.sto 4 (.var 11) (.var 0) (.og (.lodA 4 (.var 11)) (.ret (.var 0)))))) (.og (.slcStr (.var 8) (some (.var 10)) none) (.call 48 [(.var 0)] (.og (.aext (.var 0) 0) (.og (.aext (.var 1) 1) (.og (.aun .not (.var 0)) (.apick (.var 0) (.og (.bld [(.val (.int .i64 0)), (.val (.int .i64 0)), (.val (.int .i64 0)), (.val (.string ⟨#[]⟩))] [(0, 1), (1, 1), (2, 1), (3, 1)] [(0, (.lit (.val (.int .i64 5))))]) (.sto 4 (.var 15) (.var 0) (.og (.lodA 4 (.var 15)) (.ret (.var 0))))) (.call 49 [(.var 16)] (.og (.aext (.var 0) 0) (.og (.aext (.var 1) 1) (.call 50 [(.var 5), (.var 1), (.var 0)] (.og (.aun .not (.var 0)) (.apick (.var 0) (.og (.bld [(.val (.int .i64 0)), (.val (.int .i64 0)), (.val (.int .i64 0)), (.val (.string ⟨#[]⟩))] [(0, 1), (1, 1), (2, 1), (3, 1)] [(0, (.lit (.val (.int .i64 3))))]) (.sto 4 (.var 20) (.var 0) (.og (.lodA 4 (.var 20)) (.ret (.var 0))))) (.og (.bld [(.val (.int .i64 0)), (.val (.int .i64 0)), (.val (.int .i64 0)), (.val (.string ⟨#[]⟩))] [(0, 1), (1, 1), (2, 1), (3, 1)] [(1, (.var 21)), (2, (.var 7))]) (.sto 4 (.var 20) (.var 0) (.og (.lodA 4 (.var 20)) (.ret (.var 0))))))))))))))))))))))))))) [(.var 10), (.var 11), (.var 12), (.var 1)]))))))))))))) [(.var 7), (.var 6), (.lit (.val (.int .i64 0)))]))))))))
set_option maxRecDepth 1000000 in
theorem x21_ok : okF TT Tryd.f21 1 x21 = true := by decide +kernel
set_option maxRecDepth 1000000 in
theorem s_spec_CommandOf_ok {a0 : AV} {σ : AH} {R : AEnd → AH → Prop} (h : s_spec_CommandOf a0 σ R) : acall TP fn_spec_CommandOf [a0] σ R :=
  acall_okF (ρ := [a0]) TT_ok Tryd.func21 rfl x21 x21_ok rfl h

/-- loop.example/g00349/impl.CommandOf -/
def s_impl_CommandOf (a0 : AV) (σ : AH) (R : AEnd → AH → Prop) : Prop :=
  new [(.val (.int .i64 0)), (.val (.int .i64 0)), (.val (.int .i64 0)), (.val (.string ⟨#[]⟩))] σ fun v2 σ =>
  acall TP fn_strings_HasPrefix [a0, (.val (.string ⟨#[58]⟩))] σ (onr (fun v11 σ =>
  og (aun .not v11) fun v12 =>
  apick v12 (
    og (bld [(.val (.int .i64 0)), (.val (.int .i64 0)), (.val (.int .i64 0)), (.val (.string ⟨#[]⟩))] [(0, 1), (1, 1), (2, 1), (3, 1)] [(1, (.val (.int .i64 1))), (3, a0)]) fun v14 =>
    sto 4 v2 v14 σ fun σ =>
    og (lodA 4 v2 σ) fun r2 =>
    aret r2 σ R) (
    acall TP fn_strings_Cut [a0, (.val (.string ⟨#[32]⟩))] σ (onr (fun v17 σ =>
    og (aext v17 0) fun v18 =>
    og (aext v17 1) fun v19 =>
    og (aext v17 2) fun v20 =>
    acall TP fn_strings_TrimLeft [v19, (.val (.string ⟨#[32]⟩))] σ (onr (fun v22 σ =>
    jn (X := Tup [2, 4, 6, 7, 8]) (fun x1 σ =>
        acall TP fn_impl_ParseNum [x1.2.1] σ (onr (fun v43 σ =>
        new [(.val (.int .i64 0)), (.val (.int .i64 0))] σ fun v9 σ =>
        sto 2 v9 v43 σ fun σ =>
        frz v9 σ fun f9 σ =>
        og (ibin .eql x1.2.2.2.2.1 (.val (.int .i64 0))) fun v46 =>
        og (gval v46 false false (fldA 0 f9)) fun v48 =>
        og (gval v46 false false (lod v48 σ)) fun v49 =>
        og (gval v46 false false (ibin .neq v49 (.val (.int .i64 0)))) fun v50 =>
        og (pickV v46 (.val (.bool true)) v50) fun v51 =>
        apick v51 (
          og (bld [(.val (.int .i64 0)), (.val (.int .i64 0)), (.val (.int .i64 0)), (.val (.string ⟨#[]⟩))] [(0, 1), (1, 1), (2, 1), (3, 1)] [(0, (.val (.int .i64 5)))]) fun v52 =>
          sto 4 x1.1 v52 σ fun σ =>
          og (lodA 4 x1.1 σ) fun r2 =>
          aret r2 σ R) (
          og (fldA 1 f9) fun v54 =>
          og (lod v54 σ) fun v55 =>
          acall TP fn_impl_in [v55, x1.2.2.1, x1.2.2.2.1] σ (onr (fun v58 σ =>
          og (aun .not v58) fun v59 =>
          apick v59 (
            og (bld [(.val (.int .i64 0)), (.val (.int .i64 0)), (.val (.int .i64 0)), (.val (.string ⟨#[]⟩))] [(0, 1), (1, 1), (2, 1), (3, 1)] [(0, (.val (.int .i64 3)))]) fun v60 =>
            sto 4 x1.1 v60 σ fun σ =>
            og (lodA 4 x1.1 σ) fun r2 =>
            aret r2 σ R) (
            og (fldA 1 f9) fun v62 =>
            og (lod v62 σ) fun v63 =>
            og (bld [(.val (.int .i64 0)), (.val (.int .i64 0)), (.val (.int .i64 0)), (.val (.string ⟨#[]⟩))] [(0, 1), (1, 1), (2, 1), (3, 1)] [(1, x1.2.2.2.2.1), (2, v63)]) fun v64 =>
            sto 4 x1.1 v64 σ fun σ =>
            og (lodA 4 x1.1 σ) fun r2 =>
            aret r2 σ R)) (fun v σ => apan v σ R)))) (fun v σ => apan v σ R))) fun k1 =>
      og (sbin .eql v18 (.val (.string ⟨#[58, 99, 111, 114, 101]⟩))) fun v25 =>
      apick v25 (
        og (bld [(.val (.int .i64 0)), (.val (.int .i64 0)), (.val (.int .i64 0)), (.val (.string ⟨#[]⟩))] [(0, 1), (1, 1), (2, 1), (3, 1)] [(1, (.val (.int .i64 7))), (3, v22)]) fun v27 =>
        sto 4 v2 v27 σ fun σ =>
        og (lodA 4 v2 σ) fun r2 =>
        aret r2 σ R) (
        og (sbin .eql v18 (.val (.string ⟨#[58, 99, 111, 100, 101]⟩))) fun v29 =>
        apick v29 (
          og (bld [(.val (.int .i64 0)), (.val (.int .i64 0)), (.val (.int .i64 0)), (.val (.string ⟨#[]⟩))] [(0, 1), (1, 1), (2, 1), (3, 1)] [(1, (.val (.int .i64 8))), (3, v22)]) fun v31 =>
          sto 4 v2 v31 σ fun σ =>
          og (lodA 4 v2 σ) fun r2 =>
          aret r2 σ R) (
          og (sbin .eql v18 (.val (.string ⟨#[58, 115, 101, 103]⟩))) fun v33 =>
          apick v33 (
            k1 (v2, v22, (.val (.int .i64 1)), (.val (.int .i64 64)), (.val (.int .i64 2)), ()) σ) (
            og (sbin .eql v18 (.val (.string ⟨#[58, 116, 97, 98, 108, 101]⟩))) fun v35 =>
            apick v35 (
              k1 (v2, v22, (.val (.int .i64 0)), (.val (.int .i64 15)), (.val (.int .i64 3)), ()) σ) (
              og (sbin .eql v18 (.val (.string ⟨#[58, 112, 101, 101, 112]⟩))) fun v37 =>
              apick v37 (
                k1 (v2, v22, (.val (.int .i64 0)), (.val (.int .i64 1)), (.val (.int .i64 4)), ()) σ) (
                og (sbin .eql v18 (.val (.string ⟨#[58, 99, 97, 99, 104, 101]⟩))) fun v39 =>
                apick v39 (
                  k1 (v2, v22, (.val (.int .i64 0)), (.val (.int .i64 1)), (.val (.int .i64 5)), ()) σ) (
                  og (sbin .eql v18 (.val (.string ⟨#[58, 102, 117, 101, 108]⟩))) fun v41 =>
                  apick v41 (
                    k1 (v2, v22, (.val (.int .i64 0)), (.val (.int .i64 400)), (.val (.int .i64 6)), ()) σ) (
                    k1 (v2, v22, (.val (.int .i64 0)), (.val (.int .i64 1)), (.val (.int .i64 0)), ()) σ)))))))) (fun v σ => apan v σ R))) (fun v σ => apan v σ R)))) (fun v σ => apan v σ R))
def x22 : Sx := .new [(.val (.int .i64 0)), (.val (.int .i64 0)), (.val (.int .i64 0)), (.val (.string ⟨#[]⟩))] (.call 51 [(.var 1), (.lit (.val (.string ⟨#[58]⟩)))] (.og (.aun .not (.var 0)) (.apick (.var 0) (.og (.bld [(.val (.int .i64 0)), (.val (.int .i64 0)), (.val (.int .i64 0)), (.val (.string ⟨#[]⟩))] [(0, 1), (1, 1), (2, 1), (3, 1)] [(1, (.lit (.val (.int .i64 1)))), (3, (.var 3))]) (.sto 4 (.var 3) (.var 0) (.og (.lodA 4 (.var 3)) (.ret (.var 0))))) (.call 52 [(.var 3), (.lit (.val (.string ⟨#[32]⟩)))] (.og (.aext (.var 0) 0) (.og (.aext (.var 1) 1) (.og (.aext (.var 2) 2) (.call 53 [(.var 1), (.lit (.val (.string ⟨#[32]⟩)))] (.jn 127 [2, 4, 6, 7, 8] (.call 36 [(.var 1)] (.new [(.val (.int .i64 0)), (.val (.int .i64 0))] (.sto 2 (.var 0) (.var 1) (.frz 6 (.var 0) (.og (.ibin .eql (.var 7) (.lit (.val (.int .i64 0)))) (.gog (.var 0) false false (.fldA 0 (.var 1)) (.gog (.var 1) false false (.lod (.var 0)) (.gog (.var 2) false false (.ibin .neq (.var 0) (.lit (.val (.int .i64 0)))) (.og (.pickV (.var 3) (.lit (.val (.bool true))) (.var 0)) (.apick (.var 0) (.og (.bld [(.val (.int .i64 0)), (.val (.int .i64 0)), (.val (.int .i64 0)), (.val (.string ⟨#[]⟩))] [(0, 1), (1, 1), (2, 1), (3, 1)] [(0, (.lit (.val (.int .i64 5))))]) (.sto 4 (.var 9) (.var 0) (.og (.lodA 4 (.var 9)) (.ret (.var 0))))) (.og (.fldA 1 (.var 5)) (.og (.lod (.var 0)) (.call 54 [(.var 0), (.var 12), (.var 13)] (.og (.aun .not (.var 0)) (.apick (.var 0) (.og (.bld [(.val (.int .i64 0)), (.val (.int .i64 0)), (.val (.int .i64 0)), (.val (.string ⟨#[]⟩))] [(0, 1), (1, 1), (2, 1), (3, 1)] [(0, (.lit (.val (.int .i64 3))))]) (.sto 4 (.var 13) (.var 0) (.og (.lodA 4 (.var 13)) (.ret (.var 0))))) (.og (.fldA 1 (.var 9)) (.og (.lod (.var 0)) (.og (.bld [(.val (.int .i64 0)), (.val (.int .i64 0)), (.val (.int .i64 0)), (.val (.string ⟨#[]⟩))] [(0, 1), (1, 1), (2, 1), (3, 1)] [(1, (.var 18)), (2, (.var 0))]) (.sto 4 (.var 15) (.var 0) (.og (.lodA 4 (.var 15)) (.ret (.var 0)))))))))))))))))))))) (.og (.sbin .eql (.var 3) (.lit (.val (.string ⟨#[58, 99, 111, 114, 101]⟩)))) (.apick (.var 0) (.og (.bld [(.val (.int .i64 0)), (.val (.int .i64 0)), (.val (.int .i64 0)), (.val (.string ⟨#[]⟩))] [(0, 1), (1, 1), (2, 1), (3, 1)] [(1, (.lit (.val (.int .i64 7)))), (3, (.var 1))]) (.sto 4 (.var 9) (.var 0) (.og (.lodA 4 (.var 9)) (.ret (.var 0))))) (.og (.sbin .eql (.var 4) (.lit (.val (.string ⟨#[58, 99, 111, 100, 101]⟩)))) (.apick (.var 0) (.og (.bld [(.val (.int .i64 0)), (.val (.int .i64 0)), (.val (.int .i64 0)), (.val (.string ⟨#[]⟩))] [(0, 1), (1, 1), (2, 1), (3, 1)] [(1, (.lit (.val (.int .i64 8)))), (3, (.var 2))]) (.sto 4 (.var 10) (.var 0) (.og (.lodA 4 (.var 10)) (.ret (.var 0))))) (.og (.sbin .eql (.var 5) (.lit (.val (.string ⟨#[58, 115, 101, 103]⟩)))) (.apick (.var 0) (.jump 0 [(.var 10), (.var 3), (.lit (.val (.int .i64 1))), (.lit (.val (.int .i64 64))), (.lit (.val (.int .i64 2)))]) (.og (.sbin .eql (.var 6) (.lit (.val (.string ⟨#[58, 116, 97, 98, 108, 101]⟩)))) (.apick (.var 0) (.jump 0 [(.var 11), (.var 4), (.lit (.val (.int .i64 0))), (.lit (.val (.int .i64 15))), (.lit (.val (.int .i64 3)))]) (.og (.sbin .eql (.var 7) (.lit (.val (.string ⟨#[58, 112, 101, 101, 112]⟩)))) (.apick (.var 0) (.jump 0 [(.var 12), (.var 5), (.lit (.val (.int .i64 0))), (.lit (.val (.int .i64 1))), (.lit (.val (.int .i64 4)))]) (.og (.sbin .eql (.var 8) (.lit (.val (.string ⟨#[58, 99, 97, 99, 104, 101]⟩)))) (.apick (.var 0) (.jump 0 [(.var 13), (.var 6), (.lit (.val (.int .i64 0))), (.lit (.val (.int .i64 1))), (.lit (.val (.int .i64 5)))]) (.og (.sbin .eql (.var 9) (.lit (.val (.string ⟨#[58, 102, 117, 101, 108]⟩)))) (.apick (.var 0) (.jump 0 [(.var 14), (.var 7), (.lit (.val (.int .i64 0))), (.lit (.val (.int .i64 400))), (.lit (.val (.int .i64 6)))]) (.jump 0 [(.var 14), (.var 7), (.lit (.val (.int .i64 0))), (.lit (.val (.int .i64 1))), (.lit (.val (.int .i64 0)))]))))))))))))))))))))))))
set_option maxRecDepth 1000000 in
theorem x22_ok : okF TT Tryd.f22 1 x22 = true := by decide +kernel
set_option maxRecDepth 1000000 in
theorem s_impl_CommandOf_ok {a0 : AV} {σ : AH} {R : AEnd → AH → Prop} (h : s_impl_CommandOf a0 σ R) : acall TP fn_impl_CommandOf [a0] σ R :=
  acall_okF (ρ := [a0]) TT_ok Tryd.func22 rfl x22 x22_ok rfl h

/-- loop.example/g00349/laws.eqCommandResult -/
def s_laws_eqCommandResult (a0 a1 : AV) (σ : AH) (R : AEnd → AH → Prop) : Prop :=
  abox a0 σ fun v2 σ =>
  abox a1 σ fun v3 σ =>
  frz v2 σ fun f2 σ =>
  frz v3 σ fun f3 σ =>
  og (fldA 0 f2) fun v5 =>
  og (lod v5 σ) fun v6 =>
  og (fldA 0 f3) fun v7 =>
  og (lod v7 σ) fun v8 =>
  og (ibin .neq v6 v8) fun v9 =>
  apick v9 (
    aret (.val (.bool false)) σ R) (
    og (fldA 1 f2) fun v10 =>
    og (lod v10 σ) fun v11 =>
    og (fldA 1 f3) fun v12 =>
    og (lod v12 σ) fun v13 =>
    og (ibin .neq v11 v13) fun v14 =>
    apick v14 (
      aret (.val (.bool false)) σ R) (
      og (fldA 2 f2) fun v15 =>
      og (lod v15 σ) fun v16 =>
      og (fldA 2 f3) fun v17 =>
      og (lod v17 σ) fun v18 =>
      og (ibin .neq v16 v18) fun v19 =>
      apick v19 (
        aret (.val (.bool false)) σ R) (
        og (fldA 3 f2) fun v20 =>
        og (lod v20 σ) fun v21 =>
        og (fldA 3 f3) fun v22 =>
        og (lod v22 σ) fun v23 =>
        og (sbin .neq v21 v23) fun v24 =>
        apick v24 (
          aret (.val (.bool false)) σ R) (
          aret (.val (.bool true)) σ R))))
def x23 : Sx := .box (.var 1) (.box (.var 1) (.frz 2 (.var 1) (.frz 3 (.var 1) (.og (.fldA 0 (.var 1)) (.og (.lod (.var 0)) (.og (.fldA 0 (.var 2)) (.og (.lod (.var 0)) (.og (.ibin .neq (.var 2) (.var 0)) (.apick (.var 0) (.ret (.lit (.val (.bool false)))) (.og (.fldA 1 (.var 6)) (.og (.lod (.var 0)) (.og (.fldA 1 (.var 7)) (.og (.lod (.var 0)) (.og (.ibin .neq (.var 2) (.var 0)) (.apick (.var 0) (.ret (.lit (.val (.bool false)))) (.og (.fldA 2 (.var 11)) (.og (.lod (.var 0)) (.og (.fldA 2 (.var 12)) (.og (.lod (.var 0)) (.og (.ibin .neq (.var 2) (.var 0)) (.apick (.var 0) (.ret (.lit (.val (.bool false)))) (.og (.fldA 3 (.var 16)) (.og (.lod (.var 0)) (.og (.fldA 3 (.var 17)) (.og (.lod (.var 0)) (.og (.sbin .neq (.var 2) (.var 0)) (.apick (.var 0) (.ret (.lit (.val (.bool false)))) (.ret (.lit (.val (.bool true)))))))))))))))))))))))))))))))
set_option maxRecDepth 1000000 in
theorem x23_ok : okF TT Tryd.f23 2 x23 = true := by decide +kernel
set_option maxRecDepth 1000000 in
theorem s_laws_eqCommandResult_ok {a0 a1 : AV} {σ : AH} {R : AEnd → AH → Prop} (h : s_laws_eqCommandResult a0 a1 σ R) : acall TP fn_laws_eqCommandResult [a0, a1] σ R :=
  acall_okF (ρ := [a1, a0]) TT_ok Tryd.func23 rfl x23 x23_ok rfl h

/-- loop.example/g00349/spec.l15Blank -/
def s_spec_l15Blank (a0 : AV) (σ : AH) (R : AEnd → AH → Prop) : Prop :=
  lp (X := Tup [0, 3]) (fun R1 y1 σ =>
    og (lenStr y1.1) fun v6 =>
    og (ibin .lss y1.2.1 v6) fun v7 =>
    apick v7 (
      og (idxStr y1.1 y1.2.1) fun v12 =>
      og (ibin .neq v12 (.val (.int .u8 32))) fun v13 =>
      apick v13 (
        aret (.val (.bool false)) σ R) (
        og (ibin .add y1.2.1 (.val (.int .i64 1))) fun v9 =>
        R1 (y1.1, v9, ()) σ)) (
      aret (.val (.bool true)) σ R)) (a0, (.val (.int .i64 0)), ()) σ
def x24 : Sx := .lp [0, 3] (.og (.lenStr (.var 0)) (.og (.ibin .lss (.var 2) (.var 0)) (.apick (.var 0) (.og (.idxStr (.var 2) (.var 3)) (.og (.ibin .neq (.var 0) (.lit (.val (.int .u8 32)))) (.apick (.var 0) (.ret (.lit (.val (.bool false)))) (.og (.ibin .add (.var 5) (.lit (.val (.int .i64 1)))) (.jump 0 [(.var 5), (.var 0)]))))) (.ret (.lit (.val (.bool true))))))) [(.var 0), (.lit (.val (.int .i64 0)))]
set_option maxRecDepth 1000000 in
theorem x24_ok : okF TT Tryd.f24 1 x24 = true := by decide +kernel
set_option maxRecDepth 1000000 in
theorem s_spec_l15Blank_ok {a0 : AV} {σ : AH} {R : AEnd → AH → Prop} (h : s_spec_l15Blank a0 σ R) : acall TP fn_spec_l15Blank [a0] σ R :=
  acall_okF (ρ := [a0]) TT_ok Tryd.func24 rfl x24 x24_ok rfl h

/-- loop.example/g00349/spec.LinesFault -/
def s_spec_LinesFault (a0 a1 : AV) (σ : AH) (R : AEnd → AH → Prop) : Prop :=
  og (lenS a0) fun v7 =>
  og (ibin .gtr v7 (.val (.int .i64 12))) fun v8 =>
  apick v8 (
    aret (.val (.int .i64 2)) σ R) (
    acall TP fn_spec_l1In [a1, (.val (.int .i64 0)), (.val (.int .i64 400))] σ (onr (fun v10 σ =>
    og (aun .not v10) fun v11 =>
    apick v11 (
      aret (.val (.int .i64 3)) σ R) (
      lp (X := Tup [0, 5]) (fun R1 y1 σ =>
        og (lenS y1.1) fun v14 =>
        og (ibin .lss y1.2.1 v14) fun v15 =>
        apick v15 (
          og (idx 1 y1.1 y1.2.1 σ) fun v20 =>
          og (lod v20 σ) fun v21 =>
          og (lenStr v21) fun v22 =>
          og (ibin .gtr v22 (.val (.int .i64 400))) fun v23 =>
          apick v23 (
            aret (.val (.int .i64 2)) σ R) (
            og (ibin .add y1.2.1 (.val (.int .i64 1))) fun v17 =>
            R1 (y1.1, v17, ()) σ)) (
          aret (.val (.int .i64 0)) σ R)) (a0, (.val (.int .i64 0)), ()) σ)) (fun v σ => apan v σ R)))
def x25 : Sx := .og (.lenS (.var 1)) (.og (.ibin .gtr (.var 0) (.lit (.val (.int .i64 12)))) (.apick (.var 0) (.ret (.lit (.val (.int .i64 2)))) (.call 50 [(.var 2), (.lit (.val (.int .i64 0))), (.lit (.val (.int .i64 400)))] (.og (.aun .not (.var 0)) (.apick (.var 0) (.ret (.lit (.val (.int .i64 3)))) (.lp [0, 5] (.og (.lenS (.var 0)) (.og (.ibin .lss (.var 2) (.var 0)) (.apick (.var 0) (.og (.idx 1 (.var 2) (.var 3)) (.og (.lod (.var 0)) (.og (.lenStr (.var 0)) (.og (.ibin .gtr (.var 0) (.lit (.val (.int .i64 400)))) (.apick (.var 0) (.ret (.lit (.val (.int .i64 2)))) (.og (.ibin .add (.var 7) (.lit (.val (.int .i64 1)))) (.jump 0 [(.var 7), (.var 0)]))))))) (.ret (.lit (.val (.int .i64 0))))))) [(.var 5), (.lit (.val (.int .i64 0)))]))))))
set_option maxRecDepth 1000000 in
theorem x25_ok : okF TT Tryd.f25 2 x25 = true := by decide +kernel
set_option maxRecDepth 1000000 in
theorem s_spec_LinesFault_ok {a0 a1 : AV} {σ : AH} {R : AEnd → AH → Prop} (h : s_spec_LinesFault a0 a1 σ R) : acall TP fn_spec_LinesFault [a0, a1] σ R :=
  acall_okF (ρ := [a1, a0]) TT_ok Tryd.func25 rfl x25 x25_ok rfl h

/-- loop.example/g00349/impl.LoopLines$1 -/
def s_impl_LoopLines_1 (a0 : AV) (σ : AH) (R : AEnd → AH → Prop) : Prop :=
  acall TP fn_strings_Trim [a0, (.val (.string ⟨#[32]⟩))] σ (onr (fun v4 σ =>
  og (sbin .eql v4 (.val (.string ⟨#[]⟩))) fun v5 =>
  aret v5 σ R) (fun v σ => apan v σ R))
def x28 : Sx := .call 29 [(.var 0), (.lit (.val (.string ⟨#[32]⟩)))] (.og (.sbin .eql (.var 0) (.lit (.val (.string ⟨#[]⟩)))) (.ret (.var 0)))
set_option maxRecDepth 1000000 in
theorem x28_ok : okF TT Tryd.f28 1 x28 = true := by decide +kernel
set_option maxRecDepth 1000000 in
theorem s_impl_LoopLines_1_ok {a0 : AV} {σ : AH} {R : AEnd → AH → Prop} (h : s_impl_LoopLines_1 a0 σ R) : acall TP fn_impl_LoopLines_1 [a0] σ R :=
  acall_okF (ρ := [a0]) TT_ok Tryd.func28 rfl x28 x28_ok rfl h

/-- slices.ContainsFunc[[]string,string] -/
def s_slices_ContainsFunc (a0 a1 : AV) (σ : AH) (R : AEnd → AH → Prop) : Prop :=
  acall TP fn_slices_IndexFunc [a0, a1] σ (onr (fun v7 σ =>
  og (ibin .geq v7 (.val (.int .i64 0))) fun v8 =>
  aret v8 σ R) (fun v σ => apan v σ R))
def x30 : Sx := .call 55 [(.var 1), (.var 0)] (.og (.ibin .geq (.var 0) (.lit (.val (.int .i64 0)))) (.ret (.var 0)))
set_option maxRecDepth 1000000 in
theorem x30_ok : okF TT Tryd.f30 2 x30 = true := by decide +kernel
set_option maxRecDepth 1000000 in
theorem s_slices_ContainsFunc_ok {a0 a1 : AV} {σ : AH} {R : AEnd → AH → Prop} (h : s_slices_ContainsFunc a0 a1 σ R) : acall TP fn_slices_ContainsFunc [a0, a1] σ R :=
  acall_okF (ρ := [a1, a0]) TT_ok Tryd.func30 rfl x30 x30_ok rfl h

/-- loop.example/g00349/impl.LoopLines$2 -/
def s_impl_LoopLines_2 (a0 : AV) (σ : AH) (R : AEnd → AH → Prop) : Prop :=
  og (lenStr a0) fun v4 =>
  og (ibin .gtr v4 (.val (.int .i64 400))) fun v5 =>
  aret v5 σ R
def x31 : Sx := .og (.lenStr (.var 0)) (.og (.ibin .gtr (.var 0) (.lit (.val (.int .i64 400)))) (.ret (.var 0)))
set_option maxRecDepth 1000000 in
theorem x31_ok : okF TT Tryd.f31 1 x31 = true := by decide +kernel
set_option maxRecDepth 1000000 in
theorem s_impl_LoopLines_2_ok {a0 : AV} {σ : AH} {R : AEnd → AH → Prop} (h : s_impl_LoopLines_2 a0 σ R) : acall TP fn_impl_LoopLines_2 [a0] σ R :=
  acall_okF (ρ := [a0]) TT_ok Tryd.func31 rfl x31 x31_ok rfl h

/-- loop.example/g00349/laws.eqStringS -/
def s_laws_eqStringS (a0 a1 : AV) (σ : AH) (R : AEnd → AH → Prop) : Prop :=
  og (lenS a0) fun v7 =>
  og (lenS a1) fun v9 =>
  og (ibin .neq v7 v9) fun v10 =>
  apick v10 (
    aret (.val (.bool false)) σ R) (
    lp (X := Tup [0, 1, 5]) (fun R1 y1 σ =>
      og (lenS y1.1) fun v13 =>
      og (ibin .lss y1.2.2.1 v13) fun v14 =>
      apick v14 (
        og (idx 1 y1.1 y1.2.2.1 σ) fun v19 =>
        og (lod v19 σ) fun v20 =>
        og (idx 1 y1.2.1 y1.2.2.1 σ) fun v23 =>
        og (lod v23 σ) fun v24 =>
        og (sbin .neq v20 v24) fun v25 =>
        apick v25 (
          aret (.val (.bool false)) σ R) (
          og (ibin .add y1.2.2.1 (.val (.int .i64 1))) fun v16 =>
          R1 (y1.1, y1.2.1, v16, ()) σ)) (
        aret (.val (.bool true)) σ R)) (a0, a1, (.val (.int .i64 0)), ()) σ)
def x32 : Sx := .og (.lenS (.var 1)) (.og (.lenS (.var 1)) (.og (.ibin .neq (.var 1) (.var 0)) (.apick (.var 0) (.ret (.lit (.val (.bool false)))) (.lp [0, 1, 5] (.og (.lenS (.var 0)) (.og (.ibin .lss (.var 3) (.var 0)) (.apick (.var 0) (.ord [0, 1, 2, 3, 4, 5, 6, 7, 8] [0, 0, 3, 7, 0, 0, 48, 112, 255] (.og (.idx 1 (.var 2) (.var 4)) (.og (.lod (.var 0)) (.og (.idx 1 (.var 5) (.var 6)) (.og (.lod (.var 0)) (.og (.sbin .neq (.var 2) (.var 0)) (.apick (.var 0) (.ret (.lit (.val (.bool false)))) (.og (.ibin .add (.var 9) (.lit (.val (.int .i64 1)))) (.jump 0 [(.var 8), (.var 9), (.var 0)]))))))))) (.ret (.lit (.val (.bool true))))))) [(.var 4), (.var 3), (.lit (.val (.int .i64 0)))]))))
set_option maxRecDepth 1000000 in
theorem x32_ok : okF TT Tryd.f32 2 x32 = true := by decide +kernel
set_option maxRecDepth 1000000 in
theorem s_laws_eqStringS_ok {a0 a1 : AV} {σ : AH} {R : AEnd → AH → Prop} (h : s_laws_eqStringS a0 a1 σ R) : acall TP fn_laws_eqStringS [a0, a1] σ R :=
  acall_okF (ρ := [a1, a0]) TT_ok Tryd.func32 rfl x32 x32_ok rfl h

/-- loop.example/g00349/laws.markStringS -/
def s_laws_markStringS (a0 a1 : AV) (σ : AH) (R : AEnd → AH → Prop) : Prop :=
  lp (X := Tup [0, 1, 5]) (fun R1 y1 σ =>
    og (lenS y1.1) fun v8 =>
    og (ibin .lss y1.2.2.1 v8) fun v9 =>
    apick v9 (
      acall TP fn_laws_markText [y1.2.1] σ (onr (fun v15 σ =>
      og (idx 1 y1.1 y1.2.2.1 σ) fun v16 =>
      sto 1 v16 v15 σ fun σ =>
      og (ibin .add y1.2.1 (.val (.int .i64 1))) fun v18 =>
      og (ibin .add y1.2.2.1 (.val (.int .i64 1))) fun v11 =>
      R1 (y1.1, v18, v11, ()) σ) (fun v σ => apan v σ R))) (
      aret y1.2.1 σ R)) (a0, a1, (.val (.int .i64 0)), ()) σ
def x33 : Sx := .lp [0, 1, 5] (.og (.lenS (.var 0)) (.og (.ibin .lss (.var 3) (.var 0)) (.apick (.var 0) (.call 64 [(.var 3)] (.og (.idx 1 (.var 3) (.var 5)) (.sto 1 (.var 0) (.var 1) (.og (.ibin .add (.var 5) (.lit (.val (.int .i64 1)))) (.og (.ibin .add (.var 7) (.lit (.val (.int .i64 1)))) (.jump 0 [(.var 6), (.var 1), (.var 0)])))))) (.ret (.var 3))))) [(.var 1), (.var 0), (.lit (.val (.int .i64 0)))]
set_option maxRecDepth 1000000 in
theorem x33_ok : okF TT Tryd.f33 2 x33 = true := by decide +kernel
set_option maxRecDepth 1000000 in
theorem s_laws_markStringS_ok {a0 a1 : AV} {σ : AH} {R : AEnd → AH → Prop} (h : s_laws_markStringS a0 a1 σ R) : acall TP fn_laws_markStringS [a0, a1] σ R :=
  acall_okF (ρ := [a1, a0]) TT_ok Tryd.func33 rfl x33 x33_ok rfl h

/-- loop.example/g00349/laws.heldStringS -/
def s_laws_heldStringS (a0 a1 : AV) (σ : AH) (R : AEnd → AH → Prop) : Prop :=
  lp (X := Tup [0, 1, 5]) (fun R1 y1 σ =>
    og (lenS y1.1) fun v8 =>
    og (ibin .lss y1.2.2.1 v8) fun v9 =>
    apick v9 (
      og (idx 1 y1.1 y1.2.2.1 σ) fun v14 =>
      og (lod v14 σ) fun v15 =>
      acall TP fn_laws_markText [y1.2.1] σ (onr (fun v17 σ =>
      (lod v14 σ = some v15 ∧ idx 1 y1.1 y1.2.2.1 σ = some v14 ∧ True) ∧
      og (sbin .neq v15 v17) fun v18 =>
      apick v18 (
        aret (.val (.int .i64 (-1))) σ R) (
        og (ibin .add y1.2.1 (.val (.int .i64 1))) fun v20 =>
        og (ibin .add y1.2.2.1 (.val (.int .i64 1))) fun v11 =>
        R1 (y1.1, v20, v11, ()) σ)) (fun v σ => apan v σ R))) (
      aret y1.2.1 σ R)) (a0, a1, (.val (.int .i64 0)), ()) σ
def x34 : Sx := .lp [0, 1, 5] (.og (.lenS (.var 0)) (.og (.ibin .lss (.var 3) (.var 0)) (.apick (.var 0) (.ord [0, 1, 2, 3, 4, 5, 6] [0, 0, 3, 7, 0, 16, 63] (.og (.idx 1 (.var 2) (.var 4)) (.og (.lod (.var 0)) (.call 64 [(.var 5)] (.wat [⟨none, (.lod (.var 2)), (.var 1)⟩, ⟨none, (.idx 1 (.var 5) (.var 7)), (.var 2)⟩] (.og (.sbin .neq (.var 1) (.var 0)) (.apick (.var 0) (.ret (.lit (.val (.int .i64 (-1))))) (.og (.ibin .add (.var 7) (.lit (.val (.int .i64 1)))) (.og (.ibin .add (.var 9) (.lit (.val (.int .i64 1)))) (.jump 0 [(.var 8), (.var 1), (.var 0)])))))))))) (.ret (.var 3))))) [(.var 1), (.var 0), (.lit (.val (.int .i64 0)))]
set_option maxRecDepth 1000000 in
theorem x34_ok : okF TT Tryd.f34 2 x34 = true := by decide +kernel
set_option maxRecDepth 1000000 in
theorem s_laws_heldStringS_ok {a0 a1 : AV} {σ : AH} {R : AEnd → AH → Prop} (h : s_laws_heldStringS a0 a1 σ R) : acall TP fn_laws_heldStringS [a0, a1] σ R :=
  acall_okF (ρ := [a1, a0]) TT_ok Tryd.func34 rfl x34 x34_ok rfl h

/-- loop.example/g00349/spec.l13Text -/
def s_spec_l13Text (a0 : AV) (σ : AH) (R : AEnd → AH → Prop) : Prop :=
  og (anil a0) fun v5 =>
  og (fldA 0 v5) fun v6 =>
  og (lod v6 σ) fun v7 =>
  og (anil a0) fun v12 =>
  og (fldA 1 v12) fun v13 =>
  og (lod v13 σ) fun v14 =>
  acall TP fn_spec_l1Digits [v7] σ (onr (fun v8 σ =>
  (lod v13 σ = some v14 ∧ True) ∧
  og (sbin .add (.val (.string ⟨#[115, 101, 103, 32]⟩)) v8) fun v9 =>
  og (sbin .add v9 (.val (.string ⟨#[32, 116, 97, 98, 108, 101, 32]⟩))) fun v10 =>
  acall TP fn_spec_l1Digits [v14] σ (onr (fun v15 σ =>
  (True) ∧
  og (sbin .add v10 v15) fun v16 =>
  jn (X := Tup [0, 3]) (fun x1 σ =>
      og (anil x1.1) fun v26 =>
      og (fldA 3 v26) fun v27 =>
      og (lod v27 σ) fun v28 =>
      apick v28 (
        og (sbin .add x1.2.1 (.val (.string ⟨#[32, 99, 97, 99, 104, 101]⟩))) fun v30 =>
        aret v30 σ R) (
        og (sbin .add x1.2.1 (.val (.string ⟨#[32, 108, 111, 111, 107]⟩))) fun v32 =>
        aret v32 σ R)) fun k1 =>
    og (anil a0) fun v18 =>
    og (fldA 2 v18) fun v19 =>
    og (lod v19 σ) fun v20 =>
    apick v20 (
      og (sbin .add v16 (.val (.string ⟨#[32, 112, 101, 101, 112]⟩))) fun v22 =>
      k1 (a0, v22, ()) σ) (
      og (sbin .add v16 (.val (.string ⟨#[32, 112, 108, 97, 105, 110]⟩))) fun v24 =>
      k1 (a0, v24, ()) σ)) (fun v σ => apan v σ R))) (fun v σ => apan v σ R))
def x35 : Sx := .ord [0, 1, 2, 3, 7, 8, 9, 10, 4, 5, 6, 11, 12, 13] [0, 1, 3, 7, 15, 31, 63, 0, 128, 384, 896, 1951, 4095, 8191] (.og (.anil (.var 0)) (.og (.fldA 0 (.var 0)) (.og (.lod (.var 0)) (.og (.anil (.var 3)) (.og (.fldA 1 (.var 0)) (.og (.lod (.var 0)) (.call 65 [(.var 3)] (.wat [⟨none, (.lod (.var 2)), (.var 1)⟩] (.og (.sbin .add (.lit (.val (.string ⟨#[115, 101, 103, 32]⟩))) (.var 0)) (.og (.sbin .add (.var 0) (.lit (.val (.string ⟨#[32, 116, 97, 98, 108, 101, 32]⟩)))) (.call 65 [(.var 3)] (.wat [] (.og (.sbin .add (.var 1) (.var 0)) (.jn 15 [0, 3] (.og (.anil (.var 0)) (.og (.fldA 3 (.var 0)) (.og (.lod (.var 0)) (.apick (.var 0) (.og (.sbin .add (.var 4) (.lit (.val (.string ⟨#[32, 99, 97, 99, 104, 101]⟩)))) (.ret (.var 0))) (.og (.sbin .add (.var 4) (.lit (.val (.string ⟨#[32, 108, 111, 111, 107]⟩)))) (.ret (.var 0))))))) (.og (.anil (.var 11)) (.og (.fldA 2 (.var 0)) (.og (.lod (.var 0)) (.apick (.var 0) (.og (.sbin .add (.var 3) (.lit (.val (.string ⟨#[32, 112, 101, 101, 112]⟩)))) (.jump 0 [(.var 15), (.var 0)])) (.og (.sbin .add (.var 3) (.lit (.val (.string ⟨#[32, 112, 108, 97, 105, 110]⟩)))) (.jump 0 [(.var 15), (.var 0)]))))))))))))))))))))
set_option maxRecDepth 1000000 in
theorem x35_ok : okF TT Tryd.f35 1 x35 = true := by decide +kernel
set_option maxRecDepth 1000000 in
theorem s_spec_l13Text_ok {a0 : AV} {σ : AH} {R : AEnd → AH → Prop} (h : s_spec_l13Text a0 σ R) : acall TP fn_spec_l13Text [a0] σ R :=
  acall_okF (ρ := [a0]) TT_ok Tryd.func35 rfl x35 x35_ok rfl h

/-- loop.example/g00349/impl.ParseNum -/
def s_impl_ParseNum (a0 : AV) (σ : AH) (R : AEnd → AH → Prop) : Prop :=
  new [(.val (.int .i64 0)), (.val (.int .i64 0))] σ fun v2 σ =>
  acall TP fn_strconv_ParseInt [a0, (.val (.int .i64 10)), (.val (.int .i64 64))] σ (onr (fun v7 σ =>
  og (aext v7 0) fun v8 =>
  og (aext v7 1) fun v9 =>
  jn (X := Tup [2, 3, 22]) (fun x1 σ =>
      apick x1.2.2.1 (
        og (bld [(.val (.int .i64 0)), (.val (.int .i64 0))] [(0, 1), (1, 1)] [(0, (.val (.int .i64 5)))]) fun v23 =>
        sto 2 x1.1 v23 σ fun σ =>
        og (lodA 2 x1.1 σ) fun r2 =>
        aret r2 σ R) (
        og (bld [(.val (.int .i64 0)), (.val (.int .i64 0))] [(0, 1), (1, 1)] [(1, x1.2.1)]) fun v25 =>
        sto 2 x1.1 v25 σ fun σ =>
        og (lodA 2 x1.1 σ) fun r2 =>
        aret r2 σ R)) fun k1 =>
    abin TT .neq ty_interface90 v9 (.val .nilIface) fun v11 =>
    og (gval v11 false false (some v8)) fun v13 =>
    gpick v11 (
      k1 (v2, v8, (.val (.bool true)), ()) σ) (
      acall TP fn_impl_NumFault [v13] σ (onr (fun v14 σ =>
      og (ibin .neq v14 (.val (.int .i64 0))) fun v15 =>
      og (gval v15 false false (some v8)) fun v18 =>
      gpick v15 (
        k1 (v2, v8, (.val (.bool true)), ()) σ) (
        acall TP fn_impl_dec [v18] σ (onr (fun v19 σ =>
        og (sbin .neq v19 a0) fun v21 =>
        k1 (v2, v8, v21, ()) σ) (fun v σ => apan v σ R))) (False)) (fun v σ => apan v σ R))) (False)) (fun v σ => apan v σ R))
def x36 : Sx := .new [(.val (.int .i64 0)), (.val (.int .i64 0))] (.call 66 [(.var 1), (.lit (.val (.int .i64 10))), (.lit (.val (.int .i64 64)))] (.og (.aext (.var 0) 0) (.og (.aext (.var 1) 1) (.jn 29 [2, 3, 22] (.apick (.var 2) (.og (.bld [(.val (.int .i64 0)), (.val (.int .i64 0))] [(0, 1), (1, 1)] [(0, (.lit (.val (.int .i64 5))))]) (.sto 2 (.var 1) (.var 0) (.og (.lodA 2 (.var 1)) (.ret (.var 0))))) (.og (.bld [(.val (.int .i64 0)), (.val (.int .i64 0))] [(0, 1), (1, 1)] [(1, (.var 1))]) (.sto 2 (.var 1) (.var 0) (.og (.lodA 2 (.var 1)) (.ret (.var 0)))))) (.cmp .neq 90 (.var 0) (.lit (.val .nilIface)) (.gog (.var 0) false false (.ret (.var 2)) (.gpick (.var 1) (.jump 0 [(.var 5), (.var 3), (.lit (.val (.bool true)))]) (.call 67 [(.var 0)] (.og (.ibin .neq (.var 0) (.lit (.val (.int .i64 0)))) (.gog (.var 0) false false (.ret (.var 5)) (.gpick (.var 1) (.jump 0 [(.var 8), (.var 6), (.lit (.val (.bool true)))]) (.call 68 [(.var 0)] (.og (.sbin .neq (.var 0) (.var 10)) (.jump 0 [(.var 10), (.var 8), (.var 0)]))) (.no))))) (.no))))))))
set_option maxRecDepth 1000000 in
theorem x36_ok : okF TT Tryd.f36 1 x36 = true := by decide +kernel
set_option maxRecDepth 1000000 in
theorem s_impl_ParseNum_ok {a0 : AV} {σ : AH} {R : AEnd → AH → Prop} (h : s_impl_ParseNum a0 σ R) : acall TP fn_impl_ParseNum [a0] σ R :=
  acall_okF (ρ := [a0]) TT_ok Tryd.func36 rfl x36 x36_ok rfl h

/-- (loop.example/g00349/impl.Config).text -/
def s_impl_Config_text (a0 : AV) (σ : AH) (R : AEnd → AH → Prop) : Prop :=
  abox a0 σ fun v1 σ =>
  frz v1 σ fun f1 σ =>
  jn (X := Tup [1, 3, 4]) (fun x1 σ =>
      jn (X := Tup [1, 3, 4]) (fun x2 σ =>
          og (fldA 0 x2.1) fun v9 =>
          og (lod v9 σ) fun v10 =>
          og (fldA 1 x2.1) fun v14 =>
          og (lod v14 σ) fun v15 =>
          acall TP fn_impl_dec [v10] σ (onr (fun v11 σ =>
          (lod v14 σ = some v15 ∧ True) ∧
          og (sbin .add (.val (.string ⟨#[115, 101, 103, 32]⟩)) v11) fun v12 =>
          og (sbin .add v12 (.val (.string ⟨#[32, 116, 97, 98, 108, 101, 32]⟩))) fun v13 =>
          acall TP fn_impl_dec [v15] σ (onr (fun v16 σ =>
          (True) ∧
          og (sbin .add v13 v16) fun v17 =>
          og (sbin .add v17 (.val (.string ⟨#[32]⟩))) fun v18 =>
          og (sbin .add v18 x2.2.1) fun v20 =>
          og (sbin .add v20 (.val (.string ⟨#[32]⟩))) fun v21 =>
          og (sbin .add v21 x2.2.2.1) fun v23 =>
          aret v23 σ R) (fun v σ => apan v σ R))) (fun v σ => apan v σ R))) fun k2 =>
        og (fldA 3 x1.1) fun v7 =>
        og (lod v7 σ) fun v8 =>
        apick v8 (
          k2 (x1.1, x1.2.1, (.val (.string ⟨#[99, 97, 99, 104, 101]⟩)), ()) σ) (
          k2 (x1.1, x1.2.1, x1.2.2.1, ()) σ)) fun k1 =>
    og (fldA 2 f1) fun v5 =>
    og (lod v5 σ) fun v6 =>
    apick v6 (
      k1 (f1, (.val (.string ⟨#[112, 101, 101, 112]⟩)), (.val (.string ⟨#[108, 111, 111, 107]⟩)), ()) σ) (
      k1 (f1, (.val (.string ⟨#[112, 108, 97, 105, 110]⟩)), (.val (.string ⟨#[108, 111, 111, 107]⟩)), ()) σ)
def x37 : Sx := .box (.var 0) (.frz 1 (.var 0) (.jn 15 [1, 3, 4] (.jn 31 [1, 3, 4] (.ord [0, 1, 5, 6, 10, 13, 2, 3, 4, 7, 8, 9, 11, 12, 14, 15] [0, 1, 3, 7, 15, 0, 32, 103, 255, 511, 0, 2047, 4095, 0, 16383, 32767] (.og (.fldA 0 (.var 0)) (.og (.lod (.var 0)) (.og (.fldA 1 (.var 2)) (.og (.lod (.var 0)) (.call 68 [(.var 2)] (.wat [⟨none, (.lod (.var 2)), (.var 1)⟩] (.og (.sbin .add (.lit (.val (.string ⟨#[115, 101, 103, 32]⟩))) (.var 0)) (.og (.sbin .add (.var 0) (.lit (.val (.string ⟨#[32, 116, 97, 98, 108, 101, 32]⟩)))) (.call 68 [(.var 3)] (.wat [] (.og (.sbin .add (.var 1) (.var 0)) (.og (.sbin .add (.var 0) (.lit (.val (.string ⟨#[32]⟩)))) (.og (.sbin .add (.var 0) (.var 11)) (.og (.sbin .add (.var 0) (.lit (.val (.string ⟨#[32]⟩)))) (.og (.sbin .add (.var 0) (.var 14)) (.ret (.var 0)))))))))))))))))) (.og (.fldA 3 (.var 0)) (.og (.lod (.var 0)) (.apick (.var 0) (.jump 0 [(.var 2), (.var 3), (.lit (.val (.string ⟨#[99, 97, 99, 104, 101]⟩)))]) (.jump 0 [(.var 2), (.var 3), (.var 4)]))))) (.og (.fldA 2 (.var 0)) (.og (.lod (.var 0)) (.apick (.var 0) (.jump 0 [(.var 2), (.lit (.val (.string ⟨#[112, 101, 101, 112]⟩))), (.lit (.val (.string ⟨#[108, 111, 111, 107]⟩)))]) (.jump 0 [(.var 2), (.lit (.val (.string ⟨#[112, 108, 97, 105, 110]⟩))), (.lit (.val (.string ⟨#[108, 111, 111, 107]⟩)))]))))))
set_option maxRecDepth 1000000 in
theorem x37_ok : okF TT Tryd.f37 1 x37 = true := by decide +kernel
set_option maxRecDepth 1000000 in
theorem s_impl_Config_text_ok {a0 : AV} {σ : AH} {R : AEnd → AH → Prop} (h : s_impl_Config_text a0 σ R) : acall TP fn_impl_Config_text [a0] σ R :=
  acall_okF (ρ := [a0]) TT_ok Tryd.func37 rfl x37 x37_ok rfl h

/-- loop.example/g00349/laws.eqConfig -/
def s_laws_eqConfig (a0 a1 : AV) (σ : AH) (R : AEnd → AH → Prop) : Prop :=
  abox a0 σ fun v2 σ =>
  abox a1 σ fun v3 σ =>
  frz v2 σ fun f2 σ =>
  frz v3 σ fun f3 σ =>
  og (fldA 0 f2) fun v5 =>
  og (lod v5 σ) fun v6 =>
  og (fldA 0 f3) fun v7 =>
  og (lod v7 σ) fun v8 =>
  og (ibin .neq v6 v8) fun v9 =>
  apick v9 (
    aret (.val (.bool false)) σ R) (
    og (fldA 1 f2) fun v10 =>
    og (lod v10 σ) fun v11 =>
    og (fldA 1 f3) fun v12 =>
    og (lod v12 σ) fun v13 =>
    og (ibin .neq v11 v13) fun v14 =>
    apick v14 (
      aret (.val (.bool false)) σ R) (
      og (fldA 2 f2) fun v15 =>
      og (lod v15 σ) fun v16 =>
      og (fldA 2 f3) fun v17 =>
      og (lod v17 σ) fun v18 =>
      abin TT .neq ty_o v16 v18 fun v19 =>
      apick v19 (
        aret (.val (.bool false)) σ R) (
        og (fldA 3 f2) fun v20 =>
        og (lod v20 σ) fun v21 =>
        og (fldA 3 f3) fun v22 =>
        og (lod v22 σ) fun v23 =>
        abin TT .neq ty_o v21 v23 fun v24 =>
        apick v24 (
          aret (.val (.bool false)) σ R) (
          aret (.val (.bool true)) σ R))))
def x38 : Sx := .box (.var 1) (.box (.var 1) (.frz 2 (.var 1) (.frz 3 (.var 1) (.og (.fldA 0 (.var 1)) (.og (.lod (.var 0)) (.og (.fldA 0 (.var 2)) (.og (.lod (.var 0)) (.og (.ibin .neq (.var 2) (.var 0)) (.apick (.var 0) (.ret (.lit (.val (.bool false)))) (.og (.fldA 1 (.var 6)) (.og (.lod (.var 0)) (.og (.fldA 1 (.var 7)) (.og (.lod (.var 0)) (.og (.ibin .neq (.var 2) (.var 0)) (.apick (.var 0) (.ret (.lit (.val (.bool false)))) (.og (.fldA 2 (.var 11)) (.og (.lod (.var 0)) (.og (.fldA 2 (.var 12)) (.og (.lod (.var 0)) (.cmp .neq 4 (.var 2) (.var 0) (.apick (.var 0) (.ret (.lit (.val (.bool false)))) (.og (.fldA 3 (.var 16)) (.og (.lod (.var 0)) (.og (.fldA 3 (.var 17)) (.og (.lod (.var 0)) (.cmp .neq 4 (.var 2) (.var 0) (.apick (.var 0) (.ret (.lit (.val (.bool false)))) (.ret (.lit (.val (.bool true)))))))))))))))))))))))))))))))
set_option maxRecDepth 1000000 in
theorem x38_ok : okF TT Tryd.f38 2 x38 = true := by decide +kernel
set_option maxRecDepth 1000000 in
theorem s_laws_eqConfig_ok {a0 a1 : AV} {σ : AH} {R : AEnd → AH → Prop} (h : s_laws_eqConfig a0 a1 σ R) : acall TP fn_laws_eqConfig [a0, a1] σ R :=
  acall_okF (ρ := [a1, a0]) TT_ok Tryd.func38 rfl x38 x38_ok rfl h

/-- loop.example/g00349/spec.l1Source -/
def s_spec_l1Source (a0 : AV) (σ : AH) (R : AEnd → AH → Prop) : Prop :=
  og (bld [(.val (.slice none 0 0)), (.val (.int .i64 0))] [(0, 1), (1, 1)] [(0, a0)]) fun v4 =>
  abox v4 σ fun v5 σ =>
  aret v5 σ R
def x39 : Sx := .og (.bld [(.val (.slice none 0 0)), (.val (.int .i64 0))] [(0, 1), (1, 1)] [(0, (.var 0))]) (.box (.var 0) (.ret (.var 0)))
set_option maxRecDepth 1000000 in
theorem x39_ok : okF TT Tryd.f39 1 x39 = true := by decide +kernel
set_option maxRecDepth 1000000 in
theorem s_spec_l1Source_ok {a0 : AV} {σ : AH} {R : AEnd → AH → Prop} (h : s_spec_l1Source a0 σ R) : acall TP fn_spec_l1Source [a0] σ R :=
  acall_okF (ρ := [a0]) TT_ok Tryd.func39 rfl x39 x39_ok rfl h

/-- loop.example/g00349/spec.l13Draw -/
def s_spec_l13Draw (a0 : AV) (σ : AH) (R : AEnd → AH → Prop) : Prop :=
  new [(.val (.int .i64 0)), (.val (.int .i64 0)), (.val (.bool false)), (.val (.bool false))] σ fun v2 σ =>
  bsl 1 [(.val (.int .i64 0))] 5 [(0, (.val (.int .i64 1))), (1, (.val (.int .i64 2))), (2, (.val (.int .i64 3))), (3, (.val (.int .i64 7))), (4, (.val (.int .i64 64)))] σ fun v4 σ =>
  acall TP fn_spec_l1Pick [a0, v4] σ (onr (fun v5 σ =>
  acall TP fn_spec_l1Next [a0, (.val (.int .i64 16))] σ (onr (fun v7 σ =>
  acall TP fn_spec_l1Chance [a0, (.val (.int .i64 2))] σ (onr (fun v9 σ =>
  acall TP fn_spec_l1Chance [a0, (.val (.int .i64 2))] σ (onr (fun v11 σ =>
  og (bld [(.val (.int .i64 0)), (.val (.int .i64 0)), (.val (.bool false)), (.val (.bool false))] [(0, 1), (1, 1), (2, 1), (3, 1)] [(0, v5), (1, v7), (2, v9), (3, v11)]) fun v12 =>
  sto 4 v2 v12 σ fun σ =>
  og (lodA 4 v2 σ) fun r2 =>
  aret r2 σ R) (fun v σ => apan v σ R))) (fun v σ => apan v σ R))) (fun v σ => apan v σ R))) (fun v σ => apan v σ R))
def x40 : Sx := .new [(.val (.int .i64 0)), (.val (.int .i64 0)), (.val (.bool false)), (.val (.bool false))] (.bsl 1 [(.val (.int .i64 0))] 5 [(0, (.lit (.val (.int .i64 1)))), (1, (.lit (.val (.int .i64 2)))), (2, (.lit (.val (.int .i64 3)))), (3, (.lit (.val (.int .i64 7)))), (4, (.lit (.val (.int .i64 64))))] (.call 42 [(.var 2), (.var 0)] (.call 41 [(.var 3), (.lit (.val (.int .i64 16)))] (.call 69 [(.var 4), (.lit (.val (.int .i64 2)))] (.call 69 [(.var 5), (.lit (.val (.int .i64 2)))] (.og (.bld [(.val (.int .i64 0)), (.val (.int .i64 0)), (.val (.bool false)), (.val (.bool false))] [(0, 1), (1, 1), (2, 1), (3, 1)] [(0, (.var 3)), (1, (.var 2)), (2, (.var 1)), (3, (.var 0))]) (.sto 4 (.var 6) (.var 0) (.og (.lodA 4 (.var 6)) (.ret (.var 0))))))))))
set_option maxRecDepth 1000000 in
theorem x40_ok : okF TT Tryd.f40 1 x40 = true := by decide +kernel
set_option maxRecDepth 1000000 in
theorem s_spec_l13Draw_ok {a0 : AV} {σ : AH} {R : AEnd → AH → Prop} (h : s_spec_l13Draw a0 σ R) : acall TP fn_spec_l13Draw [a0] σ R :=
  acall_okF (ρ := [a0]) TT_ok Tryd.func40 rfl x40 x40_ok rfl h

/-- loop.example/g00349/spec.l1Next -/
def s_spec_l1Next (a0 a1 : AV) (σ : AH) (R : AEnd → AH → Prop) : Prop :=
  og (anil a0) fun v10 =>
  og (fldA 1 v10) fun v11 =>
  og (lod v11 σ) fun v12 =>
  og (ibin .add v12 (.val (.int .i64 1))) fun v13 =>
  og (anil a0) fun v14 =>
  og (fldA 1 v14) fun v15 =>
  sto 1 v15 v13 σ fun σ =>
  og (ibin .lss a1 (.val (.int .i64 1))) fun v17 =>
  apick v17 (
    aret (.val (.int .i64 0)) σ R) (
    og (anil a0) fun v19 =>
    og (fldA 1 v19) fun v20 =>
    og (lod v20 σ) fun v21 =>
    og (ibin .sub v21 (.val (.int .i64 1))) fun v22 =>
    og (anil a0) fun v24 =>
    og (fldA 0 v24) fun v25 =>
    og (lod v25 σ) fun v26 =>
    og (lenS v26) fun v27 =>
    og (ibin .eql v27 (.val (.int .i64 0))) fun v29 =>
    apick v29 (
      og (ibin .mul v22 (.val (.int .i64 7))) fun v31 =>
      og (ibin .rem v31 a1) fun v33 =>
      aret v33 σ R) (
      og (anil a0) fun v35 =>
      og (fldA 0 v35) fun v36 =>
      og (lod v36 σ) fun v37 =>
      og (ibin .rem v22 v27) fun v40 =>
      og (idx 1 v37 v40 σ) fun v41 =>
      og (lod v41 σ) fun v42 =>
      og (convI .i64 v42) fun v43 =>
      og (ibin .quo v22 v27) fun v46 =>
      og (ibin .mul v46 (.val (.int .i64 37))) fun v47 =>
      og (ibin .add v43 v47) fun v48 =>
      jn (X := Tup [1, 7]) (fun x1 σ =>
          og (ibin .rem x1.2.1 x1.1) fun v70 =>
          aret v70 σ R) fun k1 =>
        og (ibin .gtr a1 (.val (.int .i64 200))) fun v50 =>
        apick v50 (
          og (ibin .mul v48 (.val (.int .i64 251))) fun v52 =>
          og (anil a0) fun v54 =>
          og (fldA 0 v54) fun v55 =>
          og (lod v55 σ) fun v56 =>
          og (ibin .add v22 (.val (.int .i64 1))) fun v58 =>
          og (ibin .rem v58 v27) fun v60 =>
          og (idx 1 v56 v60 σ) fun v61 =>
          og (lod v61 σ) fun v62 =>
          og (convI .i64 v62) fun v63 =>
          og (ibin .mul v63 (.val (.int .i64 13))) fun v64 =>
          og (ibin .add v52 v64) fun v65 =>
          og (ibin .add v65 v22) fun v67 =>
          k1 (a1, v67, ()) σ) (
          k1 (a1, v48, ()) σ)))
def x41 : Sx := .og (.anil (.var 1)) (.og (.fldA 1 (.var 0)) (.og (.lod (.var 0)) (.og (.ibin .add (.var 0) (.lit (.val (.int .i64 1)))) (.og (.anil (.var 5)) (.og (.fldA 1 (.var 0)) (.sto 1 (.var 0) (.var 2) (.og (.ibin .lss (.var 6) (.lit (.val (.int .i64 1)))) (.apick (.var 0) (.ret (.lit (.val (.int .i64 0)))) (.og (.anil (.var 8)) (.og (.fldA 1 (.var 0)) (.og (.lod (.var 0)) (.og (.ibin .sub (.var 0) (.lit (.val (.int .i64 1)))) (.og (.anil (.var 12)) (.og (.fldA 0 (.var 0)) (.og (.lod (.var 0)) (.og (.lenS (.var 0)) (.og (.ibin .eql (.var 0) (.lit (.val (.int .i64 0)))) (.apick (.var 0) (.og (.ibin .mul (.var 5) (.lit (.val (.int .i64 7)))) (.og (.ibin .rem (.var 0) (.var 17)) (.ret (.var 0)))) (.ord [0, 1, 2, 3, 4, 5, 6, 7, 8, 9, 10, 11, 12, 13, 14, 15] [0, 1, 3, 7, 0, 0, 48, 127, 255, 511, 0, 0, 3072, 7168, 16383, 32767] (.og (.anil (.var 17)) (.og (.fldA 0 (.var 0)) (.og (.lod (.var 0)) (.og (.ibin .rem (.var 8) (.var 4)) (.og (.idx 1 (.var 1) (.var 0)) (.og (.lod (.var 0)) (.og (.conv .i64 (.var 0)) (.og (.ibin .quo (.var 12) (.var 8)) (.og (.ibin .mul (.var 0) (.lit (.val (.int .i64 37)))) (.og (.ibin .add (.var 2) (.var 0)) (.jn 511 [1, 7] (.og (.ibin .rem (.var 1) (.var 0)) (.ret (.var 0))) (.og (.ibin .gtr (.var 26) (.lit (.val (.int .i64 200)))) (.apick (.var 0) (.ord [0, 1, 2, 3, 4, 5, 6, 7, 8, 9, 10, 11, 12, 13, 14, 15, 16, 17] [0, 1, 0, 4, 12, 28, 0, 64, 0, 448, 1020, 2044, 4092, 8188, 16383, 0, 65535, 131071] (.og (.ibin .mul (.var 1) (.lit (.val (.int .i64 251)))) (.og (.anil (.var 29)) (.og (.fldA 0 (.var 0)) (.og (.lod (.var 0)) (.og (.ibin .add (.var 20) (.lit (.val (.int .i64 1)))) (.og (.ibin .rem (.var 0) (.var 17)) (.og (.idx 1 (.var 2) (.var 0)) (.og (.lod (.var 0)) (.og (.conv .i64 (.var 0)) (.og (.ibin .mul (.var 0) (.lit (.val (.int .i64 13)))) (.og (.ibin .add (.var 9) (.var 0)) (.og (.ibin .add (.var 0) (.var 27)) (.jump 0 [(.var 39), (.var 0)])))))))))))))) (.jump 0 [(.var 27), (.var 1)])))))))))))))))))))))))))))))))))
set_option maxRecDepth 1000000 in
theorem x41_ok : okF TT Tryd.f41 2 x41 = true := by decide +kernel
set_option maxRecDepth 1000000 in
theorem s_spec_l1Next_ok {a0 a1 : AV} {σ : AH} {R : AEnd → AH → Prop} (h : s_spec_l1Next a0 a1 σ R) : acall TP fn_spec_l1Next [a0, a1] σ R :=
  acall_okF (ρ := [a1, a0]) TT_ok Tryd.func41 rfl x41 x41_ok rfl h

/-- loop.example/g00349/spec.l1Pick -/
def s_spec_l1Pick (a0 a1 : AV) (σ : AH) (R : AEnd → AH → Prop) : Prop :=
  og (lenS a1) fun v8 =>
  acall TP fn_spec_l1Next [a0, v8] σ (onr (fun v9 σ =>
  og (idx 1 a1 v9 σ) fun v10 =>
  og (lod v10 σ) fun v11 =>
  aret v11 σ R) (fun v σ => apan v σ R))
def x42 : Sx := .og (.lenS (.var 0)) (.call 41 [(.var 2), (.var 0)] (.og (.idx 1 (.var 2) (.var 0)) (.og (.lod (.var 0)) (.ret (.var 0)))))
set_option maxRecDepth 1000000 in
theorem x42_ok : okF TT Tryd.f42 2 x42 = true := by decide +kernel
set_option maxRecDepth 1000000 in
theorem s_spec_l1Pick_ok {a0 a1 : AV} {σ : AH} {R : AEnd → AH → Prop} (h : s_spec_l1Pick a0 a1 σ R) : acall TP fn_spec_l1Pick [a0, a1] σ R :=
  acall_okF (ρ := [a1, a0]) TT_ok Tryd.func42 rfl x42 x42_ok rfl h

/-- loop.example/g00349/spec.l13Bent -/
def s_spec_l13Bent (a0 : AV) (σ : AH) (R : AEnd → AH → Prop) : Prop :=
  new [(.val (.int .i64 0)), (.val (.int .i64 0)), (.val (.bool false)), (.val (.bool false))] σ fun v2 σ =>
  acall TP fn_spec_l13Draw [a0] σ (onr (fun v5 σ =>
  new [(.val (.int .i64 0)), (.val (.int .i64 0)), (.val (.bool false)), (.val (.bool false))] σ fun v3 σ =>
  sto 4 v3 v5 σ fun σ =>
  jn (X := Tup [2, 3]) (fun x1 σ =>
      frz x1.2.1 σ fun f3 σ =>
      og (lodA 4 f3 σ) fun v20 =>
      sto 4 x1.1 v20 σ fun σ =>
      og (lodA 4 x1.1 σ) fun r2 =>
      aret r2 σ R) fun k1 =>
    acall TP fn_spec_l1Next [a0, (.val (.int .i64 12))] σ (onr (fun v7 σ =>
    og (ibin .eql v7 (.val (.int .i64 0))) fun v9 =>
    apick v9 (
      bsl 1 [(.val (.int .i64 0))] 2 [(0, (.val (.int .i64 0))), (1, (.val (.int .i64 65)))] σ fun v11 σ =>
      acall TP fn_spec_l1Pick [a0, v11] σ (onr (fun v12 σ =>
      og (fldA 0 v3) fun v13 =>
      sto 1 v13 v12 σ fun σ =>
      k1 (v2, v3, ()) σ) (fun v σ => apan v σ R))) (
      og (ibin .eql v7 (.val (.int .i64 1))) fun v15 =>
      apick v15 (
        bsl 1 [(.val (.int .i64 0))] 2 [(0, (.val (.int .i64 (-1)))), (1, (.val (.int .i64 16)))] σ fun v17 σ =>
        acall TP fn_spec_l1Pick [a0, v17] σ (onr (fun v18 σ =>
        og (fldA 1 v3) fun v19 =>
        sto 1 v19 v18 σ fun σ =>
        k1 (v2, v3, ()) σ) (fun v σ => apan v σ R))) (
        k1 (v2, v3, ()) σ))) (fun v σ => apan v σ R))) (fun v σ => apan v σ R))
def x43 : Sx := .new [(.val (.int .i64 0)), (.val (.int .i64 0)), (.val (.bool false)), (.val (.bool false))] (.call 40 [(.var 1)] (.new [(.val (.int .i64 0)), (.val (.int .i64 0)), (.val (.bool false)), (.val (.bool false))] (.sto 4 (.var 0) (.var 1) (.jn 15 [2, 3] (.frz 0 (.var 1) (.og (.lodA 4 (.var 0)) (.sto 4 (.var 2) (.var 0) (.og (.lodA 4 (.var 2)) (.ret (.var 0)))))) (.call 41 [(.var 3), (.lit (.val (.int .i64 12)))] (.og (.ibin .eql (.var 0) (.lit (.val (.int .i64 0)))) (.apick (.var 0) (.bsl 1 [(.val (.int .i64 0))] 2 [(0, (.lit (.val (.int .i64 0)))), (1, (.lit (.val (.int .i64 65))))] (.call 42 [(.var 6), (.var 0)] (.og (.fldA 0 (.var 4)) (.sto 1 (.var 0) (.var 1) (.jump 0 [(.var 7), (.var 5)]))))) (.og (.ibin .eql (.var 1) (.lit (.val (.int .i64 1)))) (.apick (.var 0) (.bsl 1 [(.val (.int .i64 0))] 2 [(0, (.lit (.val (.int .i64 (-1))))), (1, (.lit (.val (.int .i64 16))))] (.call 42 [(.var 7), (.var 0)] (.og (.fldA 1 (.var 5)) (.sto 1 (.var 0) (.var 1) (.jump 0 [(.var 8), (.var 6)]))))) (.jump 0 [(.var 5), (.var 3)]))))))))))
set_option maxRecDepth 1000000 in
theorem x43_ok : okF TT Tryd.f43 1 x43 = true := by decide +kernel
set_option maxRecDepth 1000000 in
theorem s_spec_l13Bent_ok {a0 : AV} {σ : AH} {R : AEnd → AH → Prop} (h : s_spec_l13Bent a0 σ R) : acall TP fn_spec_l13Bent [a0] σ R :=
  acall_okF (ρ := [a0]) TT_ok Tryd.func43 rfl x43 x43_ok rfl h

/-- loop.example/g00349/spec.l13Fault -/
def s_spec_l13Fault (a0 : AV) (σ : AH) (R : AEnd → AH → Prop) : Prop :=
  jn (X := Tup [16]) (fun x1 σ =>
      apick x1.1 (
        aret (.val (.int .i64 3)) σ R) (
        aret (.val (.int .i64 0)) σ R)) fun k1 =>
    og (anil a0) fun v4 =>
    og (fldA 0 v4) fun v5 =>
    og (lod v5 σ) fun v6 =>
    acall TP fn_spec_l12Size [v6] σ (onr (fun v7 σ =>
    og (aun .not v7) fun v8 =>
    og (gval v8 false false (some a0)) fun v10 =>
    og (gval v8 false false (anil v10)) fun v11 =>
    og (gval v8 false false (fldA 1 v11)) fun v12 =>
    og (gval v8 false false (lod v12 σ)) fun v13 =>
    gpick v8 (
      k1 ((.val (.bool true)), ()) σ) (
      acall TP fn_spec_l11Table [v13] σ (onr (fun v14 σ =>
      og (aun .not v14) fun v15 =>
      k1 (v15, ()) σ) (fun v σ => apan v σ R))) (False)) (fun v σ => apan v σ R))
def x44 : Sx := .jn 13 [16] (.apick (.var 0) (.ret (.lit (.val (.int .i64 3)))) (.ret (.lit (.val (.int .i64 0))))) (.og (.anil (.var 0)) (.og (.fldA 0 (.var 0)) (.og (.lod (.var 0)) (.call 70 [(.var 0)] (.og (.aun .not (.var 0)) (.gog (.var 0) false false (.ret (.var 5)) (.gog (.var 1) false false (.anil (.var 0)) (.gog (.var 2) false false (.fldA 1 (.var 0)) (.gog (.var 3) false false (.lod (.var 0)) (.gpick (.var 4) (.jump 0 [(.lit (.val (.bool true)))]) (.call 71 [(.var 0)] (.og (.aun .not (.var 0)) (.jump 0 [(.var 0)]))) (.no)))))))))))
set_option maxRecDepth 1000000 in
theorem x44_ok : okF TT Tryd.f44 1 x44 = true := by decide +kernel
set_option maxRecDepth 1000000 in
theorem s_spec_l13Fault_ok {a0 : AV} {σ : AH} {R : AEnd → AH → Prop} (h : s_spec_l13Fault a0 σ R) : acall TP fn_spec_l13Fault [a0] σ R :=
  acall_okF (ρ := [a0]) TT_ok Tryd.func44 rfl x44 x44_ok rfl h

/-- loop.example/g00349/impl.isSize -/
def s_impl_isSize (a0 : AV) (σ : AH) (R : AEnd → AH → Prop) : Prop :=
  acall TP fn_impl_in [a0, (.val (.int .i64 1)), (.val (.int .i64 64))] σ (onr (fun v4 σ =>
  aret v4 σ R) (fun v σ => apan v σ R))
def x45 : Sx := .call 54 [(.var 0), (.lit (.val (.int .i64 1))), (.lit (.val (.int .i64 64)))] (.ret (.var 0))
set_option maxRecDepth 1000000 in
theorem x45_ok : okF TT Tryd.f45 1 x45 = true := by decide +kernel
set_option maxRecDepth 1000000 in
theorem s_impl_isSize_ok {a0 : AV} {σ : AH} {R : AEnd → AH → Prop} (h : s_impl_isSize a0 σ R) : acall TP fn_impl_isSize [a0] σ R :=
  acall_okF (ρ := [a0]) TT_ok Tryd.func45 rfl x45 x45_ok rfl h

/-- loop.example/g00349/impl.TableFault -/
def s_impl_TableFault (a0 : AV) (σ : AH) (R : AEnd → AH → Prop) : Prop :=
  acall TP fn_impl_in [a0, (.val (.int .i64 0)), (.val (.int .i64 15))] σ (onr (fun v4 σ =>
  og (aun .not v4) fun v5 =>
  apick v5 (
    aret (.val (.int .i64 3)) σ R) (
    aret (.val (.int .i64 0)) σ R)) (fun v σ => apan v σ R))
def x46 : Sx := .call 54 [(.var 0), (.lit (.val (.int .i64 0))), (.lit (.val (.int .i64 15)))] (.og (.aun .not (.var 0)) (.apick (.var 0) (.ret (.lit (.val (.int .i64 3)))) (.ret (.lit (.val (.int .i64 0))))))
set_option maxRecDepth 1000000 in
theorem x46_ok : okF TT Tryd.f46 1 x46 = true := by decide +kernel
set_option maxRecDepth 1000000 in
theorem s_impl_TableFault_ok {a0 : AV} {σ : AH} {R : AEnd → AH → Prop} (h : s_impl_TableFault a0 σ R) : acall TP fn_impl_TableFault [a0] σ R :=
  acall_okF (ρ := [a0]) TT_ok Tryd.func46 rfl x46 x46_ok rfl h

/-- loop.example/g00349/spec.l15Kind -/
def s_spec_l15Kind (a0 : AV) (σ : AH) (R : AEnd → AH → Prop) : Prop :=
  bsl 1 [(.val (.string ⟨#[]⟩))] 7 [(0, (.val (.string ⟨#[58, 115, 101, 103]⟩))), (1, (.val (.string ⟨#[58, 116, 97, 98, 108, 101]⟩))), (2, (.val (.string ⟨#[58, 112, 101, 101, 112]⟩))), (3, (.val (.string ⟨#[58, 99, 97, 99, 104, 101]⟩))), (4, (.val (.string ⟨#[58, 102, 117, 101, 108]⟩))), (5, (.val (.string ⟨#[58, 99, 111, 114, 101]⟩))), (6, (.val (.string ⟨#[58, 99, 111, 100, 101]⟩)))] σ fun v5 σ =>
  frz v5 σ fun f5 σ =>
  lp (X := Tup [0, 3, 4]) (fun R1 y1 σ =>
    og (lenS y1.2.1) fun v8 =>
    og (ibin .lss y1.2.2.1 v8) fun v9 =>
    apick v9 (
      og (idx 1 y1.2.1 y1.2.2.1 σ) fun v14 =>
      og (lod v14 σ) fun v15 =>
      og (sbin .eql v15 y1.1) fun v17 =>
      apick v17 (
        og (ibin .add y1.2.2.1 (.val (.int .i64 2))) fun v19 =>
        aret v19 σ R) (
        og (ibin .add y1.2.2.1 (.val (.int .i64 1))) fun v11 =>
        R1 (y1.1, y1.2.1, v11, ()) σ)) (
      aret (.val (.int .i64 0)) σ R)) (a0, f5, (.val (.int .i64 0)), ()) σ
def x47 : Sx := .bsl 1 [(.val (.string ⟨#[]⟩))] 7 [(0, (.lit (.val (.string ⟨#[58, 115, 101, 103]⟩)))), (1, (.lit (.val (.string ⟨#[58, 116, 97, 98, 108, 101]⟩)))), (2, (.lit (.val (.string ⟨#[58, 112, 101, 101, 112]⟩)))), (3, (.lit (.val (.string ⟨#[58, 99, 97, 99, 104, 101]⟩)))), (4, (.lit (.val (.string ⟨#[58, 102, 117, 101, 108]⟩)))), (5, (.lit (.val (.string ⟨#[58, 99, 111, 114, 101]⟩)))), (6, (.lit (.val (.string ⟨#[58, 99, 111, 100, 101]⟩))))] (.frz 1 (.var 0) (.lp [0, 3, 4] (.og (.lenS (.var 1)) (.og (.ibin .lss (.var 3) (.var 0)) (.apick (.var 0) (.og (.idx 1 (.var 3) (.var 4)) (.og (.lod (.var 0)) (.og (.sbin .eql (.var 0) (.var 4)) (.apick (.var 0) (.og (.ibin .add (.var 7) (.lit (.val (.int .i64 2)))) (.ret (.var 0))) (.og (.ibin .add (.var 7) (.lit (.val (.int .i64 1)))) (.jump 0 [(.var 6), (.var 7), (.var 0)])))))) (.ret (.lit (.val (.int .i64 0))))))) [(.var 2), (.var 0), (.lit (.val (.int .i64 0)))]))
set_option maxRecDepth 1000000 in
theorem x47_ok : okF TT Tryd.f47 1 x47 = true := by decide +kernel
set_option maxRecDepth 1000000 in
theorem s_spec_l15Kind_ok {a0 : AV} {σ : AH} {R : AEnd → AH → Prop} (h : s_spec_l15Kind a0 σ R) : acall TP fn_spec_l15Kind [a0] σ R :=
  acall_okF (ρ := [a0]) TT_ok Tryd.func47 rfl x47 x47_ok rfl h

/-- loop.example/g00349/spec.l1Parse -/
def s_spec_l1Parse (a0 : AV) (σ : AH) (R : AEnd → AH → Prop) : Prop :=
  jn (X := Tup [0, 4]) (fun x1 σ =>
      og (lenStr x1.1) fun v16 =>
      og (ibin .sub v16 x1.2.1) fun v18 =>
      og (ibin .lss v18 (.val (.int .i64 1))) fun v19 =>
      og (gval v19 false false (some x1.1)) fun v21 =>
      og (gval v19 false false (lenStr v21)) fun v22 =>
      og (gval v19 false false (some x1.2.1)) fun v23 =>
      og (gval v19 false false (ibin .sub v22 v23)) fun v24 =>
      og (gval v19 false false (ibin .gtr v24 (.val (.int .i64 10)))) fun v25 =>
      og (pickV v19 (.val (.bool true)) v25) fun v26 =>
      apick v26 (
        aret (.tup [(.val (.int .i64 0)), (.val (.bool false))]) σ R) (
        lp (X := Tup [0, 4, 5, 6]) (fun R2 y2 σ =>
          og (lenStr y2.1) fun v30 =>
          og (ibin .lss y2.2.2.2.1 v30) fun v31 =>
          apick v31 (
            og (idxStr y2.1 y2.2.2.2.1) fun v36 =>
            og (ibin .lss v36 (.val (.int .u8 48))) fun v37 =>
            og (gval v37 false false (some y2.1)) fun v39 =>
            og (gval v37 false false (some y2.2.2.2.1)) fun v40 =>
            og (gval v37 false false (idxStr v39 v40)) fun v41 =>
            og (gval v37 false false (ibin .gtr v41 (.val (.int .u8 57)))) fun v42 =>
            og (pickV v37 (.val (.bool true)) v42) fun v43 =>
            apick v43 (
              aret (.tup [(.val (.int .i64 0)), (.val (.bool false))]) σ R) (
              og (ibin .mul y2.2.2.1 (.val (.int .i64 10))) fun v45 =>
              og (idxStr y2.1 y2.2.2.2.1) fun v48 =>
              og (ibin .sub v48 (.val (.int .u8 48))) fun v49 =>
              og (convI .i64 v49) fun v50 =>
              og (ibin .add v45 v50) fun v51 =>
              og (ibin .add y2.2.2.2.1 (.val (.int .i64 1))) fun v33 =>
              R2 (y2.1, y2.2.1, v51, v33, ()) σ)) (
            jn (X := Tup [0, 5]) (fun x3 σ =>
                jn (X := Tup [2, 3]) (fun x4 σ =>
                    aret (.tup [x4.1, x4.2.1]) σ R) fun k4 =>
                  acall TP fn_spec_l1Num [x3.2.1] σ (onr (fun v58 σ =>
                  og (gval v58 true false (some x3.2.1)) fun v60 =>
                  gpick v58 (
                    acall TP fn_spec_l1Digits [v60] σ (onr (fun v61 σ =>
                    og (sbin .eql v61 x3.1) fun v63 =>
                    k4 (x3.2.1, v63, ()) σ) (fun v σ => apan v σ R))) (
                    k4 (x3.2.1, (.val (.bool false)), ()) σ) (False)) (fun v σ => apan v σ R))) fun k3 =>
              og (ibin .eql y2.2.1 (.val (.int .i64 1))) fun v53 =>
              apick v53 (
                og (aun .neg y2.2.2.1) fun v55 =>
                k3 (y2.1, v55, ()) σ) (
                k3 (y2.1, y2.2.2.1, ()) σ))) (x1.1, x1.2.1, (.val (.int .i64 0)), x1.2.1, ()) σ)) fun k1 =>
    og (lenStr a0) fun v8 =>
    og (ibin .gtr v8 (.val (.int .i64 0))) fun v9 =>
    og (gval v9 true false (some a0)) fun v11 =>
    og (gval v9 true false (idxStr v11 (.val (.int .i64 0)))) fun v12 =>
    og (gval v9 true false (ibin .eql v12 (.val (.int .u8 45)))) fun v13 =>
    og (pickV v9 v13 (.val (.bool false))) fun v14 =>
    apick v14 (
      k1 (a0, (.val (.int .i64 1)), ()) σ) (
      k1 (a0, (.val (.int .i64 0)), ()) σ)
def x48 : Sx := .jn 15 [0, 4] (.og (.lenStr (.var 0)) (.og (.ibin .sub (.var 0) (.var 2)) (.og (.ibin .lss (.var 0) (.lit (.val (.int .i64 1)))) (.gog (.var 0) false false (.ret (.var 3)) (.gog (.var 1) false false (.lenStr (.var 0)) (.gog (.var 2) false false (.ret (.var 6)) (.gog (.var 3) false false (.ibin .sub (.var 1) (.var 0)) (.gog (.var 4) false false (.ibin .gtr (.var 0) (.lit (.val (.int .i64 10)))) (.og (.pickV (.var 5) (.lit (.val (.bool true))) (.var 0)) (.apick (.var 0) (.rets [(.lit (.val (.int .i64 0))), (.lit (.val (.bool false)))]) (.lp [0, 4, 5, 6] (.og (.lenStr (.var 0)) (.og (.ibin .lss (.var 4) (.var 0)) (.apick (.var 0) (.og (.idxStr (.var 2) (.var 5)) (.og (.ibin .lss (.var 0) (.lit (.val (.int .u8 48)))) (.gog (.var 0) false false (.ret (.var 4)) (.gog (.var 1) false false (.ret (.var 8)) (.gog (.var 2) false false (.idxStr (.var 1) (.var 0)) (.gog (.var 3) false false (.ibin .gtr (.var 0) (.lit (.val (.int .u8 57)))) (.og (.pickV (.var 4) (.lit (.val (.bool true))) (.var 0)) (.apick (.var 0) (.rets [(.lit (.val (.int .i64 0))), (.lit (.val (.bool false)))]) (.og (.ibin .mul (.var 11) (.lit (.val (.int .i64 10)))) (.og (.idxStr (.var 10) (.var 13)) (.og (.ibin .sub (.var 0) (.lit (.val (.int .u8 48)))) (.og (.conv .i64 (.var 0)) (.og (.ibin .add (.var 3) (.var 0)) (.og (.ibin .add (.var 17) (.lit (.val (.int .i64 1)))) (.jump 0 [(.var 15), (.var 16), (.var 1), (.var 0)]))))))))))))))) (.jn 255 [0, 5] (.jn 511 [2, 3] (.rets [(.var 0), (.var 1)]) (.call 72 [(.var 1)] (.gog (.var 0) true false (.ret (.var 2)) (.gpick (.var 1) (.call 65 [(.var 0)] (.og (.sbin .eql (.var 0) (.var 3)) (.jump 0 [(.var 5), (.var 0)]))) (.jump 0 [(.var 3), (.lit (.val (.bool false)))]) (.no))))) (.og (.ibin .eql (.var 3) (.lit (.val (.int .i64 1)))) (.apick (.var 0) (.og (.aun .neg (.var 5)) (.jump 0 [(.var 4), (.var 0)])) (.jump 0 [(.var 3), (.var 5)]))))))) [(.var 9), (.var 10), (.lit (.val (.int .i64 0))), (.var 10)]))))))))))) (.og (.lenStr (.var 0)) (.og (.ibin .gtr (.var 0) (.lit (.val (.int .i64 0)))) (.gog (.var 0) true false (.ret (.var 2)) (.gog (.var 1) true false (.idxStr (.var 0) (.lit (.val (.int .i64 0)))) (.gog (.var 2) true false (.ibin .eql (.var 0) (.lit (.val (.int .u8 45)))) (.og (.pickV (.var 3) (.var 0) (.lit (.val (.bool false)))) (.apick (.var 0) (.jump 0 [(.var 6), (.lit (.val (.int .i64 1)))]) (.jump 0 [(.var 6), (.lit (.val (.int .i64 0)))]))))))))
set_option maxRecDepth 1000000 in
theorem x48_ok : okF TT Tryd.f48 1 x48 = true := by decide +kernel
set_option maxRecDepth 1000000 in
theorem s_spec_l1Parse_ok {a0 : AV} {σ : AH} {R : AEnd → AH → Prop} (h : s_spec_l1Parse a0 σ R) : acall TP fn_spec_l1Parse [a0] σ R :=
  acall_okF (ρ := [a0]) TT_ok Tryd.func48 rfl x48 x48_ok rfl h

/-- loop.example/g00349/spec.l15Bounds -/
def s_spec_l15Bounds (a0 : AV) (σ : AH) (R : AEnd → AH → Prop) : Prop :=
  og (ibin .eql a0 (.val (.int .i64 2))) fun v6 =>
  apick v6 (
    aret (.tup [(.val (.int .i64 1)), (.val (.int .i64 64))]) σ R) (
    og (ibin .eql a0 (.val (.int .i64 3))) fun v8 =>
    apick v8 (
      aret (.tup [(.val (.int .i64 0)), (.val (.int .i64 15))]) σ R) (
      og (ibin .eql a0 (.val (.int .i64 6))) fun v10 =>
      apick v10 (
        aret (.tup [(.val (.int .i64 0)), (.val (.int .i64 400))]) σ R) (
        aret (.tup [(.val (.int .i64 0)), (.val (.int .i64 1))]) σ R)))
def x49 : Sx := .og (.ibin .eql (.var 0) (.lit (.val (.int .i64 2)))) (.apick (.var 0) (.rets [(.lit (.val (.int .i64 1))), (.lit (.val (.int .i64 64)))]) (.og (.ibin .eql (.var 1) (.lit (.val (.int .i64 3)))) (.apick (.var 0) (.rets [(.lit (.val (.int .i64 0))), (.lit (.val (.int .i64 15)))]) (.og (.ibin .eql (.var 2) (.lit (.val (.int .i64 6)))) (.apick (.var 0) (.rets [(.lit (.val (.int .i64 0))), (.lit (.val (.int .i64 400)))]) (.rets [(.lit (.val (.int .i64 0))), (.lit (.val (.int .i64 1)))]))))))
set_option maxRecDepth 1000000 in
theorem x49_ok : okF TT Tryd.f49 1 x49 = true := by decide +kernel
set_option maxRecDepth 1000000 in
theorem s_spec_l15Bounds_ok {a0 : AV} {σ : AH} {R : AEnd → AH → Prop} (h : s_spec_l15Bounds a0 σ R) : acall TP fn_spec_l15Bounds [a0] σ R :=
  acall_okF (ρ := [a0]) TT_ok Tryd.func49 rfl x49 x49_ok rfl h

/-- loop.example/g00349/spec.l1In -/
def s_spec_l1In (a0 a1 a2 : AV) (σ : AH) (R : AEnd → AH → Prop) : Prop :=
  og (ibin .geq a0 a1) fun v9 =>
  og (gval v9 true false (some a0)) fun v11 =>
  og (gval v9 true false (some a2)) fun v12 =>
  og (gval v9 true false (ibin .leq v11 v12)) fun v13 =>
  og (pickV v9 v13 (.val (.bool false))) fun v14 =>
  aret v14 σ R
def x50 : Sx := .og (.ibin .geq (.var 2) (.var 1)) (.gog (.var 0) true false (.ret (.var 3)) (.gog (.var 1) true false (.ret (.var 2)) (.gog (.var 2) true false (.ibin .leq (.var 1) (.var 0)) (.og (.pickV (.var 3) (.var 0) (.lit (.val (.bool false)))) (.ret (.var 0))))))
set_option maxRecDepth 1000000 in
theorem x50_ok : okF TT Tryd.f50 3 x50 = true := by decide +kernel
set_option maxRecDepth 1000000 in
theorem s_spec_l1In_ok {a0 a1 a2 : AV} {σ : AH} {R : AEnd → AH → Prop} (h : s_spec_l1In a0 a1 a2 σ R) : acall TP fn_spec_l1In [a0, a1, a2] σ R :=
  acall_okF (ρ := [a2, a1, a0]) TT_ok Tryd.func50 rfl x50 x50_ok rfl h

/-- loop.example/g00349/impl.in -/
def s_impl_in (a0 a1 a2 : AV) (σ : AH) (R : AEnd → AH → Prop) : Prop :=
  og (ibin .leq a1 a0) fun v9 =>
  og (gval v9 true false (some a0)) fun v11 =>
  og (gval v9 true false (some a2)) fun v12 =>
  og (gval v9 true false (ibin .leq v11 v12)) fun v13 =>
  og (pickV v9 v13 (.val (.bool false))) fun v14 =>
  aret v14 σ R
def x54 : Sx := .og (.ibin .leq (.var 1) (.var 2)) (.gog (.var 0) true false (.ret (.var 3)) (.gog (.var 1) true false (.ret (.var 2)) (.gog (.var 2) true false (.ibin .leq (.var 1) (.var 0)) (.og (.pickV (.var 3) (.var 0) (.lit (.val (.bool false)))) (.ret (.var 0))))))
set_option maxRecDepth 1000000 in
theorem x54_ok : okF TT Tryd.f54 3 x54 = true := by decide +kernel
set_option maxRecDepth 1000000 in
theorem s_impl_in_ok {a0 a1 a2 : AV} {σ : AH} {R : AEnd → AH → Prop} (h : s_impl_in a0 a1 a2 σ R) : acall TP fn_impl_in [a0, a1, a2] σ R :=
  acall_okF (ρ := [a2, a1, a0]) TT_ok Tryd.func54 rfl x54 x54_ok rfl h

/-- slices.IndexFunc[[]string,string] -/
def s_slices_IndexFunc (a0 a1 : AV) (σ : AH) (R : AEnd → AH → Prop) : Prop :=
  og (lenS a0) fun v7 =>
  lp (X := Tup [0, 1, 7, 8]) (fun R1 y1 σ =>
    og (ibin .lss y1.2.2.2.1 y1.2.2.1) fun v9 =>
    apick v9 (
      og (idx 1 y1.1 y1.2.2.2.1 σ) fun v14 =>
      og (lod v14 σ) fun v15 =>
      acallv TP y1.2.1 [v15] σ (onr (fun v16 σ =>
      apick v16 (
        aret y1.2.2.2.1 σ R) (
        og (ibin .add y1.2.2.2.1 (.val (.int .i64 1))) fun v18 =>
        R1 (y1.1, y1.2.1, y1.2.2.1, v18, ()) σ)) (fun v σ => apan v σ R))) (
      aret (.val (.int .i64 (-1))) σ R)) (a0, a1, v7, (.val (.int .i64 0)), ()) σ
def x55 : Sx := .og (.lenS (.var 1)) (.lp [0, 1, 7, 8] (.og (.ibin .lss (.var 3) (.var 2)) (.apick (.var 0) (.og (.idx 1 (.var 1) (.var 4)) (.og (.lod (.var 0)) (.callv (.var 4) [(.var 0)] (.apick (.var 0) (.ret (.var 7)) (.og (.ibin .add (.var 7) (.lit (.val (.int .i64 1)))) (.jump 0 [(.var 5), (.var 6), (.var 7), (.var 0)])))))) (.ret (.lit (.val (.int .i64 (-1))))))) [(.var 2), (.var 1), (.var 0), (.lit (.val (.int .i64 0)))])
set_option maxRecDepth 1000000 in
theorem x55_ok : okF TT Tryd.f55 2 x55 = true := by decide +kernel
set_option maxRecDepth 1000000 in
theorem s_slices_IndexFunc_ok {a0 a1 : AV} {σ : AH} {R : AEnd → AH → Prop} (h : s_slices_IndexFunc a0 a1 σ R) : acall TP fn_slices_IndexFunc [a0, a1] σ R :=
  acall_okF (ρ := [a1, a0]) TT_ok Tryd.func55 rfl x55 x55_ok rfl h

/-- loop.example/g00349/laws.markText -/
def s_laws_markText (a0 : AV) (σ : AH) (R : AEnd → AH → Prop) : Prop :=
  og (ibin .leq a0 (.val (.int .i64 0))) fun v5 =>
  apick v5 (
    aret (.val (.string ⟨#[109, 48]⟩)) σ R) (
    lp (X := Tup [0, 3]) (fun R1 y1 σ =>
      og (ibin .gtr y1.1 (.val (.int .i64 0))) fun v7 =>
      apick v7 (
        og (ibin .rem y1.1 (.val (.int .i64 10))) fun v9 =>
        og (ibin .add (.val (.int .i64 48)) v9) fun v10 =>
        og (convI .u8 v10) fun v11 =>
        bsl 1 [(.val (.int .u8 0))] 1 [(0, v11)] σ fun v12 σ =>
        aconv TT ty_Lb ty_s v12 σ fun v13 σ =>
        og (sbin .add v13 y1.2.1) fun v15 =>
        og (ibin .quo y1.1 (.val (.int .i64 10))) fun v17 =>
        R1 (v17, v15, ()) σ) (
        og (sbin .add (.val (.string ⟨#[109]⟩)) y1.2.1) fun v19 =>
        aret v19 σ R)) (a0, (.val (.string ⟨#[]⟩)), ()) σ)
def x64 : Sx := .og (.ibin .leq (.var 0) (.lit (.val (.int .i64 0)))) (.apick (.var 0) (.ret (.lit (.val (.string ⟨#[109, 48]⟩)))) (.lp [0, 3] (.og (.ibin .gtr (.var 0) (.lit (.val (.int .i64 0)))) (.apick (.var 0) (.og (.ibin .rem (.var 1) (.lit (.val (.int .i64 10)))) (.og (.ibin .add (.lit (.val (.int .i64 48))) (.var 0)) (.og (.conv .u8 (.var 0)) (.bsl 1 [(.val (.int .u8 0))] 1 [(0, (.var 0))] (.cnv 35 9 (.var 0) (.og (.sbin .add (.var 0) (.var 7)) (.og (.ibin .quo (.var 7) (.lit (.val (.int .i64 10)))) (.jump 0 [(.var 0), (.var 1)])))))))) (.og (.sbin .add (.lit (.val (.string ⟨#[109]⟩))) (.var 2)) (.ret (.var 0))))) [(.var 1), (.lit (.val (.string ⟨#[]⟩)))]))
set_option maxRecDepth 1000000 in
theorem x64_ok : okF TT Tryd.f64 1 x64 = true := by decide +kernel
set_option maxRecDepth 1000000 in
theorem s_laws_markText_ok {a0 : AV} {σ : AH} {R : AEnd → AH → Prop} (h : s_laws_markText a0 σ R) : acall TP fn_laws_markText [a0] σ R :=
  acall_okF (ρ := [a0]) TT_ok Tryd.func64 rfl x64 x64_ok rfl h

/-- loop.example/g00349/spec.l1Digits -/
def s_spec_l1Digits (a0 : AV) (σ : AH) (R : AEnd → AH → Prop) : Prop :=
  og (ibin .lss a0 (.val (.int .i64 0))) fun v4 =>
  apick v4 (
    og (aun .neg a0) fun v6 =>
    acall TP fn_spec_l1Digits [v6] σ (onr (fun v7 σ =>
    og (sbin .add (.val (.string ⟨#[45]⟩)) v7) fun v8 =>
    aret v8 σ R) (fun v σ => apan v σ R))) (
    og (ibin .lss a0 (.val (.int .i64 10))) fun v10 =>
    apick v10 (
      og (ibin .add (.val (.int .i64 48)) a0) fun v12 =>
      og (convI .u8 v12) fun v13 =>
      bsl 1 [(.val (.int .u8 0))] 1 [(0, v13)] σ fun v14 σ =>
      aconv TT ty_Lb ty_s v14 σ fun v15 σ =>
      aret v15 σ R) (
      og (ibin .quo a0 (.val (.int .i64 10))) fun v17 =>
      og (ibin .rem a0 (.val (.int .i64 10))) fun v20 =>
      og (ibin .add (.val (.int .i64 48)) v20) fun v21 =>
      og (convI .u8 v21) fun v22 =>
      og (bslR 1 [(.val (.int .u8 0))] 1 [(0, v22)]) fun v23 =>
      og (b2s v23) fun v24 =>
      acall TP fn_spec_l1Digits [v17] σ (onr (fun v18 σ =>
      (True) ∧
      og (sbin .add v18 v24) fun v25 =>
      aret v25 σ R) (fun v σ => apan v σ R))))
def x65 : Sx := .og (.ibin .lss (.var 0) (.lit (.val (.int .i64 0)))) (.apick (.var 0) (.og (.aun .neg (.var 1)) (.call 65 [(.var 0)] (.og (.sbin .add (.lit (.val (.string ⟨#[45]⟩))) (.var 0)) (.ret (.var 0))))) (.og (.ibin .lss (.var 1) (.lit (.val (.int .i64 10)))) (.apick (.var 0) (.og (.ibin .add (.lit (.val (.int .i64 48))) (.var 2)) (.og (.conv .u8 (.var 0)) (.bsl 1 [(.val (.int .u8 0))] 1 [(0, (.var 0))] (.cnv 35 9 (.var 0) (.ret (.var 0)))))) (.ord [0, 1, 3, 4, 5, 6, 7, 8, 2, 9, 10] [0, 1, 3, 0, 8, 24, 56, 120, 248, 511, 1023] (.og (.ibin .quo (.var 2) (.lit (.val (.int .i64 10)))) (.og (.ibin .rem (.var 3) (.lit (.val (.int .i64 10)))) (.og (.ibin .add (.lit (.val (.int .i64 48))) (.var 0)) (.og (.conv .u8 (.var 0)) (.og (.bslR 1 [(.val (.int .u8 0))] 1 [(0, (.var 0))]) (.og (.b2s (.var 0)) (.call 65 [(.var 5)] (.wat [] (.og (.sbin .add (.var 0) (.var 1)) (.ret (.var 0)))))))))))))))
set_option maxRecDepth 1000000 in
theorem x65_ok : okF TT Tryd.f65 1 x65 = true := by decide +kernel
set_option maxRecDepth 1000000 in
theorem s_spec_l1Digits_ok {a0 : AV} {σ : AH} {R : AEnd → AH → Prop} (h : s_spec_l1Digits a0 σ R) : acall TP fn_spec_l1Digits [a0] σ R :=
  acall_okF (ρ := [a0]) TT_ok Tryd.func65 rfl x65 x65_ok rfl h

/-- strconv.ParseInt -/
def s_strconv_ParseInt (a0 a1 a2 : AV) (σ : AH) (R : AEnd → AH → Prop) : Prop :=
  acall TP fn_internal_strconv_ParseInt [a0, a1, a2] σ (onr (fun v13 σ =>
  og (aext v13 0) fun v14 =>
  og (aext v13 1) fun v15 =>
  abin TT .neq ty_interface90 v15 (.val .nilIface) fun v17 =>
  apick v17 (
    acall TP fn_strconv_toError [(.val (.string ⟨#[80, 97, 114, 115, 101, 73, 110, 116]⟩)), a0, a1, a2, v15] σ (onr (fun v23 σ =>
    aret (.tup [v14, v23]) σ R) (fun v σ => apan v σ R))) (
    aret (.tup [v14, (.val .nilIface)]) σ R)) (fun v σ => apan v σ R))
def x66 : Sx := .call 82 [(.var 2), (.var 1), (.var 0)] (.og (.aext (.var 0) 0) (.og (.aext (.var 1) 1) (.cmp .neq 90 (.var 0) (.lit (.val .nilIface)) (.apick (.var 0) (.call 83 [(.lit (.val (.string ⟨#[80, 97, 114, 115, 101, 73, 110, 116]⟩))), (.var 6), (.var 5), (.var 4), (.var 1)] (.rets [(.var 3), (.var 0)])) (.rets [(.var 2), (.lit (.val .nilIface))])))))
set_option maxRecDepth 1000000 in
theorem x66_ok : okF TT Tryd.f66 3 x66 = true := by decide +kernel
set_option maxRecDepth 1000000 in
theorem s_strconv_ParseInt_ok {a0 a1 a2 : AV} {σ : AH} {R : AEnd → AH → Prop} (h : s_strconv_ParseInt a0 a1 a2 σ R) : acall TP fn_strconv_ParseInt [a0, a1, a2] σ R :=
  acall_okF (ρ := [a2, a1, a0]) TT_ok Tryd.func66 rfl x66 x66_ok rfl h

/-- loop.example/g00349/impl.NumFault -/
def s_impl_NumFault (a0 : AV) (σ : AH) (R : AEnd → AH → Prop) : Prop :=
  acall TP fn_impl_in [a0, (.val (.int .i64 (-1000000000))), (.val (.int .i64 1000000000))] σ (onr (fun v4 σ =>
  og (aun .not v4) fun v5 =>
  apick v5 (
    aret (.val (.int .i64 3)) σ R) (
    aret (.val (.int .i64 0)) σ R)) (fun v σ => apan v σ R))
def x67 : Sx := .call 54 [(.var 0), (.lit (.val (.int .i64 (-1000000000)))), (.lit (.val (.int .i64 1000000000)))] (.og (.aun .not (.var 0)) (.apick (.var 0) (.ret (.lit (.val (.int .i64 3)))) (.ret (.lit (.val (.int .i64 0))))))
set_option maxRecDepth 1000000 in
theorem x67_ok : okF TT Tryd.f67 1 x67 = true := by decide +kernel
set_option maxRecDepth 1000000 in
theorem s_impl_NumFault_ok {a0 : AV} {σ : AH} {R : AEnd → AH → Prop} (h : s_impl_NumFault a0 σ R) : acall TP fn_impl_NumFault [a0] σ R :=
  acall_okF (ρ := [a0]) TT_ok Tryd.func67 rfl x67 x67_ok rfl h

/-- loop.example/g00349/impl.dec -/
def s_impl_dec (a0 : AV) (σ : AH) (R : AEnd → AH → Prop) : Prop :=
  acall TP fn_strconv_FormatInt [a0, (.val (.int .i64 10))] σ (onr (fun v4 σ =>
  aret v4 σ R) (fun v σ => apan v σ R))
def x68 : Sx := .call 84 [(.var 0), (.lit (.val (.int .i64 10)))] (.ret (.var 0))
set_option maxRecDepth 1000000 in
theorem x68_ok : okF TT Tryd.f68 1 x68 = true := by decide +kernel
set_option maxRecDepth 1000000 in
theorem s_impl_dec_ok {a0 : AV} {σ : AH} {R : AEnd → AH → Prop} (h : s_impl_dec a0 σ R) : acall TP fn_impl_dec [a0] σ R :=
  acall_okF (ρ := [a0]) TT_ok Tryd.func68 rfl x68 x68_ok rfl h

/-- loop.example/g00349/spec.l1Chance -/
def s_spec_l1Chance (a0 a1 : AV) (σ : AH) (R : AEnd → AH → Prop) : Prop :=
  acall TP fn_spec_l1Next [a0, a1] σ (onr (fun v7 σ =>
  og (ibin .eql v7 (.val (.int .i64 0))) fun v8 =>
  aret v8 σ R) (fun v σ => apan v σ R))
def x69 : Sx := .call 41 [(.var 1), (.var 0)] (.og (.ibin .eql (.var 0) (.lit (.val (.int .i64 0)))) (.ret (.var 0)))
set_option maxRecDepth 1000000 in
theorem x69_ok : okF TT Tryd.f69 2 x69 = true := by decide +kernel
set_option maxRecDepth 1000000 in
theorem s_spec_l1Chance_ok {a0 a1 : AV} {σ : AH} {R : AEnd → AH → Prop} (h : s_spec_l1Chance a0 a1 σ R) : acall TP fn_spec_l1Chance [a0, a1] σ R :=
  acall_okF (ρ := [a1, a0]) TT_ok Tryd.func69 rfl x69 x69_ok rfl h

/-- loop.example/g00349/spec.l12Size -/
def s_spec_l12Size (a0 : AV) (σ : AH) (R : AEnd → AH → Prop) : Prop :=
  acall TP fn_spec_l1In [a0, (.val (.int .i64 1)), (.val (.int .i64 64))] σ (onr (fun v4 σ =>
  aret v4 σ R) (fun v σ => apan v σ R))
def x70 : Sx := .call 50 [(.var 0), (.lit (.val (.int .i64 1))), (.lit (.val (.int .i64 64)))] (.ret (.var 0))
set_option maxRecDepth 1000000 in
theorem x70_ok : okF TT Tryd.f70 1 x70 = true := by decide +kernel
set_option maxRecDepth 1000000 in
theorem s_spec_l12Size_ok {a0 : AV} {σ : AH} {R : AEnd → AH → Prop} (h : s_spec_l12Size a0 σ R) : acall TP fn_spec_l12Size [a0] σ R :=
  acall_okF (ρ := [a0]) TT_ok Tryd.func70 rfl x70 x70_ok rfl h

/-- loop.example/g00349/spec.l11Table -/
def s_spec_l11Table (a0 : AV) (σ : AH) (R : AEnd → AH → Prop) : Prop :=
  acall TP fn_spec_l1In [a0, (.val (.int .i64 0)), (.val (.int .i64 15))] σ (onr (fun v4 σ =>
  aret v4 σ R) (fun v σ => apan v σ R))
def x71 : Sx := .call 50 [(.var 0), (.lit (.val (.int .i64 0))), (.lit (.val (.int .i64 15)))] (.ret (.var 0))
set_option maxRecDepth 1000000 in
theorem x71_ok : okF TT Tryd.f71 1 x71 = true := by decide +kernel
set_option maxRecDepth 1000000 in
theorem s_spec_l11Table_ok {a0 : AV} {σ : AH} {R : AEnd → AH → Prop} (h : s_spec_l11Table a0 σ R) : acall TP fn_spec_l11Table [a0] σ R :=
  acall_okF (ρ := [a0]) TT_ok Tryd.func71 rfl x71 x71_ok rfl h

/-- loop.example/g00349/spec.l1Num -/
def s_spec_l1Num (a0 : AV) (σ : AH) (R : AEnd → AH → Prop) : Prop :=
  acall TP fn_spec_l1In [a0, (.val (.int .i64 (-1000000000))), (.val (.int .i64 1000000000))] σ (onr (fun v4 σ =>
  aret v4 σ R) (fun v σ => apan v σ R))
def x72 : Sx := .call 50 [(.var 0), (.lit (.val (.int .i64 (-1000000000)))), (.lit (.val (.int .i64 1000000000)))] (.ret (.var 0))
set_option maxRecDepth 1000000 in
theorem x72_ok : okF TT Tryd.f72 1 x72 = true := by decide +kernel
set_option maxRecDepth 1000000 in
theorem s_spec_l1Num_ok {a0 : AV} {σ : AH} {R : AEnd → AH → Prop} (h : s_spec_l1Num a0 σ R) : acall TP fn_spec_l1Num [a0] σ R :=
  acall_okF (ρ := [a0]) TT_ok Tryd.func72 rfl x72 x72_ok rfl h

/-- strconv.FormatInt -/
def s_strconv_FormatInt (a0 a1 : AV) (σ : AH) (R : AEnd → AH → Prop) : Prop :=
  acall TP fn_internal_strconv_FormatInt [a0, a1] σ (onr (fun v7 σ =>
  aret v7 σ R) (fun v σ => apan v σ R))
def x84 : Sx := .call 96 [(.var 1), (.var 0)] (.ret (.var 0))
set_option maxRecDepth 1000000 in
theorem x84_ok : okF TT Tryd.f84 2 x84 = true := by decide +kernel
set_option maxRecDepth 1000000 in
theorem s_strconv_FormatInt_ok {a0 a1 : AV} {σ : AH} {R : AEnd → AH → Prop} (h : s_strconv_FormatInt a0 a1 σ R) : acall TP fn_strconv_FormatInt [a0, a1] σ R :=
  acall_okF (ρ := [a1, a0]) TT_ok Tryd.func84 rfl x84 x84_ok rfl h

/-- internal/strconv.FormatInt -/
def s_internal_strconv_FormatInt (a0 a1 : AV) (σ : AH) (R : AEnd → AH → Prop) : Prop :=
  og (ibin .eql a1 (.val (.int .i64 10))) fun v11 =>
  apick v11 (
    og (ibin .leq (.val (.int .i64 0)) a0) fun v13 =>
    og (gval v13 true false (some a0)) fun v15 =>
    og (gval v13 true false (ibin .lss v15 (.val (.int .i64 100)))) fun v16 =>
    og (pickV v13 v16 (.val (.bool false))) fun v17 =>
    apick v17 (
      acall TP fn_internal_strconv_small [a0] σ (onr (fun v19 σ =>
      aret v19 σ R) (fun v σ => apan v σ R))) (False)) (False)
def x96 : Sx := .og (.ibin .eql (.var 0) (.lit (.val (.int .i64 10)))) (.apick (.var 0) (.og (.ibin .leq (.lit (.val (.int .i64 0))) (.var 2)) (.gog (.var 0) true false (.ret (.var 3)) (.gog (.var 1) true false (.ibin .lss (.var 0) (.lit (.val (.int .i64 100)))) (.og (.pickV (.var 2) (.var 0) (.lit (.val (.bool false)))) (.apick (.var 0) (.call 108 [(.var 6)] (.ret (.var 0))) (.no)))))) (.no))
set_option maxRecDepth 1000000 in
theorem x96_ok : okF TT Tryd.f96 2 x96 = true := by decide +kernel
set_option maxRecDepth 1000000 in
theorem s_internal_strconv_FormatInt_ok {a0 a1 : AV} {σ : AH} {R : AEnd → AH → Prop} (h : s_internal_strconv_FormatInt a0 a1 σ R) : acall TP fn_internal_strconv_FormatInt [a0, a1] σ R :=
  acall_okF (ρ := [a1, a0]) TT_ok Tryd.func96 rfl x96 x96_ok rfl h

/-- internal/strconv.small -/
def s_internal_strconv_small (a0 : AV) (σ : AH) (R : AEnd → AH → Prop) : Prop :=
  og (ibin .lss a0 (.val (.int .i64 10))) fun v4 =>
  apick v4 (
    og (ibin .add a0 (.val (.int .i64 1))) fun v7 =>
    og (slcStr (.val (.string ⟨#[48, 49, 50, 51, 52, 53, 54, 55, 56, 57, 97, 98, 99, 100, 101, 102, 103, 104, 105, 106, 107, 108, 109, 110, 111, 112, 113, 114, 115, 116, 117, 118, 119, 120, 121, 122]⟩)) (some a0) (some v7)) fun v8 =>
    aret v8 σ R) (
    og (ibin .mul a0 (.val (.int .i64 2))) fun v10 =>
    og (ibin .mul a0 (.val (.int .i64 2))) fun v12 =>
    og (ibin .add v12 (.val (.int .i64 2))) fun v13 =>
    og (slcStr (.val (.string ⟨#[48, 48, 48, 49, 48, 50, 48, 51, 48, 52, 48, 53, 48, 54, 48, 55, 48, 56, 48, 57, 49, 48, 49, 49, 49, 50, 49, 51, 49, 52, 49, 53, 49, 54, 49, 55, 49, 56, 49, 57, 50, 48, 50, 49, 50, 50, 50, 51, 50, 52, 50, 53, 50, 54, 50, 55, 50, 56, 50, 57, 51, 48, 51, 49, 51, 50, 51, 51, 51, 52, 51, 53, 51, 54, 51, 55, 51, 56, 51, 57, 52, 48, 52, 49, 52, 50, 52, 51, 52, 52, 52, 53, 52, 54, 52, 55, 52, 56, 52, 57, 53, 48, 53, 49, 53, 50, 53, 51, 53, 52, 53, 53, 53, 54, 53, 55, 53, 56, 53, 57, 54, 48, 54, 49, 54, 50, 54, 51, 54, 52, 54, 53, 54, 54, 54, 55, 54, 56, 54, 57, 55, 48, 55, 49, 55, 50, 55, 51, 55, 52, 55, 53, 55, 54, 55, 55, 55, 56, 55, 57, 56, 48, 56, 49, 56, 50, 56, 51, 56, 52, 56, 53, 56, 54, 56, 55, 56, 56, 56, 57, 57, 48, 57, 49, 57, 50, 57, 51, 57, 52, 57, 53, 57, 54, 57, 55, 57, 56, 57, 57]⟩)) (some v10) (some v13)) fun v14 =>
    aret v14 σ R)
def x108 : Sx := .og (.ibin .lss (.var 0) (.lit (.val (.int .i64 10)))) (.apick (.var 0) (.og (.ibin .add (.var 1) (.lit (.val (.int .i64 1)))) (.og (.slcStr (.lit (.val (.string ⟨#[48, 49, 50, 51, 52, 53, 54, 55, 56, 57, 97, 98, 99, 100, 101, 102, 103, 104, 105, 106, 107, 108, 109, 110, 111, 112, 113, 114, 115, 116, 117, 118, 119, 120, 121, 122]⟩))) (some (.var 2)) (some (.var 0))) (.ret (.var 0)))) (.og (.ibin .mul (.var 1) (.lit (.val (.int .i64 2)))) (.og (.ibin .mul (.var 2) (.lit (.val (.int .i64 2)))) (.og (.ibin .add (.var 0) (.lit (.val (.int .i64 2)))) (.og (.slcStr (.lit (.val (.string ⟨#[48, 48, 48, 49, 48, 50, 48, 51, 48, 52, 48, 53, 48, 54, 48, 55, 48, 56, 48, 57, 49, 48, 49, 49, 49, 50, 49, 51, 49, 52, 49, 53, 49, 54, 49, 55, 49, 56, 49, 57, 50, 48, 50, 49, 50, 50, 50, 51, 50, 52, 50, 53, 50, 54, 50, 55, 50, 56, 50, 57, 51, 48, 51, 49, 51, 50, 51, 51, 51, 52, 51, 53, 51, 54, 51, 55, 51, 56, 51, 57, 52, 48, 52, 49, 52, 50, 52, 51, 52, 52, 52, 53, 52, 54, 52, 55, 52, 56, 52, 57, 53, 48, 53, 49, 53, 50, 53, 51, 53, 52, 53, 53, 53, 54, 53, 55, 53, 56, 53, 57, 54, 48, 54, 49, 54, 50, 54, 51, 54, 52, 54, 53, 54, 54, 54, 55, 54, 56, 54, 57, 55, 48, 55, 49, 55, 50, 55, 51, 55, 52, 55, 53, 55, 54, 55, 55, 55, 56, 55, 57, 56, 48, 56, 49, 56, 50, 56, 51, 56, 52, 56, 53, 56, 54, 56, 55, 56, 56, 56, 57, 57, 48, 57, 49, 57, 50, 57, 51, 57, 52, 57, 53, 57, 54, 57, 55, 57, 56, 57, 57]⟩))) (some (.var 2)) (some (.var 0))) (.ret (.var 0)))))))
set_option maxRecDepth 1000000 in
theorem x108_ok : okF TT Tryd.f108 1 x108 = true := by decide +kernel
set_option maxRecDepth 1000000 in
theorem s_internal_strconv_small_ok {a0 : AV} {σ : AH} {R : AEnd → AH → Prop} (h : s_internal_strconv_small a0 σ R) : acall TP fn_internal_strconv_small [a0] σ R :=
  acall_okF (ρ := [a0]) TT_ok Tryd.func108 rfl x108 x108_ok rfl h

end Go.Proofs.YtohmmedckdialaaDoor.E
