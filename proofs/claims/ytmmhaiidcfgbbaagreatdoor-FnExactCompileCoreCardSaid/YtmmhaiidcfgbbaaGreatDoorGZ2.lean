/- What functions come to. Printed by mkg.py. -/
import Derived.Test.YtmmhaiidcfgbbaaGreatDoorGZ0
namespace Go.Proofs.YtmmhaiidcfgbbaaGreatDoor.E
open Go Go.RowKit
set_option linter.unusedVariables false
set_option linter.unusedSectionVars false
variable [Lam]
/-- loop.example/g00349/laws.toDatum -/
def s_laws_toDatum (a0 : AV) (σ : AH) (R : AEnd → AH → Prop) : Prop :=
  abox a0 σ fun v1 σ =>
  new [(.val (.int .i64 0)), (.val (.int .i64 0)), (.val (.int .i64 0)), (.val (.string ⟨#[]⟩))] σ fun v2 σ =>
  frz v1 σ fun f1 σ =>
  new [(.val (.int .i64 0)), (.val (.int .i64 0)), (.val (.int .i64 0)), (.val (.string ⟨#[]⟩))] σ fun v3 σ =>
  og (fldA 0 f1) fun v4 =>
  og (lod v4 σ) fun v5 =>
  og (fldA 0 v3) fun v6 =>
  sto 1 v6 v5 σ fun σ =>
  og (fldA 1 f1) fun v7 =>
  og (lod v7 σ) fun v8 =>
  og (fldA 1 v3) fun v9 =>
  sto 1 v9 v8 σ fun σ =>
  og (fldA 2 f1) fun v10 =>
  og (lod v10 σ) fun v11 =>
  og (fldA 2 v3) fun v12 =>
  sto 1 v12 v11 σ fun σ =>
  og (fldA 3 f1) fun v13 =>
  og (lod v13 σ) fun v14 =>
  og (fldA 3 v3) fun v15 =>
  sto 1 v15 v14 σ fun σ =>
  frz v3 σ fun f3 σ =>
  og (lodA 4 f3 σ) fun v16 =>
  sto 4 v2 v16 σ fun σ =>
  og (lodA 4 v2 σ) fun r2 =>
  aret r2 σ R
def x54 : Sx := .box (.var 0) (.new [(.val (.int .i64 0)), (.val (.int .i64 0)), (.val (.int .i64 0)), (.val (.string ⟨#[]⟩))] (.frz 1 (.var 1) (.new [(.val (.int .i64 0)), (.val (.int .i64 0)), (.val (.int .i64 0)), (.val (.string ⟨#[]⟩))] (.og (.fldA 0 (.var 1)) (.og (.lod (.var 0)) (.og (.fldA 0 (.var 2)) (.sto 1 (.var 0) (.var 1) (.og (.fldA 1 (.var 4)) (.og (.lod (.var 0)) (.og (.fldA 1 (.var 5)) (.sto 1 (.var 0) (.var 1) (.og (.fldA 2 (.var 7)) (.og (.lod (.var 0)) (.og (.fldA 2 (.var 8)) (.sto 1 (.var 0) (.var 1) (.og (.fldA 3 (.var 10)) (.og (.lod (.var 0)) (.og (.fldA 3 (.var 11)) (.sto 1 (.var 0) (.var 1) (.frz 4 (.var 12) (.og (.lodA 4 (.var 0)) (.sto 4 (.var 16) (.var 0) (.og (.lodA 4 (.var 16)) (.ret (.var 0)))))))))))))))))))))))))
set_option maxRecDepth 1000000 in
theorem x54_ok : okF TT Tryz.f54 1 x54 = true := by decide +kernel
set_option maxRecDepth 1000000 in
theorem s_laws_toDatum_ok {a0 : AV} {σ : AH} {R : AEnd → AH → Prop} (h : s_laws_toDatum a0 σ R) : acall TP fn_laws_toDatum [a0] σ R :=
  acall_okF (ρ := [a0]) TT_ok Tryz.func54 rfl x54 x54_ok rfl h

/-- loop.example/g00349/impl.coreForm -/
def s_impl_coreForm (a0 : AV) (σ : AH) (R : AEnd → AH → Prop) : Prop :=
  abox a0 σ fun v1 σ =>
  jn (X := Tup [2]) (fun x1 σ =>
      aret x1.1 σ R) fun k1 =>
    frz v1 σ fun f1 σ =>
    og (fldA 0 f1) fun v3 =>
    og (lod v3 σ) fun v4 =>
    acall TP fn_impl_in [v4, (.val (.int .i64 1)), (.val (.int .i64 9))] σ (onr (fun v5 σ =>
    og (gval v5 true false (fldA 2 f1)) fun v7 =>
    og (gval v5 true false (lod v7 σ)) fun v8 =>
    og (gval v5 true false (ibin .eql v8 (.val (.int .i64 0)))) fun v9 =>
    og (gval v5 true false (some v9)) fun v10 =>
    og (gval v10 false true (fldA 0 f1)) fun v11 =>
    og (gval v10 false true (lod v11 σ)) fun v12 =>
    og (gval v10 false true (ibin .eql v12 (.val (.int .i64 2)))) fun v13 =>
    og (gval v5 true false (pickV v10 (.val (.bool true)) v13)) fun v14 =>
    og (gval v5 true false (some v14)) fun v15 =>
    og (gval v15 false true (fldA 0 f1)) fun v16 =>
    og (gval v15 false true (lod v16 σ)) fun v17 =>
    og (gval v15 false true (ibin .eql v17 (.val (.int .i64 5)))) fun v18 =>
    og (gval v5 true false (pickV v15 (.val (.bool true)) v18)) fun v19 =>
    og (pickV v5 v19 (.val (.bool false))) fun v20 =>
    og (gval v20 true false (fldA 3 f1)) fun v22 =>
    og (gval v20 true false (lod v22 σ)) fun v23 =>
    og (gval v20 true false (ibin .eql v23 (.val (.int .i64 0)))) fun v24 =>
    og (gval v20 true false (some v24)) fun v25 =>
    og (gval v25 false true (fldA 0 f1)) fun v26 =>
    og (gval v25 false true (lod v26 σ)) fun v27 =>
    og (gval v25 false true (ibin .eql v27 (.val (.int .i64 2)))) fun v28 =>
    og (gval v20 true false (pickV v25 (.val (.bool true)) v28)) fun v29 =>
    og (pickV v20 v29 (.val (.bool false))) fun v30 =>
    og (gval v30 true false (fldA 4 f1)) fun v32 =>
    og (gval v30 true false (lod v32 σ)) fun v33 =>
    og (gval v30 true false (sbin .eql v33 (.val (.string ⟨#[]⟩)))) fun v34 =>
    og (gval v30 true false (some v34)) fun v35 =>
    og (gval v35 false true (fldA 0 f1)) fun v36 =>
    og (gval v35 false true (lod v36 σ)) fun v37 =>
    gpick v35 (
      og (gval v30 true false (some (.val (.bool true)))) fun v39 =>
      og (pickV v30 v39 (.val (.bool false))) fun v40 =>
      og (gval v40 true false (fldA 5 f1)) fun v42 =>
      og (gval v40 true false (lod v42 σ)) fun v43 =>
      og (gval v40 true false (lenS v43)) fun v44 =>
      og (gval v40 true false (ibin .eql v44 (.val (.int .i64 0)))) fun v45 =>
      og (gval v40 true false (some v45)) fun v46 =>
      og (gval v46 false true (fldA 0 f1)) fun v47 =>
      og (gval v46 false true (lod v47 σ)) fun v48 =>
      og (gval v46 false true (ibin .eql v48 (.val (.int .i64 1)))) fun v49 =>
      og (gval v40 true false (pickV v46 (.val (.bool true)) v49)) fun v50 =>
      og (pickV v40 v50 (.val (.bool false))) fun v51 =>
      k1 (v51, ()) σ) (
      acall TP fn_impl_named [v37] σ (onr (fun v38 σ =>
      og (gval v30 true false (some v38)) fun v39 =>
      og (pickV v30 v39 (.val (.bool false))) fun v40 =>
      og (gval v40 true false (fldA 5 f1)) fun v42 =>
      og (gval v40 true false (lod v42 σ)) fun v43 =>
      og (gval v40 true false (lenS v43)) fun v44 =>
      og (gval v40 true false (ibin .eql v44 (.val (.int .i64 0)))) fun v45 =>
      og (gval v40 true false (some v45)) fun v46 =>
      og (gval v46 false true (fldA 0 f1)) fun v47 =>
      og (gval v46 false true (lod v47 σ)) fun v48 =>
      og (gval v46 false true (ibin .eql v48 (.val (.int .i64 1)))) fun v49 =>
      og (gval v40 true false (pickV v46 (.val (.bool true)) v49)) fun v50 =>
      og (pickV v40 v50 (.val (.bool false))) fun v51 =>
      k1 (v51, ()) σ) (fun v σ => apan v σ R))) (
      og (gval v30 true false (pickV (.tup []) (.val (.bool true)) (.tup []))) fun v39 =>
      og (pickV v30 v39 (.val (.bool false))) fun v40 =>
      og (gval v40 true false (fldA 5 f1)) fun v42 =>
      og (gval v40 true false (lod v42 σ)) fun v43 =>
      og (gval v40 true false (lenS v43)) fun v44 =>
      og (gval v40 true false (ibin .eql v44 (.val (.int .i64 0)))) fun v45 =>
      og (gval v40 true false (some v45)) fun v46 =>
      og (gval v46 false true (fldA 0 f1)) fun v47 =>
      og (gval v46 false true (lod v47 σ)) fun v48 =>
      og (gval v46 false true (ibin .eql v48 (.val (.int .i64 1)))) fun v49 =>
      og (gval v40 true false (pickV v46 (.val (.bool true)) v49)) fun v50 =>
      og (pickV v40 v50 (.val (.bool false))) fun v51 =>
      k1 (v51, ()) σ)) (fun v σ => apan v σ R))
def x55 : Sx := .box (.var 0) (.jn 7 [2] (.ret (.var 0)) (.frz 1 (.var 0) (.og (.fldA 0 (.var 0)) (.og (.lod (.var 0)) (.call 31 [(.var 0), (.lit (.val (.int .i64 1))), (.lit (.val (.int .i64 9)))] (.gog (.var 0) true false (.fldA 2 (.var 3)) (.gog (.var 1) true false (.lod (.var 0)) (.gog (.var 2) true false (.ibin .eql (.var 0) (.lit (.val (.int .i64 0)))) (.gog (.var 3) true false (.ret (.var 0)) (.gog (.var 0) false true (.fldA 0 (.var 7)) (.gog (.var 1) false true (.lod (.var 0)) (.gog (.var 2) false true (.ibin .eql (.var 0) (.lit (.val (.int .i64 2)))) (.gog (.var 7) true false (.pickV (.var 3) (.lit (.val (.bool true))) (.var 0)) (.gog (.var 8) true false (.ret (.var 0)) (.gog (.var 0) false true (.fldA 0 (.var 12)) (.gog (.var 1) false true (.lod (.var 0)) (.gog (.var 2) false true (.ibin .eql (.var 0) (.lit (.val (.int .i64 5)))) (.gog (.var 12) true false (.pickV (.var 3) (.lit (.val (.bool true))) (.var 0)) (.og (.pickV (.var 13) (.var 0) (.lit (.val (.bool false)))) (.gog (.var 0) true false (.fldA 3 (.var 17)) (.gog (.var 1) true false (.lod (.var 0)) (.gog (.var 2) true false (.ibin .eql (.var 0) (.lit (.val (.int .i64 0)))) (.gog (.var 3) true false (.ret (.var 0)) (.gog (.var 0) false true (.fldA 0 (.var 21)) (.gog (.var 1) false true (.lod (.var 0)) (.gog (.var 2) false true (.ibin .eql (.var 0) (.lit (.val (.int .i64 2)))) (.gog (.var 7) true false (.pickV (.var 3) (.lit (.val (.bool true))) (.var 0)) (.og (.pickV (.var 8) (.var 0) (.lit (.val (.bool false)))) (.gog (.var 0) true false (.fldA 4 (.var 26)) (.gog (.var 1) true false (.lod (.var 0)) (.gog (.var 2) true false (.sbin .eql (.var 0) (.lit (.val (.string ⟨#[]⟩)))) (.gog (.var 3) true false (.ret (.var 0)) (.gog (.var 0) false true (.fldA 0 (.var 30)) (.gog (.var 1) false true (.lod (.var 0)) (.gpick (.var 2) (.gog (.var 6) true false (.ret (.lit (.val (.bool true)))) (.og (.pickV (.var 7) (.var 0) (.lit (.val (.bool false)))) (.gog (.var 0) true false (.fldA 5 (.var 34)) (.gog (.var 1) true false (.lod (.var 0)) (.gog (.var 2) true false (.lenS (.var 0)) (.gog (.var 3) true false (.ibin .eql (.var 0) (.lit (.val (.int .i64 0)))) (.gog (.var 4) true false (.ret (.var 0)) (.gog (.var 0) false true (.fldA 0 (.var 39)) (.gog (.var 1) false true (.lod (.var 0)) (.gog (.var 2) false true (.ibin .eql (.var 0) (.lit (.val (.int .i64 1)))) (.gog (.var 8) true false (.pickV (.var 3) (.lit (.val (.bool true))) (.var 0)) (.og (.pickV (.var 9) (.var 0) (.lit (.val (.bool false)))) (.jump 0 [(.var 0)]))))))))))))) (.call 58 [(.var 0)] (.gog (.var 7) true false (.ret (.var 0)) (.og (.pickV (.var 8) (.var 0) (.lit (.val (.bool false)))) (.gog (.var 0) true false (.fldA 5 (.var 35)) (.gog (.var 1) true false (.lod (.var 0)) (.gog (.var 2) true false (.lenS (.var 0)) (.gog (.var 3) true false (.ibin .eql (.var 0) (.lit (.val (.int .i64 0)))) (.gog (.var 4) true false (.ret (.var 0)) (.gog (.var 0) false true (.fldA 0 (.var 40)) (.gog (.var 1) false true (.lod (.var 0)) (.gog (.var 2) false true (.ibin .eql (.var 0) (.lit (.val (.int .i64 1)))) (.gog (.var 8) true false (.pickV (.var 3) (.lit (.val (.bool true))) (.var 0)) (.og (.pickV (.var 9) (.var 0) (.lit (.val (.bool false)))) (.jump 0 [(.var 0)])))))))))))))) (.gog (.var 6) true false (.pickV (.lit (.tup [])) (.lit (.val (.bool true))) (.lit (.tup []))) (.og (.pickV (.var 7) (.var 0) (.lit (.val (.bool false)))) (.gog (.var 0) true false (.fldA 5 (.var 34)) (.gog (.var 1) true false (.lod (.var 0)) (.gog (.var 2) true false (.lenS (.var 0)) (.gog (.var 3) true false (.ibin .eql (.var 0) (.lit (.val (.int .i64 0)))) (.gog (.var 4) true false (.ret (.var 0)) (.gog (.var 0) false true (.fldA 0 (.var 39)) (.gog (.var 1) false true (.lod (.var 0)) (.gog (.var 2) false true (.ibin .eql (.var 0) (.lit (.val (.int .i64 1)))) (.gog (.var 8) true false (.pickV (.var 3) (.lit (.val (.bool true))) (.var 0)) (.og (.pickV (.var 9) (.var 0) (.lit (.val (.bool false)))) (.jump 0 [(.var 0)]))))))))))))))))))))))))))))))))))))))))))))))))
set_option maxRecDepth 1000000 in
theorem x55_ok : okF TT Tryz.f55 1 x55 = true := by decide +kernel
set_option maxRecDepth 1000000 in
theorem s_impl_coreForm_ok {a0 : AV} {σ : AH} {R : AEnd → AH → Prop} (h : s_impl_coreForm a0 σ R) : acall TP fn_impl_coreForm [a0] σ R :=
  acall_okF (ρ := [a0]) TT_ok Tryz.func55 rfl x55 x55_ok rfl h

/-- loop.example/g00349/impl.isUp -/
def s_impl_isUp (a0 a1 a2 : AV) (σ : AH) (R : AEnd → AH → Prop) : Prop :=
  lp (X := Tup [0, 2, 7]) (fun R1 y1 σ =>
    og (ibin .geq y1.2.2.1 (.val (.int .i64 0))) fun v10 =>
    apick v10 (
      og (ibin .eql y1.2.2.1 y1.2.1) fun v16 =>
      apick v16 (
        aret (.val (.bool true)) σ R) (
        acallv TP y1.1 [y1.2.2.1] σ (onr (fun v13 σ =>
        R1 (y1.1, y1.2.1, v13, ()) σ) (fun v σ => apan v σ R)))) (
      aret (.val (.bool false)) σ R)) (a0, a2, a1, ()) σ
def x56 : Sx := .lp [0, 2, 7] (.og (.ibin .geq (.var 2) (.lit (.val (.int .i64 0)))) (.apick (.var 0) (.og (.ibin .eql (.var 3) (.var 2)) (.apick (.var 0) (.ret (.lit (.val (.bool true)))) (.callv (.var 2) [(.var 4)] (.jump 0 [(.var 3), (.var 4), (.var 0)])))) (.ret (.lit (.val (.bool false)))))) [(.var 2), (.var 0), (.var 1)]
set_option maxRecDepth 1000000 in
theorem x56_ok : okF TT Tryz.f56 3 x56 = true := by decide +kernel
set_option maxRecDepth 1000000 in
theorem s_impl_isUp_ok {a0 a1 a2 : AV} {σ : AH} {R : AEnd → AH → Prop} (h : s_impl_isUp a0 a1 a2 σ R) : acall TP fn_impl_isUp [a0, a1, a2] σ R :=
  acall_okF (ρ := [a2, a1, a0]) TT_ok Tryz.func56 rfl x56 x56_ok rfl h

/-- loop.example/g00349/impl.oneCoreFault$1 -/
def s_impl_oneCoreFault_1 (a0 a1 : AV) (σ : AH) (R : AEnd → AH → Prop) : Prop :=
  og (lod a1 σ) fun v4 =>
  og (idx 6 v4 a0 σ) fun v6 =>
  og (fldA 1 v6) fun v7 =>
  og (lod v7 σ) fun v8 =>
  aret v8 σ R
def x57 : Sx := .og (.lod (.var 0)) (.og (.idx 6 (.var 0) (.var 2)) (.og (.fldA 1 (.var 0)) (.og (.lod (.var 0)) (.ret (.var 0)))))
set_option maxRecDepth 1000000 in
theorem x57_ok : okF TT Tryz.f57 2 x57 = true := by decide +kernel
set_option maxRecDepth 1000000 in
theorem s_impl_oneCoreFault_1_ok {a0 a1 : AV} {σ : AH} {R : AEnd → AH → Prop} (h : s_impl_oneCoreFault_1 a0 a1 σ R) : acall TP fn_impl_oneCoreFault_1 [a0, a1] σ R :=
  acall_okF (ρ := [a1, a0]) TT_ok Tryz.func57 rfl x57 x57_ok rfl h

/-- loop.example/g00349/impl.named -/
def s_impl_named (a0 : AV) (σ : AH) (R : AEnd → AH → Prop) : Prop :=
  og (ibin .eql a0 (.val (.int .i64 3))) fun v4 =>
  og (gval v4 false false (some a0)) fun v6 =>
  og (gval v4 false false (ibin .eql v6 (.val (.int .i64 7)))) fun v7 =>
  og (pickV v4 (.val (.bool true)) v7) fun v8 =>
  og (gval v8 false false (some a0)) fun v10 =>
  og (gval v8 false false (ibin .eql v10 (.val (.int .i64 8)))) fun v11 =>
  og (pickV v8 (.val (.bool true)) v11) fun v12 =>
  aret v12 σ R
def x58 : Sx := .og (.ibin .eql (.var 0) (.lit (.val (.int .i64 3)))) (.gog (.var 0) false false (.ret (.var 1)) (.gog (.var 1) false false (.ibin .eql (.var 0) (.lit (.val (.int .i64 7)))) (.og (.pickV (.var 2) (.lit (.val (.bool true))) (.var 0)) (.gog (.var 0) false false (.ret (.var 4)) (.gog (.var 1) false false (.ibin .eql (.var 0) (.lit (.val (.int .i64 8)))) (.og (.pickV (.var 2) (.lit (.val (.bool true))) (.var 0)) (.ret (.var 0))))))))
set_option maxRecDepth 1000000 in
theorem x58_ok : okF TT Tryz.f58 1 x58 = true := by decide +kernel
set_option maxRecDepth 1000000 in
theorem s_impl_named_ok {a0 : AV} {σ : AH} {R : AEnd → AH → Prop} (h : s_impl_named a0 σ R) : acall TP fn_impl_named [a0] σ R :=
  acall_okF (ρ := [a0]) TT_ok Tryz.func58 rfl x58 x58_ok rfl h

/-- loop.example/g00349/impl.isName -/
def s_impl_isName (a0 : AV) (σ : AH) (R : AEnd → AH → Prop) : Prop :=
  jn (X := Tup [2]) (fun x1 σ =>
      aret x1.1 σ R) fun k1 =>
    acall TP fn_impl_SymFault [a0] σ (onr (fun v4 σ =>
    og (ibin .eql v4 (.val (.int .i64 0))) fun v5 =>
    og (gval v5 true false (some a0)) fun v7 =>
    gpick v5 (
      acall TP fn_impl_IsKeyword [v7] σ (onr (fun v8 σ =>
      og (aun .not v8) fun v9 =>
      k1 (v9, ()) σ) (fun v σ => apan v σ R))) (
      k1 ((.val (.bool false)), ()) σ) (False)) (fun v σ => apan v σ R))
def x59 : Sx := .jn 7 [2] (.ret (.var 0)) (.call 76 [(.var 0)] (.og (.ibin .eql (.var 0) (.lit (.val (.int .i64 0)))) (.gog (.var 0) true false (.ret (.var 2)) (.gpick (.var 1) (.call 77 [(.var 0)] (.og (.aun .not (.var 0)) (.jump 0 [(.var 0)]))) (.jump 0 [(.lit (.val (.bool false)))]) (.no)))))
set_option maxRecDepth 1000000 in
theorem x59_ok : okF TT Tryz.f59 1 x59 = true := by decide +kernel
set_option maxRecDepth 1000000 in
theorem s_impl_isName_ok {a0 : AV} {σ : AH} {R : AEnd → AH → Prop} (h : s_impl_isName a0 σ R) : acall TP fn_impl_isName [a0] σ R :=
  acall_okF (ρ := [a0]) TT_ok Tryz.func59 rfl x59 x59_ok rfl h

/-- loop.example/g00349/impl.DataFault -/
def s_impl_DataFault (a0 : AV) (σ : AH) (R : AEnd → AH → Prop) : Prop :=
  og (lenS a0) fun v6 =>
  acall TP fn_impl_in [v6, (.val (.int .i64 1)), (.val (.int .i64 80))] σ (onr (fun v7 σ =>
  og (aun .not v7) fun v8 =>
  apick v8 (
    aret (.val (.int .i64 2)) σ R) (
    og (lenS a0) fun v10 =>
    lp (X := Tup [0, 10, 11]) (fun R1 y1 σ =>
      og (ibin .lss y1.2.2.1 y1.2.1) fun v12 =>
      apick v12 (
        acall TP fn_impl_datumFault [y1.1, y1.2.2.1] σ (onr (fun v16 σ =>
        og (ibin .neq v16 (.val (.int .i64 0))) fun v18 =>
        apick v18 (
          aret v16 σ R) (
          og (ibin .add y1.2.2.1 (.val (.int .i64 1))) fun v20 =>
          R1 (y1.1, y1.2.1, v20, ()) σ)) (fun v σ => apan v σ R))) (
        aret (.val (.int .i64 0)) σ R)) (a0, v10, (.val (.int .i64 0)), ()) σ)) (fun v σ => apan v σ R))
def x60 : Sx := .og (.lenS (.var 0)) (.call 31 [(.var 0), (.lit (.val (.int .i64 1))), (.lit (.val (.int .i64 80)))] (.og (.aun .not (.var 0)) (.apick (.var 0) (.ret (.lit (.val (.int .i64 2)))) (.og (.lenS (.var 3)) (.lp [0, 10, 11] (.og (.ibin .lss (.var 2) (.var 1)) (.apick (.var 0) (.call 78 [(.var 1), (.var 3)] (.og (.ibin .neq (.var 0) (.lit (.val (.int .i64 0)))) (.apick (.var 0) (.ret (.var 1)) (.og (.ibin .add (.var 5) (.lit (.val (.int .i64 1)))) (.jump 0 [(.var 4), (.var 5), (.var 0)]))))) (.ret (.lit (.val (.int .i64 0)))))) [(.var 4), (.var 0), (.lit (.val (.int .i64 0)))])))))
set_option maxRecDepth 1000000 in
theorem x60_ok : okF TT Tryz.f60 1 x60 = true := by decide +kernel
set_option maxRecDepth 1000000 in
theorem s_impl_DataFault_ok {a0 : AV} {σ : AH} {R : AEnd → AH → Prop} (h : s_impl_DataFault a0 σ R) : acall TP fn_impl_DataFault [a0] σ R :=
  acall_okF (ρ := [a0]) TT_ok Tryz.func60 rfl x60 x60_ok rfl h

/-- loop.example/g00349/impl.lambdaOut -/
def s_impl_lambdaOut (a0 a1 a2 : AV) (σ : AH) (R : AEnd → AH → Prop) : Prop :=
  new [(.val (.int .i64 0)), (.val (.int .i64 0)), (.val (.int .i64 0)), (.val (.int .i64 0)), (.val (.string ⟨#[]⟩)), (.val (.slice none 0 0))] σ fun v6 σ =>
  og (idx 6 a0 a1 σ) fun v11 =>
  og (fldA 1 v11) fun v12 =>
  og (lod v12 σ) fun v13 =>
  lp (X := Tup [0, 2, 6, 8]) (fun R1 y1 σ =>
    og (ibin .geq y1.2.2.2.1 (.val (.int .i64 0))) fun v15 =>
    apick v15 (
      jn (X := Tup [0, 2, 6, 8]) (fun x2 σ =>
          og (idx 6 x2.1 x2.2.2.2.1 σ) fun v18 =>
          og (fldA 1 v18) fun v19 =>
          og (lod v19 σ) fun v20 =>
          R1 (x2.1, x2.2.1, x2.2.2.1, v20, ()) σ) fun k2 =>
        og (idx 6 y1.1 y1.2.2.2.1 σ) fun v23 =>
        og (fldA 0 v23) fun v24 =>
        og (lod v24 σ) fun v25 =>
        og (ibin .neq v25 (.val (.int .i64 5))) fun v26 =>
        apick v26 (
          k2 (y1.1, y1.2.1, y1.2.2.1, y1.2.2.2.1, ()) σ) (
          og (ibin .eql y1.2.1 (.val (.int .i64 0))) fun v28 =>
          apick v28 (
            og (idx 6 y1.1 y1.2.2.2.1 σ) fun v31 =>
            og (lodA 6 v31 σ) fun v32 =>
            sto 6 y1.2.2.1 v32 σ fun σ =>
            og (lodA 6 y1.2.2.1 σ) fun r6 =>
            aret (.tup [r6, (.val (.bool true))]) σ R) (
            og (ibin .sub y1.2.1 (.val (.int .i64 1))) fun v34 =>
            k2 (y1.1, v34, y1.2.2.1, y1.2.2.2.1, ()) σ))) (
      og (bld [(.val (.int .i64 0)), (.val (.int .i64 0)), (.val (.int .i64 0)), (.val (.int .i64 0)), (.val (.string ⟨#[]⟩)), (.val (.slice none 0 0))] [(0, 1), (1, 1), (2, 1), (3, 1), (4, 1), (5, 1)] []) fun v35 =>
      sto 6 y1.2.2.1 v35 σ fun σ =>
      og (lodA 6 y1.2.2.1 σ) fun r6 =>
      aret (.tup [r6, (.val (.bool false))]) σ R)) (a0, a2, v6, v13, ()) σ
def x61 : Sx := .new [(.val (.int .i64 0)), (.val (.int .i64 0)), (.val (.int .i64 0)), (.val (.int .i64 0)), (.val (.string ⟨#[]⟩)), (.val (.slice none 0 0))] (.og (.idx 6 (.var 3) (.var 2)) (.og (.fldA 1 (.var 0)) (.og (.lod (.var 0)) (.lp [0, 2, 6, 8] (.og (.ibin .geq (.var 3) (.lit (.val (.int .i64 0)))) (.apick (.var 0) (.jn 211 [0, 2, 6, 8] (.og (.idx 6 (.var 0) (.var 3)) (.og (.fldA 1 (.var 0)) (.og (.lod (.var 0)) (.jump 0 [(.var 3), (.var 4), (.var 5), (.var 0)])))) (.og (.idx 6 (.var 1) (.var 4)) (.og (.fldA 0 (.var 0)) (.og (.lod (.var 0)) (.og (.ibin .neq (.var 0) (.lit (.val (.int .i64 5)))) (.apick (.var 0) (.jump 0 [(.var 5), (.var 6), (.var 7), (.var 8)]) (.og (.ibin .eql (.var 6) (.lit (.val (.int .i64 0)))) (.apick (.var 0) (.og (.idx 6 (.var 6) (.var 9)) (.og (.lodA 6 (.var 0)) (.sto 6 (.var 10) (.var 0) (.og (.lodA 6 (.var 10)) (.rets [(.var 0), (.lit (.val (.bool true)))]))))) (.og (.ibin .sub (.var 7) (.lit (.val (.int .i64 1)))) (.jump 0 [(.var 7), (.var 0), (.var 9), (.var 10)])))))))))) (.og (.bld [(.val (.int .i64 0)), (.val (.int .i64 0)), (.val (.int .i64 0)), (.val (.int .i64 0)), (.val (.string ⟨#[]⟩)), (.val (.slice none 0 0))] [(0, 1), (1, 1), (2, 1), (3, 1), (4, 1), (5, 1)] []) (.sto 6 (.var 4) (.var 0) (.og (.lodA 6 (.var 4)) (.rets [(.var 0), (.lit (.val (.bool false)))])))))) [(.var 6), (.var 4), (.var 3), (.var 0)]))))
set_option maxRecDepth 1000000 in
theorem x61_ok : okF TT Tryz.f61 3 x61 = true := by decide +kernel
set_option maxRecDepth 1000000 in
theorem s_impl_lambdaOut_ok {a0 a1 a2 : AV} {σ : AH} {R : AEnd → AH → Prop} (h : s_impl_lambdaOut a0 a1 a2 σ R) : acall TP fn_impl_lambdaOut [a0, a1, a2] σ R :=
  acall_okF (ρ := [a2, a1, a0]) TT_ok Tryz.func61 rfl x61 x61_ok rfl h

/-- (*loop.example/g00349/impl.compiler).emit -/
def s_impl_compiler_emit (a0 a1 a2 : AV) (σ : AH) (R : AEnd → AH → Prop) : Prop :=
  abox a2 σ fun v5 σ =>
  frz v5 σ fun f5 σ =>
  og (anil a0) fun v9 =>
  og (fldA 2 v9) fun v10 =>
  og (lod v10 σ) fun v11 =>
  og (idx 2 v11 a1 σ) fun v13 =>
  og (fldA 1 v13) fun v14 =>
  og (anil v14) fun v16 =>
  og (lod v16 σ) fun v17 =>
  og (lenS v17) fun v18 =>
  og (ibin .eql v18 (.val (.int .i64 200))) fun v19 =>
  acall TP fn_impl_failIf [v19, (.val (.int .i64 2))] σ (onr (fun v20 σ =>
  og (anil v14) fun v23 =>
  og (lod v23 σ) fun v24 =>
  og (lodA 7 f5 σ) fun v25 =>
  og (bslR 7 [(.val (.int .i64 0)), (.val (.int .i64 0)), (.val (.int .i64 0)), (.val (.int .i64 0)), (.val (.int .i64 0)), (.val (.string ⟨#[]⟩)), (.val (.slice none 0 0))] 1 [(0, v25)]) fun v26 =>
  app 7 v24 v26 σ fun v27 σ =>
  (True) ∧
  og (anil v14) fun v28 =>
  sto 1 v28 v27 σ fun σ =>
  (True) ∧
  og (anil v14) fun v30 =>
  og (lod v30 σ) fun v31 =>
  og (lenS v31) fun v32 =>
  og (ibin .sub v32 (.val (.int .i64 1))) fun v33 =>
  aret v33 σ R) (fun v σ => apan v σ R))
def x62 : Sx := .box (.var 0) (.frz 3 (.var 0) (.og (.anil (.var 4)) (.og (.fldA 2 (.var 0)) (.og (.lod (.var 0)) (.og (.idx 2 (.var 0) (.var 6)) (.og (.fldA 1 (.var 0)) (.og (.anil (.var 0)) (.og (.lod (.var 0)) (.og (.lenS (.var 0)) (.og (.ibin .eql (.var 0) (.lit (.val (.int .i64 200)))) (.call 64 [(.var 0), (.lit (.val (.int .i64 2)))] (.ord [0, 1, 2, 3, 4, 5, 6, 7, 8] [0, 0, 2, 6, 0, 16, 62, 127, 255] (.og (.anil (.var 5)) (.og (.lod (.var 0)) (.og (.lodA 7 (.var 12)) (.og (.bslR 7 [(.val (.int .i64 0)), (.val (.int .i64 0)), (.val (.int .i64 0)), (.val (.int .i64 0)), (.val (.int .i64 0)), (.val (.string ⟨#[]⟩)), (.val (.slice none 0 0))] 1 [(0, (.var 0))]) (.app 7 (.var 2) (.var 0) (.wat [] (.og (.anil (.var 10)) (.sto 1 (.var 0) (.var 1) (.wat [] (.og (.anil (.var 11)) (.og (.lod (.var 0)) (.og (.lenS (.var 0)) (.og (.ibin .sub (.var 0) (.lit (.val (.int .i64 1)))) (.ret (.var 0)))))))))))))))))))))))))))
set_option maxRecDepth 1000000 in
theorem x62_ok : okF TT Tryz.f62 3 x62 = true := by decide +kernel
set_option maxRecDepth 1000000 in
theorem s_impl_compiler_emit_ok {a0 a1 a2 : AV} {σ : AH} {R : AEnd → AH → Prop} (h : s_impl_compiler_emit a0 a1 a2 σ R) : acall TP fn_impl_compiler_emit [a0, a1, a2] σ R :=
  acall_okF (ρ := [a2, a1, a0]) TT_ok Tryz.func62 rfl x62 x62_ok rfl h

/-- (*loop.example/g00349/impl.compiler).choice -/
def s_impl_compiler_choice (a0 a1 a2 a3 : AV) (σ : AH) (R : AEnd → AH → Prop) : Prop :=
  og (idx 1 a1 (.val (.int .i64 0)) σ) fun v12 =>
  og (lod v12 σ) fun v13 =>
  acall TP fn_impl_compiler_core [a0, v13, a2, (.val (.bool false))] σ (onr (fun v15 σ =>
  og (bld [(.val (.int .i64 0)), (.val (.int .i64 0)), (.val (.int .i64 0)), (.val (.int .i64 0)), (.val (.int .i64 0)), (.val (.string ⟨#[]⟩)), (.val (.slice none 0 0))] [(0, 1), (1, 1), (2, 1), (3, 1), (4, 1), (5, 1), (6, 1)] [(0, (.val (.int .i64 6)))]) fun v18 =>
  acall TP fn_impl_compiler_emit [a0, a2, v18] σ (onr (fun v19 σ =>
  og (idx 1 a1 (.val (.int .i64 1)) σ) fun v22 =>
  og (lod v22 σ) fun v23 =>
  acall TP fn_impl_compiler_core [a0, v23, a2, a3] σ (onr (fun v26 σ =>
  jn (X := Tup [0, 1, 2, 3, 8, 9]) (fun x1 σ =>
      og (anil x1.1) fun v34 =>
      og (fldA 2 v34) fun v35 =>
      og (lod v35 σ) fun v36 =>
      og (idx 2 v36 x1.2.2.1 σ) fun v38 =>
      og (fldA 1 v38) fun v39 =>
      og (lod v39 σ) fun v40 =>
      acall TP fn_impl_compiler_here [x1.1, x1.2.2.1] σ (onr (fun v44 σ =>
      (lod v39 σ = some v40 ∧ idx 2 v36 x1.2.2.1 σ = some v38 ∧ lod v35 σ = some v36 ∧ True) ∧
      og (idx 7 v40 x1.2.2.2.2.1 σ) fun v45 =>
      og (fldA 1 v45) fun v46 =>
      sto 1 v46 v44 σ fun σ =>
      (True) ∧
      og (idx 1 x1.2.1 (.val (.int .i64 2)) σ) fun v49 =>
      og (lod v49 σ) fun v50 =>
      acall TP fn_impl_compiler_core [x1.1, v50, x1.2.2.1, x1.2.2.2.1] σ (onr (fun v53 σ =>
      og (aun .not x1.2.2.2.1) fun v55 =>
      apick v55 (
        og (anil x1.1) fun v57 =>
        og (fldA 2 v57) fun v58 =>
        og (lod v58 σ) fun v59 =>
        og (idx 2 v59 x1.2.2.1 σ) fun v61 =>
        og (fldA 1 v61) fun v62 =>
        og (lod v62 σ) fun v63 =>
        acall TP fn_impl_compiler_here [x1.1, x1.2.2.1] σ (onr (fun v67 σ =>
        (lod v62 σ = some v63 ∧ idx 2 v59 x1.2.2.1 σ = some v61 ∧ lod v58 σ = some v59 ∧ True) ∧
        og (idx 7 v63 x1.2.2.2.2.2.1 σ) fun v68 =>
        og (fldA 1 v68) fun v69 =>
        sto 1 v69 v67 σ fun σ =>
        (True) ∧
        aret (.tup []) σ R) (fun v σ => apan v σ R))) (
        aret (.tup []) σ R)) (fun v σ => apan v σ R))) (fun v σ => apan v σ R))) fun k1 =>
    og (aun .not a3) fun v28 =>
    apick v28 (
      og (bld [(.val (.int .i64 0)), (.val (.int .i64 0)), (.val (.int .i64 0)), (.val (.int .i64 0)), (.val (.int .i64 0)), (.val (.string ⟨#[]⟩)), (.val (.slice none 0 0))] [(0, 1), (1, 1), (2, 1), (3, 1), (4, 1), (5, 1), (6, 1)] [(0, (.val (.int .i64 5)))]) fun v31 =>
      acall TP fn_impl_compiler_emit [a0, a2, v31] σ (onr (fun v32 σ =>
      k1 (a0, a1, a2, a3, v19, v32, ()) σ) (fun v σ => apan v σ R))) (
      k1 (a0, a1, a2, a3, v19, (.val (.int .i64 0)), ()) σ)) (fun v σ => apan v σ R))) (fun v σ => apan v σ R))) (fun v σ => apan v σ R))
def x63 : Sx := .og (.idx 1 (.var 2) (.lit (.val (.int .i64 0)))) (.og (.lod (.var 0)) (.call 36 [(.var 5), (.var 0), (.var 3), (.lit (.val (.bool false)))] (.og (.bld [(.val (.int .i64 0)), (.val (.int .i64 0)), (.val (.int .i64 0)), (.val (.int .i64 0)), (.val (.int .i64 0)), (.val (.string ⟨#[]⟩)), (.val (.slice none 0 0))] [(0, 1), (1, 1), (2, 1), (3, 1), (4, 1), (5, 1), (6, 1)] [(0, (.lit (.val (.int .i64 6))))]) (.call 62 [(.var 7), (.var 5), (.var 0)] (.og (.idx 1 (.var 7) (.lit (.val (.int .i64 1)))) (.og (.lod (.var 0)) (.call 36 [(.var 10), (.var 0), (.var 8), (.var 7)] (.jn 31 [0, 1, 2, 3, 8, 9] (.ord [0, 1, 2, 3, 4, 5, 6, 7, 8, 9, 10, 11, 12, 13, 14] [0, 1, 3, 7, 0, 31, 63, 127, 0, 0, 0, 1536, 4095, 8191, 16383] (.og (.anil (.var 0)) (.og (.fldA 2 (.var 0)) (.og (.lod (.var 0)) (.og (.idx 2 (.var 0) (.var 5)) (.og (.fldA 1 (.var 0)) (.og (.lod (.var 0)) (.call 79 [(.var 6), (.var 8)] (.wat [⟨none, (.lod (.var 2)), (.var 1)⟩, ⟨none, (.idx 2 (.var 4) (.var 9)), (.var 3)⟩, ⟨none, (.lod (.var 5)), (.var 4)⟩] (.og (.idx 7 (.var 1) (.var 11)) (.og (.fldA 1 (.var 0)) (.sto 1 (.var 0) (.var 2) (.wat [] (.og (.idx 1 (.var 10) (.lit (.val (.int .i64 2)))) (.og (.lod (.var 0)) (.call 36 [(.var 11), (.var 0), (.var 13), (.var 14)] (.og (.aun .not (.var 15)) (.apick (.var 0) (.ord [0, 1, 2, 3, 4, 5, 6, 7, 8, 9, 10, 11, 12, 13, 14] [0, 1, 3, 7, 0, 31, 63, 127, 0, 0, 0, 1536, 4095, 8191, 16383] (.og (.anil (.var 13)) (.og (.fldA 2 (.var 0)) (.og (.lod (.var 0)) (.og (.idx 2 (.var 0) (.var 18)) (.og (.fldA 1 (.var 0)) (.og (.lod (.var 0)) (.call 79 [(.var 19), (.var 21)] (.wat [⟨none, (.lod (.var 2)), (.var 1)⟩, ⟨none, (.idx 2 (.var 4) (.var 22)), (.var 3)⟩, ⟨none, (.lod (.var 5)), (.var 4)⟩] (.og (.idx 7 (.var 1) (.var 25)) (.og (.fldA 1 (.var 0)) (.sto 1 (.var 0) (.var 2) (.wat [] (.rets [])))))))))))))) (.rets []))))))))))))))))))) (.og (.aun .not (.var 8)) (.apick (.var 0) (.og (.bld [(.val (.int .i64 0)), (.val (.int .i64 0)), (.val (.int .i64 0)), (.val (.int .i64 0)), (.val (.int .i64 0)), (.val (.string ⟨#[]⟩)), (.val (.slice none 0 0))] [(0, 1), (1, 1), (2, 1), (3, 1), (4, 1), (5, 1), (6, 1)] [(0, (.lit (.val (.int .i64 5))))]) (.call 62 [(.var 13), (.var 11), (.var 0)] (.jump 0 [(.var 14), (.var 13), (.var 12), (.var 11), (.var 6), (.var 0)]))) (.jump 0 [(.var 12), (.var 11), (.var 10), (.var 9), (.var 4), (.lit (.val (.int .i64 0)))])))))))))))
set_option maxRecDepth 1000000 in
theorem x63_ok : okF TT Tryz.f63 4 x63 = true := by decide +kernel
set_option maxRecDepth 1000000 in
theorem s_impl_compiler_choice_ok {a0 a1 a2 a3 : AV} {σ : AH} {R : AEnd → AH → Prop} (h : s_impl_compiler_choice a0 a1 a2 a3 σ R) : acall TP fn_impl_compiler_choice [a0, a1, a2, a3] σ R :=
  acall_okF (ρ := [a3, a2, a1, a0]) TT_ok Tryz.func63 rfl x63 x63_ok rfl h

/-- loop.example/g00349/impl.failIf -/
def s_impl_failIf (a0 a1 : AV) (σ : AH) (R : AEnd → AH → Prop) : Prop :=
  apick a0 (
    og (bld [(.val (.int .i64 0))] [(0, 1)] [(0, a1)]) fun v6 =>
    og (aifc TT ty_RiE v6) fun v7 =>
    apanic v7 fun v => apan v σ R) (
    aret (.tup []) σ R)
def x64 : Sx := .apick (.var 1) (.og (.bld [(.val (.int .i64 0))] [(0, 1)] [(0, (.var 0))]) (.ifc 70 (.var 0) (.pan (.var 0)))) (.rets [])
set_option maxRecDepth 1000000 in
theorem x64_ok : okF TT Tryz.f64 2 x64 = true := by decide +kernel
set_option maxRecDepth 1000000 in
theorem s_impl_failIf_ok {a0 a1 : AV} {σ : AH} {R : AEnd → AH → Prop} (h : s_impl_failIf a0 a1 σ R) : acall TP fn_impl_failIf [a0, a1] σ R :=
  acall_okF (ρ := [a1, a0]) TT_ok Tryz.func64 rfl x64 x64_ok rfl h

/-- slices.Clone[[]loop.example/g00349/impl.Datum,loop.example/g00349/impl.Datum] -/
def s_slices_Clone (a0 : AV) (σ : AH) (R : AEnd → AH → Prop) : Prop :=
  abin TT .eql ty_LRiiisE a0 (.val (.slice none 0 0)) fun v4 =>
  apick v4 (
    aret (.val (.slice none 0 0)) σ R) (
    bsl 4 [(.val (.int .i64 0)), (.val (.int .i64 0)), (.val (.int .i64 0)), (.val (.string ⟨#[]⟩))] 0 [] σ fun v5 σ =>
    app 4 v5 a0 σ fun v7 σ =>
    aret v7 σ R)
def x65 : Sx := .cmp .eql 42 (.var 0) (.lit (.val (.slice none 0 0))) (.apick (.var 0) (.ret (.lit (.val (.slice none 0 0)))) (.bsl 4 [(.val (.int .i64 0)), (.val (.int .i64 0)), (.val (.int .i64 0)), (.val (.string ⟨#[]⟩))] 0 [] (.app 4 (.var 0) (.var 2) (.ret (.var 0)))))
set_option maxRecDepth 1000000 in
theorem x65_ok : okF TT Tryz.f65 1 x65 = true := by decide +kernel
set_option maxRecDepth 1000000 in
theorem s_slices_Clone_ok {a0 : AV} {σ : AH} {R : AEnd → AH → Prop} (h : s_slices_Clone a0 σ R) : acall TP fn_slices_Clone [a0] σ R :=
  acall_okF (ρ := [a0]) TT_ok Tryz.func65 rfl x65 x65_ok rfl h

/-- loop.example/g00349/laws.eqOpS -/
def s_laws_eqOpS (a0 a1 : AV) (σ : AH) (R : AEnd → AH → Prop) : Prop :=
  og (lenS a0) fun v7 =>
  og (lenS a1) fun v9 =>
  og (ibin .neq v7 v9) fun v10 =>
  apick v10 (
    aret (.val (.bool false)) σ R) (
    lp (X := Tup [0, 1, 5]) (fun R1 y1 σ =>
      og (lenS y1.1) fun v13 =>
      og (ibin .lss y1.2.2.1 v13) fun v14 =>
      apick v14 (
        og (idx 7 y1.1 y1.2.2.1 σ) fun v19 =>
        og (lodA 7 v19 σ) fun v20 =>
        og (idx 7 y1.2.1 y1.2.2.1 σ) fun v23 =>
        og (lodA 7 v23 σ) fun v24 =>
        acall TP fn_laws_eqOp [v20, v24] σ (onr (fun v25 σ =>
        (True) ∧
        og (aun .not v25) fun v26 =>
        apick v26 (
          aret (.val (.bool false)) σ R) (
          og (ibin .add y1.2.2.1 (.val (.int .i64 1))) fun v16 =>
          R1 (y1.1, y1.2.1, v16, ()) σ)) (fun v σ => apan v σ R))) (
        aret (.val (.bool true)) σ R)) (a0, a1, (.val (.int .i64 0)), ()) σ)
def x66 : Sx := .og (.lenS (.var 1)) (.og (.lenS (.var 1)) (.og (.ibin .neq (.var 1) (.var 0)) (.apick (.var 0) (.ret (.lit (.val (.bool false)))) (.lp [0, 1, 5] (.og (.lenS (.var 0)) (.og (.ibin .lss (.var 3) (.var 0)) (.apick (.var 0) (.ord [0, 1, 2, 3, 4, 5, 6, 7, 8, 9] [0, 0, 3, 7, 0, 0, 48, 112, 255, 511] (.og (.idx 7 (.var 2) (.var 4)) (.og (.lodA 7 (.var 0)) (.og (.idx 7 (.var 5) (.var 6)) (.og (.lodA 7 (.var 0)) (.call 80 [(.var 2), (.var 0)] (.wat [] (.og (.aun .not (.var 0)) (.apick (.var 0) (.ret (.lit (.val (.bool false)))) (.og (.ibin .add (.var 10) (.lit (.val (.int .i64 1)))) (.jump 0 [(.var 9), (.var 10), (.var 0)]))))))))))) (.ret (.lit (.val (.bool true))))))) [(.var 4), (.var 3), (.lit (.val (.int .i64 0)))]))))
set_option maxRecDepth 1000000 in
theorem x66_ok : okF TT Tryz.f66 2 x66 = true := by decide +kernel
set_option maxRecDepth 1000000 in
theorem s_laws_eqOpS_ok {a0 a1 : AV} {σ : AH} {R : AEnd → AH → Prop} (h : s_laws_eqOpS a0 a1 σ R) : acall TP fn_laws_eqOpS [a0, a1] σ R :=
  acall_okF (ρ := [a1, a0]) TT_ok Tryz.func66 rfl x66 x66_ok rfl h

/-- loop.example/g00349/laws.eqDatum -/
def s_laws_eqDatum (a0 a1 : AV) (σ : AH) (R : AEnd → AH → Prop) : Prop :=
  abox a0 σ fun v2 σ =>
  abox a1 σ fun v3 σ =>
  frz v2 σ fun f2 σ =>
  frz v3 σ fun f3 σ =>
  og (fldA 0 f2) fun v5 =>
  og (lod v5 σ) fun v6 =>
  og (fldA 0 f3) fun v7 =>
  og (lod v7 σ) fun v8 =>
  og (ibin .neq v6 v8) fun v9 =>
  apick v9 (
    aret (.val (.bool false)) σ R) (
    og (fldA 1 f2) fun v10 =>
    og (lod v10 σ) fun v11 =>
    og (fldA 1 f3) fun v12 =>
    og (lod v12 σ) fun v13 =>
    og (ibin .neq v11 v13) fun v14 =>
    apick v14 (
      aret (.val (.bool false)) σ R) (
      og (fldA 2 f2) fun v15 =>
      og (lod v15 σ) fun v16 =>
      og (fldA 2 f3) fun v17 =>
      og (lod v17 σ) fun v18 =>
      og (ibin .neq v16 v18) fun v19 =>
      apick v19 (
        aret (.val (.bool false)) σ R) (
        og (fldA 3 f2) fun v20 =>
        og (lod v20 σ) fun v21 =>
        og (fldA 3 f3) fun v22 =>
        og (lod v22 σ) fun v23 =>
        og (sbin .neq v21 v23) fun v24 =>
        apick v24 (
          aret (.val (.bool false)) σ R) (
          aret (.val (.bool true)) σ R))))
def x67 : Sx := .box (.var 1) (.box (.var 1) (.frz 2 (.var 1) (.frz 3 (.var 1) (.og (.fldA 0 (.var 1)) (.og (.lod (.var 0)) (.og (.fldA 0 (.var 2)) (.og (.lod (.var 0)) (.og (.ibin .neq (.var 2) (.var 0)) (.apick (.var 0) (.ret (.lit (.val (.bool false)))) (.og (.fldA 1 (.var 6)) (.og (.lod (.var 0)) (.og (.fldA 1 (.var 7)) (.og (.lod (.var 0)) (.og (.ibin .neq (.var 2) (.var 0)) (.apick (.var 0) (.ret (.lit (.val (.bool false)))) (.og (.fldA 2 (.var 11)) (.og (.lod (.var 0)) (.og (.fldA 2 (.var 12)) (.og (.lod (.var 0)) (.og (.ibin .neq (.var 2) (.var 0)) (.apick (.var 0) (.ret (.lit (.val (.bool false)))) (.og (.fldA 3 (.var 16)) (.og (.lod (.var 0)) (.og (.fldA 3 (.var 17)) (.og (.lod (.var 0)) (.og (.sbin .neq (.var 2) (.var 0)) (.apick (.var 0) (.ret (.lit (.val (.bool false)))) (.ret (.lit (.val (.bool true)))))))))))))))))))))))))))))))
set_option maxRecDepth 1000000 in
theorem x67_ok : okF TT Tryz.f67 2 x67 = true := by decide +kernel
set_option maxRecDepth 1000000 in
theorem s_laws_eqDatum_ok {a0 a1 : AV} {σ : AH} {R : AEnd → AH → Prop} (h : s_laws_eqDatum a0 a1 σ R) : acall TP fn_laws_eqDatum [a0, a1] σ R :=
  acall_okF (ρ := [a1, a0]) TT_ok Tryz.func67 rfl x67 x67_ok rfl h

/-- loop.example/g00349/laws.heldDatumS -/
def s_laws_heldDatumS (a0 a1 : AV) (σ : AH) (R : AEnd → AH → Prop) : Prop :=
  lp (X := Tup [0, 1, 5]) (fun R1 y1 σ =>
    og (lenS y1.1) fun v8 =>
    og (ibin .lss y1.2.2.1 v8) fun v9 =>
    apick v9 (
      og (idx 4 y1.1 y1.2.2.1 σ) fun v14 =>
      og (fldA 0 v14) fun v15 =>
      og (lod v15 σ) fun v16 =>
      og (ibin .neq v16 y1.2.1) fun v18 =>
      apick v18 (
        aret (.val (.int .i64 (-1))) σ R) (
        og (ibin .add y1.2.1 (.val (.int .i64 1))) fun v20 =>
        og (idx 4 y1.1 y1.2.2.1 σ) fun v23 =>
        og (fldA 1 v23) fun v24 =>
        og (lod v24 σ) fun v25 =>
        og (ibin .neq v25 v20) fun v27 =>
        apick v27 (
          aret (.val (.int .i64 (-1))) σ R) (
          og (ibin .add v20 (.val (.int .i64 1))) fun v29 =>
          og (idx 4 y1.1 y1.2.2.1 σ) fun v32 =>
          og (fldA 2 v32) fun v33 =>
          og (lod v33 σ) fun v34 =>
          og (ibin .neq v34 v29) fun v36 =>
          apick v36 (
            aret (.val (.int .i64 (-1))) σ R) (
            og (ibin .add v29 (.val (.int .i64 1))) fun v38 =>
            og (idx 4 y1.1 y1.2.2.1 σ) fun v41 =>
            og (fldA 3 v41) fun v42 =>
            og (lod v42 σ) fun v43 =>
            acall TP fn_laws_markText [v38] σ (onr (fun v45 σ =>
            (lod v42 σ = some v43 ∧ idx 4 y1.1 y1.2.2.1 σ = some v41 ∧ True) ∧
            og (sbin .neq v43 v45) fun v46 =>
            apick v46 (
              aret (.val (.int .i64 (-1))) σ R) (
              og (ibin .add v38 (.val (.int .i64 1))) fun v48 =>
              og (ibin .add y1.2.2.1 (.val (.int .i64 1))) fun v11 =>
              R1 (y1.1, v48, v11, ()) σ)) (fun v σ => apan v σ R)))))) (
      aret y1.2.1 σ R)) (a0, a1, (.val (.int .i64 0)), ()) σ
def x68 : Sx := .lp [0, 1, 5] (.og (.lenS (.var 0)) (.og (.ibin .lss (.var 3) (.var 0)) (.apick (.var 0) (.og (.idx 4 (.var 2) (.var 4)) (.og (.fldA 0 (.var 0)) (.og (.lod (.var 0)) (.og (.ibin .neq (.var 0) (.var 6)) (.apick (.var 0) (.ret (.lit (.val (.int .i64 (-1))))) (.og (.ibin .add (.var 7) (.lit (.val (.int .i64 1)))) (.og (.idx 4 (.var 7) (.var 9)) (.og (.fldA 1 (.var 0)) (.og (.lod (.var 0)) (.og (.ibin .neq (.var 0) (.var 3)) (.apick (.var 0) (.ret (.lit (.val (.int .i64 (-1))))) (.og (.ibin .add (.var 4) (.lit (.val (.int .i64 1)))) (.og (.idx 4 (.var 12) (.var 14)) (.og (.fldA 2 (.var 0)) (.og (.lod (.var 0)) (.og (.ibin .neq (.var 0) (.var 3)) (.apick (.var 0) (.ret (.lit (.val (.int .i64 (-1))))) (.og (.ibin .add (.var 4) (.lit (.val (.int .i64 1)))) (.ord [0, 1, 2, 3, 4, 5, 6, 7] [0, 0, 3, 7, 15, 0, 32, 127] (.og (.idx 4 (.var 17) (.var 19)) (.og (.fldA 3 (.var 0)) (.og (.lod (.var 0)) (.call 21 [(.var 3)] (.wat [⟨none, (.lod (.var 2)), (.var 1)⟩, ⟨none, (.idx 4 (.var 21) (.var 23)), (.var 3)⟩] (.og (.sbin .neq (.var 1) (.var 0)) (.apick (.var 0) (.ret (.lit (.val (.int .i64 (-1))))) (.og (.ibin .add (.var 5) (.lit (.val (.int .i64 1)))) (.og (.ibin .add (.var 25) (.lit (.val (.int .i64 1)))) (.jump 0 [(.var 24), (.var 1), (.var 0)]))))))))))))))))))))))))))))) (.ret (.var 3))))) [(.var 1), (.var 0), (.lit (.val (.int .i64 0)))]
set_option maxRecDepth 1000000 in
theorem x68_ok : okF TT Tryz.f68 2 x68 = true := by decide +kernel
set_option maxRecDepth 1000000 in
theorem s_laws_heldDatumS_ok {a0 a1 : AV} {σ : AH} {R : AEnd → AH → Prop} (h : s_laws_heldDatumS a0 a1 σ R) : acall TP fn_laws_heldDatumS [a0, a1] σ R :=
  acall_okF (ρ := [a1, a0]) TT_ok Tryz.func68 rfl x68 x68_ok rfl h

/-- loop.example/g00349/spec.l2Sym -/
def s_spec_l2Sym (a0 : AV) (σ : AH) (R : AEnd → AH → Prop) : Prop :=
  lp (X := Tup [0, 3]) (fun R1 y1 σ =>
    og (lenStr y1.1) fun v6 =>
    og (ibin .lss y1.2.1 v6) fun v7 =>
    apick v7 (
      og (idxStr y1.1 y1.2.1) fun v12 =>
      acall TP fn_spec_l2Byte [v12] σ (onr (fun v13 σ =>
      og (aun .not v13) fun v14 =>
      apick v14 (
        aret (.val (.bool false)) σ R) (
        og (ibin .add y1.2.1 (.val (.int .i64 1))) fun v9 =>
        R1 (y1.1, v9, ()) σ)) (fun v σ => apan v σ R))) (
      og (lenStr y1.1) fun v16 =>
      acall TP fn_spec_l1In [v16, (.val (.int .i64 1)), (.val (.int .i64 12))] σ (onr (fun v17 σ =>
      aret v17 σ R) (fun v σ => apan v σ R)))) (a0, (.val (.int .i64 0)), ()) σ
def x69 : Sx := .lp [0, 3] (.og (.lenStr (.var 0)) (.og (.ibin .lss (.var 2) (.var 0)) (.apick (.var 0) (.og (.idxStr (.var 2) (.var 3)) (.call 81 [(.var 0)] (.og (.aun .not (.var 0)) (.apick (.var 0) (.ret (.lit (.val (.bool false)))) (.og (.ibin .add (.var 6) (.lit (.val (.int .i64 1)))) (.jump 0 [(.var 6), (.var 0)])))))) (.og (.lenStr (.var 2)) (.call 45 [(.var 0), (.lit (.val (.int .i64 1))), (.lit (.val (.int .i64 12)))] (.ret (.var 0))))))) [(.var 0), (.lit (.val (.int .i64 0)))]
set_option maxRecDepth 1000000 in
theorem x69_ok : okF TT Tryz.f69 1 x69 = true := by decide +kernel
set_option maxRecDepth 1000000 in
theorem s_spec_l2Sym_ok {a0 : AV} {σ : AH} {R : AEnd → AH → Prop} (h : s_spec_l2Sym a0 σ R) : acall TP fn_spec_l2Sym [a0] σ R :=
  acall_okF (ρ := [a0]) TT_ok Tryz.func69 rfl x69 x69_ok rfl h

/-- loop.example/g00349/spec.IsKeyword -/
def s_spec_IsKeyword (a0 : AV) (σ : AH) (R : AEnd → AH → Prop) : Prop :=
  bsl 1 [(.val (.string ⟨#[]⟩))] 7 [(0, (.val (.string ⟨#[113, 117, 111, 116, 101]⟩))), (1, (.val (.string ⟨#[105, 102]⟩))), (2, (.val (.string ⟨#[108, 97, 109, 98, 100, 97]⟩))), (3, (.val (.string ⟨#[108, 101, 116]⟩))), (4, (.val (.string ⟨#[98, 101, 103, 105, 110]⟩))), (5, (.val (.string ⟨#[100, 101, 102, 105, 110, 101]⟩))), (6, (.val (.string ⟨#[115, 101, 116, 33]⟩)))] σ fun v5 σ =>
  frz v5 σ fun f5 σ =>
  lp (X := Tup [0, 3, 4]) (fun R1 y1 σ =>
    og (lenS y1.2.1) fun v8 =>
    og (ibin .lss y1.2.2.1 v8) fun v9 =>
    apick v9 (
      og (idx 1 y1.2.1 y1.2.2.1 σ) fun v14 =>
      og (lod v14 σ) fun v15 =>
      og (sbin .eql v15 y1.1) fun v17 =>
      apick v17 (
        aret (.val (.bool true)) σ R) (
        og (ibin .add y1.2.2.1 (.val (.int .i64 1))) fun v11 =>
        R1 (y1.1, y1.2.1, v11, ()) σ)) (
      aret (.val (.bool false)) σ R)) (a0, f5, (.val (.int .i64 0)), ()) σ
def x70 : Sx := .bsl 1 [(.val (.string ⟨#[]⟩))] 7 [(0, (.lit (.val (.string ⟨#[113, 117, 111, 116, 101]⟩)))), (1, (.lit (.val (.string ⟨#[105, 102]⟩)))), (2, (.lit (.val (.string ⟨#[108, 97, 109, 98, 100, 97]⟩)))), (3, (.lit (.val (.string ⟨#[108, 101, 116]⟩)))), (4, (.lit (.val (.string ⟨#[98, 101, 103, 105, 110]⟩)))), (5, (.lit (.val (.string ⟨#[100, 101, 102, 105, 110, 101]⟩)))), (6, (.lit (.val (.string ⟨#[115, 101, 116, 33]⟩))))] (.frz 1 (.var 0) (.lp [0, 3, 4] (.og (.lenS (.var 1)) (.og (.ibin .lss (.var 3) (.var 0)) (.apick (.var 0) (.og (.idx 1 (.var 3) (.var 4)) (.og (.lod (.var 0)) (.og (.sbin .eql (.var 0) (.var 4)) (.apick (.var 0) (.ret (.lit (.val (.bool true)))) (.og (.ibin .add (.var 7) (.lit (.val (.int .i64 1)))) (.jump 0 [(.var 6), (.var 7), (.var 0)])))))) (.ret (.lit (.val (.bool false))))))) [(.var 2), (.var 0), (.lit (.val (.int .i64 0)))]))
set_option maxRecDepth 1000000 in
theorem x70_ok : okF TT Tryz.f70 1 x70 = true := by decide +kernel
set_option maxRecDepth 1000000 in
theorem s_spec_IsKeyword_ok {a0 : AV} {σ : AH} {R : AEnd → AH → Prop} (h : s_spec_IsKeyword a0 σ R) : acall TP fn_spec_IsKeyword [a0] σ R :=
  acall_okF (ρ := [a0]) TT_ok Tryz.func70 rfl x70 x70_ok rfl h

/-- loop.example/g00349/spec.l3Bare -/
def s_spec_l3Bare (a0 : AV) (σ : AH) (R : AEnd → AH → Prop) : Prop :=
  og (anil a0) fun v5 =>
  og (fldA 0 v5) fun v6 =>
  og (lod v6 σ) fun v7 =>
  og (ibin .eql v7 (.val (.int .i64 1))) fun v8 =>
  og (gval v8 false false (some a0)) fun v10 =>
  og (gval v8 false false (anil v10)) fun v11 =>
  og (gval v8 false false (fldA 0 v11)) fun v12 =>
  og (gval v8 false false (lod v12 σ)) fun v13 =>
  og (gval v8 false false (ibin .eql v13 (.val (.int .i64 2)))) fun v14 =>
  og (pickV v8 (.val (.bool true)) v14) fun v15 =>
  og (anil a0) fun v17 =>
  og (fldA 0 v17) fun v18 =>
  og (lod v18 σ) fun v19 =>
  acall TP fn_spec_l1In [v19, (.val (.int .i64 1)), (.val (.int .i64 4))] σ (onr (fun v20 σ =>
  og (gval v20 true false (some v15)) fun v22 =>
  og (gval v20 true false (some v22)) fun v23 =>
  og (gval v23 false true (some a0)) fun v24 =>
  og (gval v23 false true (anil v24)) fun v25 =>
  og (gval v23 false true (fldA 2 v25)) fun v26 =>
  og (gval v23 false true (lod v26 σ)) fun v27 =>
  og (gval v23 false true (ibin .eql v27 (.val (.int .i64 0)))) fun v28 =>
  og (gval v20 true false (pickV v23 (.val (.bool true)) v28)) fun v29 =>
  og (pickV v20 v29 (.val (.bool false))) fun v30 =>
  og (gval v30 true false (some a0)) fun v32 =>
  og (gval v30 true false (anil v32)) fun v33 =>
  og (gval v30 true false (fldA 0 v33)) fun v34 =>
  og (gval v30 true false (lod v34 σ)) fun v35 =>
  og (gval v30 true false (ibin .eql v35 (.val (.int .i64 3)))) fun v36 =>
  og (gval v30 true false (some v36)) fun v37 =>
  og (gval v37 false true (some a0)) fun v38 =>
  og (gval v37 false true (anil v38)) fun v39 =>
  og (gval v37 false true (fldA 3 v39)) fun v40 =>
  og (gval v37 false true (lod v40 σ)) fun v41 =>
  og (gval v37 false true (sbin .eql v41 (.val (.string ⟨#[]⟩)))) fun v42 =>
  og (gval v30 true false (pickV v37 (.val (.bool true)) v42)) fun v43 =>
  og (pickV v30 v43 (.val (.bool false))) fun v44 =>
  aret v44 σ R) (fun v σ => apan v σ R))
def x71 : Sx := .og (.anil (.var 0)) (.og (.fldA 0 (.var 0)) (.og (.lod (.var 0)) (.og (.ibin .eql (.var 0) (.lit (.val (.int .i64 1)))) (.gog (.var 0) false false (.ret (.var 4)) (.gog (.var 1) false false (.anil (.var 0)) (.gog (.var 2) false false (.fldA 0 (.var 0)) (.gog (.var 3) false false (.lod (.var 0)) (.gog (.var 4) false false (.ibin .eql (.var 0) (.lit (.val (.int .i64 2)))) (.og (.pickV (.var 5) (.lit (.val (.bool true))) (.var 0)) (.og (.anil (.var 10)) (.og (.fldA 0 (.var 0)) (.og (.lod (.var 0)) (.call 45 [(.var 0), (.lit (.val (.int .i64 1))), (.lit (.val (.int .i64 4)))] (.gog (.var 0) true false (.ret (.var 4)) (.gog (.var 1) true false (.ret (.var 0)) (.gog (.var 0) false true (.ret (.var 16)) (.gog (.var 1) false true (.anil (.var 0)) (.gog (.var 2) false true (.fldA 2 (.var 0)) (.gog (.var 3) false true (.lod (.var 0)) (.gog (.var 4) false true (.ibin .eql (.var 0) (.lit (.val (.int .i64 0)))) (.gog (.var 7) true false (.pickV (.var 5) (.lit (.val (.bool true))) (.var 0)) (.og (.pickV (.var 8) (.var 0) (.lit (.val (.bool false)))) (.gog (.var 0) true false (.ret (.var 23)) (.gog (.var 1) true false (.anil (.var 0)) (.gog (.var 2) true false (.fldA 0 (.var 0)) (.gog (.var 3) true false (.lod (.var 0)) (.gog (.var 4) true false (.ibin .eql (.var 0) (.lit (.val (.int .i64 3)))) (.gog (.var 5) true false (.ret (.var 0)) (.gog (.var 0) false true (.ret (.var 29)) (.gog (.var 1) false true (.anil (.var 0)) (.gog (.var 2) false true (.fldA 3 (.var 0)) (.gog (.var 3) false true (.lod (.var 0)) (.gog (.var 4) false true (.sbin .eql (.var 0) (.lit (.val (.string ⟨#[]⟩)))) (.gog (.var 11) true false (.pickV (.var 5) (.lit (.val (.bool true))) (.var 0)) (.og (.pickV (.var 12) (.var 0) (.lit (.val (.bool false)))) (.ret (.var 0)))))))))))))))))))))))))))))))))))))
set_option maxRecDepth 1000000 in
theorem x71_ok : okF TT Tryz.f71 1 x71 = true := by decide +kernel
set_option maxRecDepth 1000000 in
theorem s_spec_l3Bare_ok {a0 : AV} {σ : AH} {R : AEnd → AH → Prop} (h : s_spec_l3Bare a0 σ R) : acall TP fn_spec_l3Bare [a0] σ R :=
  acall_okF (ρ := [a0]) TT_ok Tryz.func71 rfl x71 x71_ok rfl h

/-- loop.example/g00349/spec.l1Num -/
def s_spec_l1Num (a0 : AV) (σ : AH) (R : AEnd → AH → Prop) : Prop :=
  acall TP fn_spec_l1In [a0, (.val (.int .i64 (-1000000000))), (.val (.int .i64 1000000000))] σ (onr (fun v4 σ =>
  aret v4 σ R) (fun v σ => apan v σ R))
def x72 : Sx := .call 45 [(.var 0), (.lit (.val (.int .i64 (-1000000000)))), (.lit (.val (.int .i64 1000000000)))] (.ret (.var 0))
set_option maxRecDepth 1000000 in
theorem x72_ok : okF TT Tryz.f72 1 x72 = true := by decide +kernel
set_option maxRecDepth 1000000 in
theorem s_spec_l1Num_ok {a0 : AV} {σ : AH} {R : AEnd → AH → Prop} (h : s_spec_l1Num a0 σ R) : acall TP fn_spec_l1Num [a0] σ R :=
  acall_okF (ρ := [a0]) TT_ok Tryz.func72 rfl x72 x72_ok rfl h

/-- loop.example/g00349/spec.l3Line -/
def s_spec_l3Line (a0 a1 : AV) (σ : AH) (R : AEnd → AH → Prop) : Prop :=
  og (ibin .sub a1 (.val (.int .i64 1))) fun v7 =>
  lp (X := Tup [0, 1, 5]) (fun R1 y1 σ =>
    og (ibin .geq y1.2.2.1 (.val (.int .i64 0))) fun v9 =>
    apick v9 (
      og (idx 4 y1.1 y1.2.1 σ) fun v18 =>
      og (fldA 1 v18) fun v19 =>
      og (lod v19 σ) fun v20 =>
      og (ibin .eql y1.2.2.1 v20) fun v21 =>
      apick v21 (
        og (idx 4 y1.1 y1.2.2.1 σ) fun v24 =>
        og (fldA 0 v24) fun v25 =>
        og (lod v25 σ) fun v26 =>
        og (ibin .eql v26 (.val (.int .i64 4))) fun v27 =>
        aret v27 σ R) (
        og (idx 4 y1.1 y1.2.2.1 σ) fun v12 =>
        og (fldA 1 v12) fun v13 =>
        og (lod v13 σ) fun v14 =>
        R1 (y1.1, y1.2.1, v14, ()) σ)) (
      aret (.val (.bool false)) σ R)) (a0, a1, v7, ()) σ
def x73 : Sx := .og (.ibin .sub (.var 0) (.lit (.val (.int .i64 1)))) (.lp [0, 1, 5] (.og (.ibin .geq (.var 2) (.lit (.val (.int .i64 0)))) (.apick (.var 0) (.og (.idx 4 (.var 1) (.var 2)) (.og (.fldA 1 (.var 0)) (.og (.lod (.var 0)) (.og (.ibin .eql (.var 6) (.var 0)) (.apick (.var 0) (.og (.idx 4 (.var 5) (.var 7)) (.og (.fldA 0 (.var 0)) (.og (.lod (.var 0)) (.og (.ibin .eql (.var 0) (.lit (.val (.int .i64 4)))) (.ret (.var 0)))))) (.og (.idx 4 (.var 5) (.var 7)) (.og (.fldA 1 (.var 0)) (.og (.lod (.var 0)) (.jump 0 [(.var 8), (.var 9), (.var 0)]))))))))) (.ret (.lit (.val (.bool false)))))) [(.var 2), (.var 1), (.var 0)])
set_option maxRecDepth 1000000 in
theorem x73_ok : okF TT Tryz.f73 2 x73 = true := by decide +kernel
set_option maxRecDepth 1000000 in
theorem s_spec_l3Line_ok {a0 a1 : AV} {σ : AH} {R : AEnd → AH → Prop} (h : s_spec_l3Line a0 a1 σ R) : acall TP fn_spec_l3Line [a0, a1] σ R :=
  acall_okF (ρ := [a1, a0]) TT_ok Tryz.func73 rfl x73 x73_ok rfl h

/-- loop.example/g00349/spec.l3Deep -/
def s_spec_l3Deep (a0 a1 : AV) (σ : AH) (R : AEnd → AH → Prop) : Prop :=
  lp (X := Tup [0, 1, 5]) (fun R1 y1 σ =>
    og (ibin .geq y1.2.1 (.val (.int .i64 0))) fun v7 =>
    og (gval v7 true false (some y1.2.2.1)) fun v9 =>
    og (gval v7 true false (ibin .lss v9 (.val (.int .i64 100)))) fun v10 =>
    og (pickV v7 v10 (.val (.bool false))) fun v11 =>
    apick v11 (
      og (ibin .add y1.2.2.1 (.val (.int .i64 1))) fun v13 =>
      og (idx 4 y1.1 y1.2.1 σ) fun v16 =>
      og (fldA 1 v16) fun v17 =>
      og (lod v17 σ) fun v18 =>
      R1 (y1.1, v18, v13, ()) σ) (
      aret y1.2.2.1 σ R)) (a0, a1, (.val (.int .i64 0)), ()) σ
def x74 : Sx := .lp [0, 1, 5] (.og (.ibin .geq (.var 1) (.lit (.val (.int .i64 0)))) (.gog (.var 0) true false (.ret (.var 3)) (.gog (.var 1) true false (.ibin .lss (.var 0) (.lit (.val (.int .i64 100)))) (.og (.pickV (.var 2) (.var 0) (.lit (.val (.bool false)))) (.apick (.var 0) (.og (.ibin .add (.var 6) (.lit (.val (.int .i64 1)))) (.og (.idx 4 (.var 5) (.var 6)) (.og (.fldA 1 (.var 0)) (.og (.lod (.var 0)) (.jump 0 [(.var 8), (.var 0), (.var 3)]))))) (.ret (.var 6))))))) [(.var 1), (.var 0), (.lit (.val (.int .i64 0)))]
set_option maxRecDepth 1000000 in
theorem x74_ok : okF TT Tryz.f74 2 x74 = true := by decide +kernel
set_option maxRecDepth 1000000 in
theorem s_spec_l3Deep_ok {a0 a1 : AV} {σ : AH} {R : AEnd → AH → Prop} (h : s_spec_l3Deep a0 a1 σ R) : acall TP fn_spec_l3Deep [a0, a1] σ R :=
  acall_okF (ρ := [a1, a0]) TT_ok Tryz.func74 rfl x74 x74_ok rfl h

/-- loop.example/g00349/spec.l4Around -/
def s_spec_l4Around (a0 a1 a2 : AV) (σ : AH) (R : AEnd → AH → Prop) : Prop :=
  og (idx 6 a0 a1 σ) fun v10 =>
  og (fldA 1 v10) fun v11 =>
  og (lod v11 σ) fun v12 =>
  lp (X := Tup [0, 2, 7]) (fun R1 y1 σ =>
    og (ibin .geq y1.2.2.1 (.val (.int .i64 0))) fun v14 =>
    apick v14 (
      jn (X := Tup [0, 2, 7]) (fun x2 σ =>
          og (idx 6 x2.1 x2.2.2.1 σ) fun v28 =>
          og (fldA 1 v28) fun v29 =>
          og (lod v29 σ) fun v30 =>
          R1 (x2.1, x2.2.1, v30, ()) σ) fun k2 =>
        og (idx 6 y1.1 y1.2.2.1 σ) fun v17 =>
        og (fldA 0 v17) fun v18 =>
        og (lod v18 σ) fun v19 =>
        og (ibin .eql v19 (.val (.int .i64 5))) fun v20 =>
        apick v20 (
          og (ibin .eql y1.2.1 (.val (.int .i64 0))) fun v22 =>
          apick v22 (
            aret y1.2.2.1 σ R) (
            og (ibin .sub y1.2.1 (.val (.int .i64 1))) fun v25 =>
            k2 (y1.1, v25, y1.2.2.1, ()) σ)) (
          k2 (y1.1, y1.2.1, y1.2.2.1, ()) σ)) (
      aret (.val (.int .i64 (-1))) σ R)) (a0, a2, v12, ()) σ
def x75 : Sx := .og (.idx 6 (.var 2) (.var 1)) (.og (.fldA 1 (.var 0)) (.og (.lod (.var 0)) (.lp [0, 2, 7] (.og (.ibin .geq (.var 2) (.lit (.val (.int .i64 0)))) (.apick (.var 0) (.jn 453 [0, 2, 7] (.og (.idx 6 (.var 0) (.var 2)) (.og (.fldA 1 (.var 0)) (.og (.lod (.var 0)) (.jump 0 [(.var 3), (.var 4), (.var 0)])))) (.og (.idx 6 (.var 1) (.var 3)) (.og (.fldA 0 (.var 0)) (.og (.lod (.var 0)) (.og (.ibin .eql (.var 0) (.lit (.val (.int .i64 5)))) (.apick (.var 0) (.og (.ibin .eql (.var 6) (.lit (.val (.int .i64 0)))) (.apick (.var 0) (.ret (.var 8)) (.og (.ibin .sub (.var 7) (.lit (.val (.int .i64 1)))) (.jump 0 [(.var 7), (.var 0), (.var 9)])))) (.jump 0 [(.var 5), (.var 6), (.var 7)]))))))) (.ret (.lit (.val (.int .i64 (-1))))))) [(.var 5), (.var 3), (.var 0)])))
set_option maxRecDepth 1000000 in
theorem x75_ok : okF TT Tryz.f75 3 x75 = true := by decide +kernel
set_option maxRecDepth 1000000 in
theorem s_spec_l4Around_ok {a0 a1 a2 : AV} {σ : AH} {R : AEnd → AH → Prop} (h : s_spec_l4Around a0 a1 a2 σ R) : acall TP fn_spec_l4Around [a0, a1, a2] σ R :=
  acall_okF (ρ := [a2, a1, a0]) TT_ok Tryz.func75 rfl x75 x75_ok rfl h

/-- loop.example/g00349/impl.SymFault -/
def s_impl_SymFault (a0 : AV) (σ : AH) (R : AEnd → AH → Prop) : Prop :=
  jn (X := Tup [11]) (fun x1 σ =>
      apick x1.1 (
        aret (.val (.int .i64 5)) σ R) (
        aret (.val (.int .i64 0)) σ R)) fun k1 =>
    og (lenStr a0) fun v4 =>
    acall TP fn_impl_in [v4, (.val (.int .i64 1)), (.val (.int .i64 12))] σ (onr (fun v5 σ =>
    og (aun .not v5) fun v6 =>
    og (gval v6 false false (some a0)) fun v8 =>
    gpick v6 (
      k1 ((.val (.bool true)), ()) σ) (
      acall TP fn_strings_Trim [v8, (.val (.string ⟨#[97, 98, 99, 100, 101, 102, 103, 104, 105, 106, 107, 108, 109, 110, 111, 112, 113, 114, 115, 116, 117, 118, 119, 120, 121, 122, 43, 45, 42, 47, 60, 61, 63, 33]⟩))] σ (onr (fun v9 σ =>
      og (sbin .neq v9 (.val (.string ⟨#[]⟩))) fun v10 =>
      k1 (v10, ()) σ) (fun v σ => apan v σ R))) (False)) (fun v σ => apan v σ R))
def x76 : Sx := .jn 13 [11] (.apick (.var 0) (.ret (.lit (.val (.int .i64 5)))) (.ret (.lit (.val (.int .i64 0))))) (.og (.lenStr (.var 0)) (.call 31 [(.var 0), (.lit (.val (.int .i64 1))), (.lit (.val (.int .i64 12)))] (.og (.aun .not (.var 0)) (.gog (.var 0) false false (.ret (.var 3)) (.gpick (.var 1) (.jump 0 [(.lit (.val (.bool true)))]) (.call 82 [(.var 0), (.lit (.val (.string ⟨#[97, 98, 99, 100, 101, 102, 103, 104, 105, 106, 107, 108, 109, 110, 111, 112, 113, 114, 115, 116, 117, 118, 119, 120, 121, 122, 43, 45, 42, 47, 60, 61, 63, 33]⟩)))] (.og (.sbin .neq (.var 0) (.lit (.val (.string ⟨#[]⟩)))) (.jump 0 [(.var 0)]))) (.no))))))
set_option maxRecDepth 1000000 in
theorem x76_ok : okF TT Tryz.f76 1 x76 = true := by decide +kernel
set_option maxRecDepth 1000000 in
theorem s_impl_SymFault_ok {a0 : AV} {σ : AH} {R : AEnd → AH → Prop} (h : s_impl_SymFault a0 σ R) : acall TP fn_impl_SymFault [a0] σ R :=
  acall_okF (ρ := [a0]) TT_ok Tryz.func76 rfl x76 x76_ok rfl h

/-- loop.example/g00349/impl.IsKeyword -/
def s_impl_IsKeyword (a0 : AV) (σ : AH) (R : AEnd → AH → Prop) : Prop :=
  bsl 1 [(.val (.string ⟨#[]⟩))] 7 [(0, (.val (.string ⟨#[113, 117, 111, 116, 101]⟩))), (1, (.val (.string ⟨#[105, 102]⟩))), (2, (.val (.string ⟨#[108, 97, 109, 98, 100, 97]⟩))), (3, (.val (.string ⟨#[108, 101, 116]⟩))), (4, (.val (.string ⟨#[98, 101, 103, 105, 110]⟩))), (5, (.val (.string ⟨#[100, 101, 102, 105, 110, 101]⟩))), (6, (.val (.string ⟨#[115, 101, 116, 33]⟩)))] σ fun v3 σ =>
  acall TP fn_slices_Contains [v3, a0] σ (onr (fun v5 σ =>
  aret v5 σ R) (fun v σ => apan v σ R))
def x77 : Sx := .bsl 1 [(.val (.string ⟨#[]⟩))] 7 [(0, (.lit (.val (.string ⟨#[113, 117, 111, 116, 101]⟩)))), (1, (.lit (.val (.string ⟨#[105, 102]⟩)))), (2, (.lit (.val (.string ⟨#[108, 97, 109, 98, 100, 97]⟩)))), (3, (.lit (.val (.string ⟨#[108, 101, 116]⟩)))), (4, (.lit (.val (.string ⟨#[98, 101, 103, 105, 110]⟩)))), (5, (.lit (.val (.string ⟨#[100, 101, 102, 105, 110, 101]⟩)))), (6, (.lit (.val (.string ⟨#[115, 101, 116, 33]⟩))))] (.call 83 [(.var 0), (.var 1)] (.ret (.var 0)))
set_option maxRecDepth 1000000 in
theorem x77_ok : okF TT Tryz.f77 1 x77 = true := by decide +kernel
set_option maxRecDepth 1000000 in
theorem s_impl_IsKeyword_ok {a0 : AV} {σ : AH} {R : AEnd → AH → Prop} (h : s_impl_IsKeyword a0 σ R) : acall TP fn_impl_IsKeyword [a0] σ R :=
  acall_okF (ρ := [a0]) TT_ok Tryz.func77 rfl x77 x77_ok rfl h

/-- loop.example/g00349/impl.datumFault -/
def s_impl_datumFault (a0 a1 : AV) (σ : AH) (R : AEnd → AH → Prop) : Prop :=
  abox a0 σ fun v2 σ =>
  frz v2 σ fun f2 σ =>
  og (lod f2 σ) fun v7 =>
  og (idx 4 v7 a1 σ) fun v9 =>
  og (lodA 4 v9 σ) fun v10 =>
  new [(.val (.int .i64 0)), (.val (.int .i64 0)), (.val (.int .i64 0)), (.val (.string ⟨#[]⟩))] σ fun v5 σ =>
  sto 4 v5 v10 σ fun σ =>
  frz v5 σ fun f5 σ =>
  og (fldA 0 f5) fun v12 =>
  og (lod v12 σ) fun v13 =>
  acall TP fn_impl_in [v13, (.val (.int .i64 1)), (.val (.int .i64 4))] σ (onr (fun v14 σ =>
  og (aun .not v14) fun v15 =>
  og (gval v15 false false (fldA 2 f5)) fun v17 =>
  og (gval v15 false false (lod v17 σ)) fun v18 =>
  og (gval v15 false false (ibin .neq v18 (.val (.int .i64 0)))) fun v19 =>
  og (gval v15 false false (some v19)) fun v20 =>
  og (gval v20 true true (fldA 0 f5)) fun v21 =>
  og (gval v20 true true (lod v21 σ)) fun v22 =>
  og (gval v20 true true (ibin .neq v22 (.val (.int .i64 1)))) fun v23 =>
  og (gval v15 false false (pickV v20 v23 (.val (.bool false)))) fun v24 =>
  og (gval v15 false false (some v24)) fun v25 =>
  og (gval v25 true true (fldA 0 f5)) fun v26 =>
  og (gval v25 true true (lod v26 σ)) fun v27 =>
  og (gval v25 true true (ibin .neq v27 (.val (.int .i64 2)))) fun v28 =>
  og (gval v15 false false (pickV v25 v28 (.val (.bool false)))) fun v29 =>
  og (pickV v15 (.val (.bool true)) v29) fun v30 =>
  og (gval v30 false false (fldA 3 f5)) fun v32 =>
  og (gval v30 false false (lod v32 σ)) fun v33 =>
  og (gval v30 false false (sbin .neq v33 (.val (.string ⟨#[]⟩)))) fun v34 =>
  og (gval v30 false false (some v34)) fun v35 =>
  og (gval v35 true true (fldA 0 f5)) fun v36 =>
  og (gval v35 true true (lod v36 σ)) fun v37 =>
  og (gval v35 true true (ibin .neq v37 (.val (.int .i64 3)))) fun v38 =>
  og (gval v30 false false (pickV v35 v38 (.val (.bool false)))) fun v39 =>
  og (pickV v30 (.val (.bool true)) v39) fun v40 =>
  apick v40 (
    aret (.val (.int .i64 1)) σ R) (
    og (fldA 0 f5) fun v41 =>
    og (lod v41 σ) fun v42 =>
    og (fldA 2 f5) fun v43 =>
    og (lod v43 σ) fun v44 =>
    og (fldA 3 f5) fun v45 =>
    og (lod v45 σ) fun v46 =>
    acall TP fn_impl_kindFault [v42, (.val (.int .i64 1)), (.val (.int .i64 3)), (.val (.int .i64 2)), v44, v46] σ (onr (fun v47 σ =>
    og (ibin .neq v47 (.val (.int .i64 0))) fun v49 =>
    apick v49 (
      aret v47 σ R) (
      og (ibin .eql a1 (.val (.int .i64 0))) fun v52 =>
      apick v52 (
        og (fldA 1 f5) fun v53 =>
        og (lod v53 σ) fun v54 =>
        og (ibin .neq v54 (.val (.int .i64 (-1)))) fun v55 =>
        apick v55 (
          aret (.val (.int .i64 3)) σ R) (
          aret (.val (.int .i64 0)) σ R)) (
        og (fldA 1 f5) fun v57 =>
        og (lod v57 σ) fun v58 =>
        og (ibin .sub a1 (.val (.int .i64 1))) fun v60 =>
        acall TP fn_impl_in [v58, (.val (.int .i64 0)), v60] σ (onr (fun v61 σ =>
        og (aun .not v61) fun v62 =>
        apick v62 (
          aret (.val (.int .i64 3)) σ R) (
          jn (X := Tup [1, 2, 63]) (fun x1 σ =>
              apick x1.2.2.1 (
                aret (.val (.int .i64 1)) σ R) (
                og (lod x1.2.1 σ) fun v81 =>
                acall TP fn_impl_deep [v81, x1.1] σ (onr (fun v83 σ =>
                og (ibin .gtr v83 (.val (.int .i64 12))) fun v84 =>
                apick v84 (
                  aret (.val (.int .i64 2)) σ R) (
                  aret (.val (.int .i64 0)) σ R)) (fun v σ => apan v σ R)))) fun k1 =>
            og (lod f2 σ) fun v64 =>
            og (fldA 1 f5) fun v65 =>
            og (lod v65 σ) fun v66 =>
            og (idx 4 v64 v66 σ) fun v67 =>
            og (fldA 0 v67) fun v68 =>
            og (lod v68 σ) fun v69 =>
            og (ibin .neq v69 (.val (.int .i64 4))) fun v70 =>
            gpick v70 (
              k1 (a1, f2, (.val (.bool true)), ()) σ) (
              og (ibin .sub a1 (.val (.int .i64 1))) fun v74 =>
              og (fldA 1 f5) fun v75 =>
              og (lod v75 σ) fun v76 =>
              acall TP fn_impl_isUp [(.clo (.func fn_impl_datumFault_1) [] [f2]), v74, v76] σ (onr (fun v77 σ =>
              og (aun .not v77) fun v78 =>
              k1 (a1, f2, v78, ()) σ) (fun v σ => apan v σ R))) (False))) (fun v σ => apan v σ R))))) (fun v σ => apan v σ R)))) (fun v σ => apan v σ R))
def x78 : Sx := .box (.var 1) (.frz 2 (.var 0) (.og (.lod (.var 0)) (.og (.idx 4 (.var 0) (.var 3)) (.og (.lodA 4 (.var 0)) (.new [(.val (.int .i64 0)), (.val (.int .i64 0)), (.val (.int .i64 0)), (.val (.string ⟨#[]⟩))] (.sto 4 (.var 0) (.var 1) (.frz 7 (.var 0) (.og (.fldA 0 (.var 0)) (.og (.lod (.var 0)) (.call 31 [(.var 0), (.lit (.val (.int .i64 1))), (.lit (.val (.int .i64 4)))] (.og (.aun .not (.var 0)) (.gog (.var 0) false false (.fldA 2 (.var 4)) (.gog (.var 1) false false (.lod (.var 0)) (.gog (.var 2) false false (.ibin .neq (.var 0) (.lit (.val (.int .i64 0)))) (.gog (.var 3) false false (.ret (.var 0)) (.gog (.var 0) true true (.fldA 0 (.var 8)) (.gog (.var 1) true true (.lod (.var 0)) (.gog (.var 2) true true (.ibin .neq (.var 0) (.lit (.val (.int .i64 1)))) (.gog (.var 7) false false (.pickV (.var 3) (.var 0) (.lit (.val (.bool false)))) (.gog (.var 8) false false (.ret (.var 0)) (.gog (.var 0) true true (.fldA 0 (.var 13)) (.gog (.var 1) true true (.lod (.var 0)) (.gog (.var 2) true true (.ibin .neq (.var 0) (.lit (.val (.int .i64 2)))) (.gog (.var 12) false false (.pickV (.var 3) (.var 0) (.lit (.val (.bool false)))) (.og (.pickV (.var 13) (.lit (.val (.bool true))) (.var 0)) (.gog (.var 0) false false (.fldA 3 (.var 18)) (.gog (.var 1) false false (.lod (.var 0)) (.gog (.var 2) false false (.sbin .neq (.var 0) (.lit (.val (.string ⟨#[]⟩)))) (.gog (.var 3) false false (.ret (.var 0)) (.gog (.var 0) true true (.fldA 0 (.var 22)) (.gog (.var 1) true true (.lod (.var 0)) (.gog (.var 2) true true (.ibin .neq (.var 0) (.lit (.val (.int .i64 3)))) (.gog (.var 7) false false (.pickV (.var 3) (.var 0) (.lit (.val (.bool false)))) (.og (.pickV (.var 8) (.lit (.val (.bool true))) (.var 0)) (.apick (.var 0) (.ret (.lit (.val (.int .i64 1)))) (.og (.fldA 0 (.var 27)) (.og (.lod (.var 0)) (.og (.fldA 2 (.var 29)) (.og (.lod (.var 0)) (.og (.fldA 3 (.var 31)) (.og (.lod (.var 0)) (.call 84 [(.var 4), (.lit (.val (.int .i64 1))), (.lit (.val (.int .i64 3))), (.lit (.val (.int .i64 2))), (.var 2), (.var 0)] (.og (.ibin .neq (.var 0) (.lit (.val (.int .i64 0)))) (.apick (.var 0) (.ret (.var 1)) (.og (.ibin .eql (.var 42) (.lit (.val (.int .i64 0)))) (.apick (.var 0) (.og (.fldA 1 (.var 36)) (.og (.lod (.var 0)) (.og (.ibin .neq (.var 0) (.lit (.val (.int .i64 (-1))))) (.apick (.var 0) (.ret (.lit (.val (.int .i64 3)))) (.ret (.lit (.val (.int .i64 0)))))))) (.og (.fldA 1 (.var 36)) (.og (.lod (.var 0)) (.og (.ibin .sub (.var 45) (.lit (.val (.int .i64 1)))) (.call 31 [(.var 1), (.lit (.val (.int .i64 0))), (.var 0)] (.og (.aun .not (.var 0)) (.apick (.var 0) (.ret (.lit (.val (.int .i64 3)))) (.jn 2023 [1, 2, 63] (.apick (.var 2) (.ret (.lit (.val (.int .i64 1)))) (.og (.lod (.var 1)) (.call 86 [(.var 0), (.var 1)] (.og (.ibin .gtr (.var 0) (.lit (.val (.int .i64 12)))) (.apick (.var 0) (.ret (.lit (.val (.int .i64 2)))) (.ret (.lit (.val (.int .i64 0))))))))) (.og (.lod (.var 46)) (.og (.fldA 1 (.var 42)) (.og (.lod (.var 0)) (.og (.idx 4 (.var 2) (.var 0)) (.og (.fldA 0 (.var 0)) (.og (.lod (.var 0)) (.og (.ibin .neq (.var 0) (.lit (.val (.int .i64 4)))) (.gpick (.var 0) (.jump 0 [(.var 55), (.var 53), (.lit (.val (.bool true)))]) (.clo (.func 85) [] [(.var 53)] (.og (.ibin .sub (.var 56) (.lit (.val (.int .i64 1)))) (.og (.fldA 1 (.var 50)) (.og (.lod (.var 0)) (.call 56 [(.var 3), (.var 2), (.var 0)] (.og (.aun .not (.var 0)) (.jump 0 [(.var 61), (.var 59), (.var 0)]))))))) (.no))))))))))))))))))))))))))))))))))))))))))))))))))))))))))))))
set_option maxRecDepth 1000000 in
theorem x78_ok : okF TT Tryz.f78 2 x78 = true := by decide +kernel
set_option maxRecDepth 1000000 in
theorem s_impl_datumFault_ok {a0 a1 : AV} {σ : AH} {R : AEnd → AH → Prop} (h : s_impl_datumFault a0 a1 σ R) : acall TP fn_impl_datumFault [a0, a1] σ R :=
  acall_okF (ρ := [a1, a0]) TT_ok Tryz.func78 rfl x78 x78_ok rfl h

/-- (*loop.example/g00349/impl.compiler).here -/
def s_impl_compiler_here (a0 a1 : AV) (σ : AH) (R : AEnd → AH → Prop) : Prop :=
  og (anil a0) fun v6 =>
  og (fldA 2 v6) fun v7 =>
  og (lod v7 σ) fun v8 =>
  og (idx 2 v8 a1 σ) fun v10 =>
  og (fldA 1 v10) fun v11 =>
  og (lod v11 σ) fun v12 =>
  og (lenS v12) fun v13 =>
  aret v13 σ R
def x79 : Sx := .og (.anil (.var 1)) (.og (.fldA 2 (.var 0)) (.og (.lod (.var 0)) (.og (.idx 2 (.var 0) (.var 3)) (.og (.fldA 1 (.var 0)) (.og (.lod (.var 0)) (.og (.lenS (.var 0)) (.ret (.var 0))))))))
set_option maxRecDepth 1000000 in
theorem x79_ok : okF TT Tryz.f79 2 x79 = true := by decide +kernel
set_option maxRecDepth 1000000 in
theorem s_impl_compiler_here_ok {a0 a1 : AV} {σ : AH} {R : AEnd → AH → Prop} (h : s_impl_compiler_here a0 a1 σ R) : acall TP fn_impl_compiler_here [a0, a1] σ R :=
  acall_okF (ρ := [a1, a0]) TT_ok Tryz.func79 rfl x79 x79_ok rfl h

/-- loop.example/g00349/laws.eqOp -/
def s_laws_eqOp (a0 a1 : AV) (σ : AH) (R : AEnd → AH → Prop) : Prop :=
  abox a0 σ fun v2 σ =>
  abox a1 σ fun v3 σ =>
  frz v2 σ fun f2 σ =>
  frz v3 σ fun f3 σ =>
  og (fldA 0 f2) fun v5 =>
  og (lod v5 σ) fun v6 =>
  og (fldA 0 f3) fun v7 =>
  og (lod v7 σ) fun v8 =>
  og (ibin .neq v6 v8) fun v9 =>
  apick v9 (
    aret (.val (.bool false)) σ R) (
    og (fldA 1 f2) fun v10 =>
    og (lod v10 σ) fun v11 =>
    og (fldA 1 f3) fun v12 =>
    og (lod v12 σ) fun v13 =>
    og (ibin .neq v11 v13) fun v14 =>
    apick v14 (
      aret (.val (.bool false)) σ R) (
      og (fldA 2 f2) fun v15 =>
      og (lod v15 σ) fun v16 =>
      og (fldA 2 f3) fun v17 =>
      og (lod v17 σ) fun v18 =>
      og (ibin .neq v16 v18) fun v19 =>
      apick v19 (
        aret (.val (.bool false)) σ R) (
        og (fldA 3 f2) fun v20 =>
        og (lod v20 σ) fun v21 =>
        og (fldA 3 f3) fun v22 =>
        og (lod v22 σ) fun v23 =>
        og (ibin .neq v21 v23) fun v24 =>
        apick v24 (
          aret (.val (.bool false)) σ R) (
          og (fldA 4 f2) fun v25 =>
          og (lod v25 σ) fun v26 =>
          og (fldA 4 f3) fun v27 =>
          og (lod v27 σ) fun v28 =>
          og (ibin .neq v26 v28) fun v29 =>
          apick v29 (
            aret (.val (.bool false)) σ R) (
            og (fldA 5 f2) fun v30 =>
            og (lod v30 σ) fun v31 =>
            og (fldA 5 f3) fun v32 =>
            og (lod v32 σ) fun v33 =>
            og (sbin .neq v31 v33) fun v34 =>
            apick v34 (
              aret (.val (.bool false)) σ R) (
              og (fldA 6 f2) fun v35 =>
              og (lod v35 σ) fun v36 =>
              og (fldA 6 f3) fun v37 =>
              og (lod v37 σ) fun v38 =>
              acall TP fn_laws_eqDatumS [v36, v38] σ (onr (fun v39 σ =>
              og (aun .not v39) fun v40 =>
              apick v40 (
                aret (.val (.bool false)) σ R) (
                aret (.val (.bool true)) σ R)) (fun v σ => apan v σ R))))))))
def x80 : Sx := .box (.var 1) (.box (.var 1) (.frz 2 (.var 1) (.frz 3 (.var 1) (.og (.fldA 0 (.var 1)) (.og (.lod (.var 0)) (.og (.fldA 0 (.var 2)) (.og (.lod (.var 0)) (.og (.ibin .neq (.var 2) (.var 0)) (.apick (.var 0) (.ret (.lit (.val (.bool false)))) (.og (.fldA 1 (.var 6)) (.og (.lod (.var 0)) (.og (.fldA 1 (.var 7)) (.og (.lod (.var 0)) (.og (.ibin .neq (.var 2) (.var 0)) (.apick (.var 0) (.ret (.lit (.val (.bool false)))) (.og (.fldA 2 (.var 11)) (.og (.lod (.var 0)) (.og (.fldA 2 (.var 12)) (.og (.lod (.var 0)) (.og (.ibin .neq (.var 2) (.var 0)) (.apick (.var 0) (.ret (.lit (.val (.bool false)))) (.og (.fldA 3 (.var 16)) (.og (.lod (.var 0)) (.og (.fldA 3 (.var 17)) (.og (.lod (.var 0)) (.og (.ibin .neq (.var 2) (.var 0)) (.apick (.var 0) (.ret (.lit (.val (.bool false)))) (.og (.fldA 4 (.var 21)) (.og (.lod (.var 0)) (.og (.fldA 4 (.var 22)) (.og (.lod (.var 0)) (.og (.ibin .neq (.var 2) (.var 0)) (.apick (.var 0) (.ret (.lit (.val (.bool false)))) (.og (.fldA 5 (.var 26)) (.og (.lod (.var 0)) (.og (.fldA 5 (.var 27)) (.og (.lod (.var 0)) (.og (.sbin .neq (.var 2) (.var 0)) (.apick (.var 0) (.ret (.lit (.val (.bool false)))) (.og (.fldA 6 (.var 31)) (.og (.lod (.var 0)) (.og (.fldA 6 (.var 32)) (.og (.lod (.var 0)) (.call 40 [(.var 2), (.var 0)] (.og (.aun .not (.var 0)) (.apick (.var 0) (.ret (.lit (.val (.bool false)))) (.ret (.lit (.val (.bool true))))))))))))))))))))))))))))))))))))))))))))))))))
set_option maxRecDepth 1000000 in
theorem x80_ok : okF TT Tryz.f80 2 x80 = true := by decide +kernel
set_option maxRecDepth 1000000 in
theorem s_laws_eqOp_ok {a0 a1 : AV} {σ : AH} {R : AEnd → AH → Prop} (h : s_laws_eqOp a0 a1 σ R) : acall TP fn_laws_eqOp [a0, a1] σ R :=
  acall_okF (ρ := [a1, a0]) TT_ok Tryz.func80 rfl x80 x80_ok rfl h

/-- loop.example/g00349/spec.l2Byte -/
def s_spec_l2Byte (a0 : AV) (σ : AH) (R : AEnd → AH → Prop) : Prop :=
  og (ibin .geq a0 (.val (.int .u8 97))) fun v6 =>
  og (gval v6 true false (some a0)) fun v8 =>
  og (gval v6 true false (ibin .leq v8 (.val (.int .u8 122)))) fun v9 =>
  og (pickV v6 v9 (.val (.bool false))) fun v10 =>
  apick v10 (
    aret (.val (.bool true)) σ R) (
    lp (X := Tup [0, 3, 4]) (fun R1 y1 σ =>
      og (lenStr y1.2.1) fun v13 =>
      og (ibin .lss y1.2.2.1 v13) fun v14 =>
      apick v14 (
        og (idxStr y1.2.1 y1.2.2.1) fun v19 =>
        og (ibin .eql v19 y1.1) fun v21 =>
        apick v21 (
          aret (.val (.bool true)) σ R) (
          og (ibin .add y1.2.2.1 (.val (.int .i64 1))) fun v16 =>
          R1 (y1.1, y1.2.1, v16, ()) σ)) (
        aret (.val (.bool false)) σ R)) (a0, (.val (.string ⟨#[43, 45, 42, 47, 60, 61, 63, 33]⟩)), (.val (.int .i64 0)), ()) σ)
def x81 : Sx := .og (.ibin .geq (.var 0) (.lit (.val (.int .u8 97)))) (.gog (.var 0) true false (.ret (.var 1)) (.gog (.var 1) true false (.ibin .leq (.var 0) (.lit (.val (.int .u8 122)))) (.og (.pickV (.var 2) (.var 0) (.lit (.val (.bool false)))) (.apick (.var 0) (.ret (.lit (.val (.bool true)))) (.lp [0, 3, 4] (.og (.lenStr (.var 1)) (.og (.ibin .lss (.var 3) (.var 0)) (.apick (.var 0) (.og (.idxStr (.var 3) (.var 4)) (.og (.ibin .eql (.var 0) (.var 3)) (.apick (.var 0) (.ret (.lit (.val (.bool true)))) (.og (.ibin .add (.var 6) (.lit (.val (.int .i64 1)))) (.jump 0 [(.var 5), (.var 6), (.var 0)]))))) (.ret (.lit (.val (.bool false))))))) [(.var 4), (.lit (.val (.string ⟨#[43, 45, 42, 47, 60, 61, 63, 33]⟩))), (.lit (.val (.int .i64 0)))])))))
set_option maxRecDepth 1000000 in
theorem x81_ok : okF TT Tryz.f81 1 x81 = true := by decide +kernel
set_option maxRecDepth 1000000 in
theorem s_spec_l2Byte_ok {a0 : AV} {σ : AH} {R : AEnd → AH → Prop} (h : s_spec_l2Byte a0 σ R) : acall TP fn_spec_l2Byte [a0] σ R :=
  acall_okF (ρ := [a0]) TT_ok Tryz.func81 rfl x81 x81_ok rfl h

/-- strings.Trim -/
def s_strings_Trim (a0 a1 : AV) (σ : AH) (R : AEnd → AH → Prop) : Prop :=
  og (sbin .eql a0 (.val (.string ⟨#[]⟩))) fun v8 =>
  og (gval v8 false false (some a1)) fun v10 =>
  og (gval v8 false false (sbin .eql v10 (.val (.string ⟨#[]⟩)))) fun v11 =>
  og (pickV v8 (.val (.bool true)) v11) fun v12 =>
  apick v12 (
    aret a0 σ R) (
    og (lenStr a1) fun v15 =>
    og (ibin .eql v15 (.val (.int .i64 1))) fun v16 =>
    og (gval v16 true false (some a1)) fun v18 =>
    og (gval v16 true false (idxStr v18 (.val (.int .i64 0)))) fun v19 =>
    og (gval v16 true false (ibin .lss v19 (.val (.int .u8 128)))) fun v20 =>
    og (pickV v16 v20 (.val (.bool false))) fun v21 =>
    apick v21 (
      og (idxStr a1 (.val (.int .i64 0))) fun v24 =>
      og (idxStr a1 (.val (.int .i64 0))) fun v27 =>
      acall TP fn_strings_trimRightByte [a0, v24] σ (onr (fun v25 σ =>
      (True) ∧
      acall TP fn_strings_trimLeftByte [v25, v27] σ (onr (fun v28 σ =>
      (True) ∧
      aret v28 σ R) (fun v σ => apan v σ R))) (fun v σ => apan v σ R))) (
      acall TP fn_strings_makeASCIISet [a1] σ (onr (fun v31 σ =>
      og (aext v31 0) fun v32 =>
      og (aext v31 1) fun v33 =>
      new (List.replicate 256 (.val (.bool false))) σ fun v5 σ =>
      sto 256 v5 v32 σ fun σ =>
      frz v5 σ fun f5 σ =>
      apick v33 (
        acall TP fn_strings_trimRightASCII [a0, f5] σ (onr (fun v36 σ =>
        acall TP fn_strings_trimLeftASCII [v36, f5] σ (onr (fun v37 σ =>
        aret v37 σ R) (fun v σ => apan v σ R))) (fun v σ => apan v σ R))) (
        acall TP fn_strings_trimRightUnicode [a0, a1] σ (onr (fun v40 σ =>
        acall TP fn_strings_trimLeftUnicode [v40, a1] σ (onr (fun v42 σ =>
        aret v42 σ R) (fun v σ => apan v σ R))) (fun v σ => apan v σ R)))) (fun v σ => apan v σ R))))
def x82 : Sx := .og (.sbin .eql (.var 1) (.lit (.val (.string ⟨#[]⟩)))) (.gog (.var 0) false false (.ret (.var 1)) (.gog (.var 1) false false (.sbin .eql (.var 0) (.lit (.val (.string ⟨#[]⟩)))) (.og (.pickV (.var 2) (.lit (.val (.bool true))) (.var 0)) (.apick (.var 0) (.ret (.var 5)) (.og (.lenStr (.var 4)) (.og (.ibin .eql (.var 0) (.lit (.val (.int .i64 1)))) (.gog (.var 0) true false (.ret (.var 6)) (.gog (.var 1) true false (.idxStr (.var 0) (.lit (.val (.int .i64 0)))) (.gog (.var 2) true false (.ibin .lss (.var 0) (.lit (.val (.int .u8 128)))) (.og (.pickV (.var 3) (.var 0) (.lit (.val (.bool false)))) (.apick (.var 0) (.ord [0, 1, 2, 4, 5, 3, 6, 7] [0, 0, 2, 7, 0, 16, 63, 127] (.og (.idxStr (.var 10) (.lit (.val (.int .i64 0)))) (.og (.idxStr (.var 11) (.lit (.val (.int .i64 0)))) (.call 88 [(.var 13), (.var 1)] (.wat [] (.call 87 [(.var 0), (.var 1)] (.wat [] (.ret (.var 0))))))))) (.call 89 [(.var 10)] (.og (.aext (.var 0) 0) (.og (.aext (.var 1) 1) (.new (List.replicate 256 (.val (.bool false))) (.sto 256 (.var 0) (.var 2) (.frz 15 (.var 0) (.apick (.var 2) (.call 91 [(.var 16), (.var 0)] (.call 90 [(.var 0), (.var 1)] (.ret (.var 0)))) (.call 93 [(.var 16), (.var 15)] (.call 92 [(.var 0), (.var 16)] (.ret (.var 0))))))))))))))))))))))
set_option maxRecDepth 1000000 in
theorem x82_ok : okF TT Tryz.f82 2 x82 = true := by decide +kernel
set_option maxRecDepth 1000000 in
theorem s_strings_Trim_ok {a0 a1 : AV} {σ : AH} {R : AEnd → AH → Prop} (h : s_strings_Trim a0 a1 σ R) : acall TP fn_strings_Trim [a0, a1] σ R :=
  acall_okF (ρ := [a1, a0]) TT_ok Tryz.func82 rfl x82 x82_ok rfl h

/-- slices.Contains[[]string,string] -/
def s_slices_Contains (a0 a1 : AV) (σ : AH) (R : AEnd → AH → Prop) : Prop :=
  acall TP fn_slices_Index [a0, a1] σ (onr (fun v7 σ =>
  og (ibin .geq v7 (.val (.int .i64 0))) fun v8 =>
  aret v8 σ R) (fun v σ => apan v σ R))
def x83 : Sx := .call 94 [(.var 1), (.var 0)] (.og (.ibin .geq (.var 0) (.lit (.val (.int .i64 0)))) (.ret (.var 0)))
set_option maxRecDepth 1000000 in
theorem x83_ok : okF TT Tryz.f83 2 x83 = true := by decide +kernel
set_option maxRecDepth 1000000 in
theorem s_slices_Contains_ok {a0 a1 : AV} {σ : AH} {R : AEnd → AH → Prop} (h : s_slices_Contains a0 a1 σ R) : acall TP fn_slices_Contains [a0, a1] σ R :=
  acall_okF (ρ := [a1, a0]) TT_ok Tryz.func83 rfl x83 x83_ok rfl h

/-- loop.example/g00349/impl.kindFault -/
def s_impl_kindFault (a0 a1 a2 a3 a4 a5 : AV) (σ : AH) (R : AEnd → AH → Prop) : Prop :=
  jn (X := Tup []) (fun x1 σ =>
      aret (.val (.int .i64 0)) σ R) fun k1 =>
    og (ibin .eql a0 a1) fun v16 =>
    apick v16 (
      acall TP fn_impl_NumFault [a4] σ (onr (fun v18 σ =>
      aret v18 σ R) (fun v σ => apan v σ R))) (
      og (ibin .eql a0 a3) fun v21 =>
      apick v21 (
        acall TP fn_impl_in [a4, (.val (.int .i64 0)), (.val (.int .i64 1))] σ (onr (fun v23 σ =>
        og (aun .not v23) fun v24 =>
        apick v24 (
          aret (.val (.int .i64 3)) σ R) (
          k1 (()) σ)) (fun v σ => apan v σ R))) (
        og (ibin .eql a0 a2) fun v27 =>
        apick v27 (
          acall TP fn_impl_SymFault [a5] σ (onr (fun v29 σ =>
          aret v29 σ R) (fun v σ => apan v σ R))) (
          k1 (()) σ)))
def x84 : Sx := .jn 7 [] (.ret (.lit (.val (.int .i64 0)))) (.og (.ibin .eql (.var 5) (.var 4)) (.apick (.var 0) (.call 95 [(.var 2)] (.ret (.var 0))) (.og (.ibin .eql (.var 6) (.var 3)) (.apick (.var 0) (.call 31 [(.var 3), (.lit (.val (.int .i64 0))), (.lit (.val (.int .i64 1)))] (.og (.aun .not (.var 0)) (.apick (.var 0) (.ret (.lit (.val (.int .i64 3)))) (.jump 0 [])))) (.og (.ibin .eql (.var 7) (.var 5)) (.apick (.var 0) (.call 76 [(.var 3)] (.ret (.var 0))) (.jump 0 [])))))))
set_option maxRecDepth 1000000 in
theorem x84_ok : okF TT Tryz.f84 6 x84 = true := by decide +kernel
set_option maxRecDepth 1000000 in
theorem s_impl_kindFault_ok {a0 a1 a2 a3 a4 a5 : AV} {σ : AH} {R : AEnd → AH → Prop} (h : s_impl_kindFault a0 a1 a2 a3 a4 a5 σ R) : acall TP fn_impl_kindFault [a0, a1, a2, a3, a4, a5] σ R :=
  acall_okF (ρ := [a5, a4, a3, a2, a1, a0]) TT_ok Tryz.func84 rfl x84 x84_ok rfl h

/-- loop.example/g00349/impl.datumFault$1 -/
def s_impl_datumFault_1 (a0 a1 : AV) (σ : AH) (R : AEnd → AH → Prop) : Prop :=
  og (lod a1 σ) fun v4 =>
  og (idx 4 v4 a0 σ) fun v6 =>
  og (fldA 1 v6) fun v7 =>
  og (lod v7 σ) fun v8 =>
  aret v8 σ R
def x85 : Sx := .og (.lod (.var 0)) (.og (.idx 4 (.var 0) (.var 2)) (.og (.fldA 1 (.var 0)) (.og (.lod (.var 0)) (.ret (.var 0)))))
set_option maxRecDepth 1000000 in
theorem x85_ok : okF TT Tryz.f85 2 x85 = true := by decide +kernel
set_option maxRecDepth 1000000 in
theorem s_impl_datumFault_1_ok {a0 a1 : AV} {σ : AH} {R : AEnd → AH → Prop} (h : s_impl_datumFault_1 a0 a1 σ R) : acall TP fn_impl_datumFault_1 [a0, a1] σ R :=
  acall_okF (ρ := [a1, a0]) TT_ok Tryz.func85 rfl x85 x85_ok rfl h

/-- loop.example/g00349/impl.deep -/
def s_impl_deep (a0 a1 : AV) (σ : AH) (R : AEnd → AH → Prop) : Prop :=
  lp (X := Tup [0, 1, 5]) (fun R1 y1 σ =>
    og (ibin .geq y1.2.1 (.val (.int .i64 0))) fun v7 =>
    apick v7 (
      og (ibin .add y1.2.2.1 (.val (.int .i64 1))) fun v14 =>
      og (idx 4 y1.1 y1.2.1 σ) fun v10 =>
      og (fldA 1 v10) fun v11 =>
      og (lod v11 σ) fun v12 =>
      R1 (y1.1, v12, v14, ()) σ) (
      aret y1.2.2.1 σ R)) (a0, a1, (.val (.int .i64 0)), ()) σ
def x86 : Sx := .lp [0, 1, 5] (.og (.ibin .geq (.var 1) (.lit (.val (.int .i64 0)))) (.apick (.var 0) (.og (.ibin .add (.var 3) (.lit (.val (.int .i64 1)))) (.og (.idx 4 (.var 2) (.var 3)) (.og (.fldA 1 (.var 0)) (.og (.lod (.var 0)) (.jump 0 [(.var 5), (.var 0), (.var 3)]))))) (.ret (.var 3)))) [(.var 1), (.var 0), (.lit (.val (.int .i64 0)))]
set_option maxRecDepth 1000000 in
theorem x86_ok : okF TT Tryz.f86 2 x86 = true := by decide +kernel
set_option maxRecDepth 1000000 in
theorem s_impl_deep_ok {a0 a1 : AV} {σ : AH} {R : AEnd → AH → Prop} (h : s_impl_deep a0 a1 σ R) : acall TP fn_impl_deep [a0, a1] σ R :=
  acall_okF (ρ := [a1, a0]) TT_ok Tryz.func86 rfl x86 x86_ok rfl h

/-- strings.trimLeftByte -/
def s_strings_trimLeftByte (a0 a1 : AV) (σ : AH) (R : AEnd → AH → Prop) : Prop :=
  lp (X := Tup [0, 1]) (fun R1 y1 σ =>
    og (lenStr y1.1) fun v6 =>
    og (ibin .gtr v6 (.val (.int .i64 0))) fun v7 =>
    og (gval v7 true false (some y1.1)) fun v9 =>
    og (gval v7 true false (idxStr v9 (.val (.int .i64 0)))) fun v10 =>
    og (gval v7 true false (some y1.2.1)) fun v11 =>
    og (gval v7 true false (ibin .eql v10 v11)) fun v12 =>
    og (pickV v7 v12 (.val (.bool false))) fun v13 =>
    apick v13 (
      og (slcStr y1.1 (some (.val (.int .i64 1))) none) fun v15 =>
      R1 (v15, y1.2.1, ()) σ) (
      aret y1.1 σ R)) (a0, a1, ()) σ
def x87 : Sx := .lp [0, 1] (.og (.lenStr (.var 0)) (.og (.ibin .gtr (.var 0) (.lit (.val (.int .i64 0)))) (.gog (.var 0) true false (.ret (.var 2)) (.gog (.var 1) true false (.idxStr (.var 0) (.lit (.val (.int .i64 0)))) (.gog (.var 2) true false (.ret (.var 5)) (.gog (.var 3) true false (.ibin .eql (.var 1) (.var 0)) (.og (.pickV (.var 4) (.var 0) (.lit (.val (.bool false)))) (.apick (.var 0) (.og (.slcStr (.var 7) (some (.lit (.val (.int .i64 1)))) none) (.jump 0 [(.var 0), (.var 9)])) (.ret (.var 7)))))))))) [(.var 1), (.var 0)]
set_option maxRecDepth 1000000 in
theorem x87_ok : okF TT Tryz.f87 2 x87 = true := by decide +kernel
set_option maxRecDepth 1000000 in
theorem s_strings_trimLeftByte_ok {a0 a1 : AV} {σ : AH} {R : AEnd → AH → Prop} (h : s_strings_trimLeftByte a0 a1 σ R) : acall TP fn_strings_trimLeftByte [a0, a1] σ R :=
  acall_okF (ρ := [a1, a0]) TT_ok Tryz.func87 rfl x87 x87_ok rfl h

/-- strings.trimRightByte -/
def s_strings_trimRightByte (a0 a1 : AV) (σ : AH) (R : AEnd → AH → Prop) : Prop :=
  lp (X := Tup [0, 1]) (fun R1 y1 σ =>
    og (lenStr y1.1) fun v6 =>
    og (ibin .gtr v6 (.val (.int .i64 0))) fun v7 =>
    og (gval v7 true false (some y1.1)) fun v9 =>
    og (gval v7 true false (some y1.1)) fun v10 =>
    og (gval v7 true false (lenStr v10)) fun v11 =>
    og (gval v7 true false (ibin .sub v11 (.val (.int .i64 1)))) fun v12 =>
    og (gval v7 true false (idxStr v9 v12)) fun v13 =>
    og (gval v7 true false (some y1.2.1)) fun v14 =>
    og (gval v7 true false (ibin .eql v13 v14)) fun v15 =>
    og (pickV v7 v15 (.val (.bool false))) fun v16 =>
    apick v16 (
      og (lenStr y1.1) fun v19 =>
      og (ibin .sub v19 (.val (.int .i64 1))) fun v20 =>
      og (slcStr y1.1 none (some v20)) fun v21 =>
      R1 (v21, y1.2.1, ()) σ) (
      aret y1.1 σ R)) (a0, a1, ()) σ
def x88 : Sx := .lp [0, 1] (.og (.lenStr (.var 0)) (.og (.ibin .gtr (.var 0) (.lit (.val (.int .i64 0)))) (.gog (.var 0) true false (.ret (.var 2)) (.gog (.var 1) true false (.ret (.var 3)) (.gog (.var 2) true false (.lenStr (.var 0)) (.gog (.var 3) true false (.ibin .sub (.var 0) (.lit (.val (.int .i64 1)))) (.gog (.var 4) true false (.idxStr (.var 3) (.var 0)) (.gog (.var 5) true false (.ret (.var 8)) (.gog (.var 6) true false (.ibin .eql (.var 1) (.var 0)) (.og (.pickV (.var 7) (.var 0) (.lit (.val (.bool false)))) (.apick (.var 0) (.og (.lenStr (.var 10)) (.og (.ibin .sub (.var 0) (.lit (.val (.int .i64 1)))) (.og (.slcStr (.var 12) none (some (.var 0))) (.jump 0 [(.var 0), (.var 14)])))) (.ret (.var 10))))))))))))) [(.var 1), (.var 0)]
set_option maxRecDepth 1000000 in
theorem x88_ok : okF TT Tryz.f88 2 x88 = true := by decide +kernel
set_option maxRecDepth 1000000 in
theorem s_strings_trimRightByte_ok {a0 a1 : AV} {σ : AH} {R : AEnd → AH → Prop} (h : s_strings_trimRightByte a0 a1 σ R) : acall TP fn_strings_trimRightByte [a0, a1] σ R :=
  acall_okF (ρ := [a1, a0]) TT_ok Tryz.func88 rfl x88 x88_ok rfl h

/-- strings.makeASCIISet -/
def s_strings_makeASCIISet (a0 : AV) (σ : AH) (R : AEnd → AH → Prop) : Prop :=
  new (List.replicate 256 (.val (.bool false))) σ fun v2 σ =>
  lp (X := Tup [0, 2, 4]) (fun R1 y1 σ =>
    og (lenStr y1.1) fun v8 =>
    og (ibin .lss y1.2.2.1 v8) fun v9 =>
    apick v9 (
      og (idxStr y1.1 y1.2.2.1) fun v14 =>
      og (ibin .geq v14 (.val (.int .u8 128))) fun v16 =>
      apick v16 (
        og (lodA 256 y1.2.1 σ) fun v17 =>
        sto 256 y1.2.1 v17 σ fun σ =>
        og (lodA 256 y1.2.1 σ) fun r2 =>
        aret (.tup [r2, (.val (.bool false))]) σ R) (
        og (idxArr 256 1 y1.2.1 v14) fun v19 =>
        sto 1 v19 (.val (.bool true)) σ fun σ =>
        og (ibin .add y1.2.2.1 (.val (.int .i64 1))) fun v11 =>
        R1 (y1.1, y1.2.1, v11, ()) σ)) (
      og (lodA 256 y1.2.1 σ) fun v20 =>
      sto 256 y1.2.1 v20 σ fun σ =>
      og (lodA 256 y1.2.1 σ) fun r2 =>
      aret (.tup [r2, (.val (.bool true))]) σ R)) (a0, v2, (.val (.int .i64 0)), ()) σ
def x89 : Sx := .new (List.replicate 256 (.val (.bool false))) (.lp [0, 2, 4] (.og (.lenStr (.var 0)) (.og (.ibin .lss (.var 3) (.var 0)) (.apick (.var 0) (.og (.idxStr (.var 2) (.var 4)) (.og (.ibin .geq (.var 0) (.lit (.val (.int .u8 128)))) (.apick (.var 0) (.og (.lodA 256 (.var 5)) (.sto 256 (.var 6) (.var 0) (.og (.lodA 256 (.var 6)) (.rets [(.var 0), (.lit (.val (.bool false)))])))) (.og (.idxArr 256 1 (.var 5) (.var 1)) (.sto 1 (.var 0) (.lit (.val (.bool true))) (.og (.ibin .add (.var 7) (.lit (.val (.int .i64 1)))) (.jump 0 [(.var 6), (.var 7), (.var 0)]))))))) (.og (.lodA 256 (.var 3)) (.sto 256 (.var 4) (.var 0) (.og (.lodA 256 (.var 4)) (.rets [(.var 0), (.lit (.val (.bool true)))]))))))) [(.var 1), (.var 0), (.lit (.val (.int .i64 0)))])
set_option maxRecDepth 1000000 in
theorem x89_ok : okF TT Tryz.f89 1 x89 = true := by decide +kernel
set_option maxRecDepth 1000000 in
theorem s_strings_makeASCIISet_ok {a0 : AV} {σ : AH} {R : AEnd → AH → Prop} (h : s_strings_makeASCIISet a0 σ R) : acall TP fn_strings_makeASCIISet [a0] σ R :=
  acall_okF (ρ := [a0]) TT_ok Tryz.func89 rfl x89 x89_ok rfl h

/-- strings.trimLeftASCII -/
def s_strings_trimLeftASCII (a0 a1 : AV) (σ : AH) (R : AEnd → AH → Prop) : Prop :=
  jn (X := Tup [0]) (fun x1 σ =>
      aret x1.1 σ R) fun k1 =>
    lp (X := Tup [0, 1]) (fun R2 y2 σ =>
      og (lenStr y2.1) fun v6 =>
      og (ibin .gtr v6 (.val (.int .i64 0))) fun v7 =>
      apick v7 (
        og (idxStr y2.1 (.val (.int .i64 0))) fun v10 =>
        acall TP fn_strings_asciiSet_contains [y2.2.1, v10] σ (onr (fun v11 σ =>
        og (aun .not v11) fun v12 =>
        apick v12 (
          k1 (y2.1, ()) σ) (
          og (slcStr y2.1 (some (.val (.int .i64 1))) none) fun v14 =>
          R2 (v14, y2.2.1, ()) σ)) (fun v σ => apan v σ R))) (
        k1 (y2.1, ()) σ)) (a0, a1, ()) σ
def x90 : Sx := .jn 7 [0] (.ret (.var 0)) (.lp [0, 1] (.og (.lenStr (.var 0)) (.og (.ibin .gtr (.var 0) (.lit (.val (.int .i64 0)))) (.apick (.var 0) (.og (.idxStr (.var 2) (.lit (.val (.int .i64 0)))) (.call 96 [(.var 4), (.var 0)] (.og (.aun .not (.var 0)) (.apick (.var 0) (.jump 1 [(.var 5)]) (.og (.slcStr (.var 5) (some (.lit (.val (.int .i64 1)))) none) (.jump 0 [(.var 0), (.var 7)])))))) (.jump 1 [(.var 2)])))) [(.var 1), (.var 0)])
set_option maxRecDepth 1000000 in
theorem x90_ok : okF TT Tryz.f90 2 x90 = true := by decide +kernel
set_option maxRecDepth 1000000 in
theorem s_strings_trimLeftASCII_ok {a0 a1 : AV} {σ : AH} {R : AEnd → AH → Prop} (h : s_strings_trimLeftASCII a0 a1 σ R) : acall TP fn_strings_trimLeftASCII [a0, a1] σ R :=
  acall_okF (ρ := [a1, a0]) TT_ok Tryz.func90 rfl x90 x90_ok rfl h

/-- strings.trimRightASCII -/
def s_strings_trimRightASCII (a0 a1 : AV) (σ : AH) (R : AEnd → AH → Prop) : Prop :=
  jn (X := Tup [0]) (fun x1 σ =>
      aret x1.1 σ R) fun k1 =>
    lp (X := Tup [0, 1]) (fun R2 y2 σ =>
      og (lenStr y2.1) fun v6 =>
      og (ibin .gtr v6 (.val (.int .i64 0))) fun v7 =>
      apick v7 (
        og (lenStr y2.1) fun v11 =>
        og (ibin .sub v11 (.val (.int .i64 1))) fun v12 =>
        og (idxStr y2.1 v12) fun v13 =>
        acall TP fn_strings_asciiSet_contains [y2.2.1, v13] σ (onr (fun v14 σ =>
        og (aun .not v14) fun v15 =>
        apick v15 (
          k1 (y2.1, ()) σ) (
          og (lenStr y2.1) fun v18 =>
          og (ibin .sub v18 (.val (.int .i64 1))) fun v19 =>
          og (slcStr y2.1 none (some v19)) fun v20 =>
          R2 (v20, y2.2.1, ()) σ)) (fun v σ => apan v σ R))) (
        k1 (y2.1, ()) σ)) (a0, a1, ()) σ
def x91 : Sx := .jn 7 [0] (.ret (.var 0)) (.lp [0, 1] (.og (.lenStr (.var 0)) (.og (.ibin .gtr (.var 0) (.lit (.val (.int .i64 0)))) (.apick (.var 0) (.og (.lenStr (.var 2)) (.og (.ibin .sub (.var 0) (.lit (.val (.int .i64 1)))) (.og (.idxStr (.var 4) (.var 0)) (.call 96 [(.var 6), (.var 0)] (.og (.aun .not (.var 0)) (.apick (.var 0) (.jump 1 [(.var 7)]) (.og (.lenStr (.var 7)) (.og (.ibin .sub (.var 0) (.lit (.val (.int .i64 1)))) (.og (.slcStr (.var 9) none (some (.var 0))) (.jump 0 [(.var 0), (.var 11)])))))))))) (.jump 1 [(.var 2)])))) [(.var 1), (.var 0)])
set_option maxRecDepth 1000000 in
theorem x91_ok : okF TT Tryz.f91 2 x91 = true := by decide +kernel
set_option maxRecDepth 1000000 in
theorem s_strings_trimRightASCII_ok {a0 a1 : AV} {σ : AH} {R : AEnd → AH → Prop} (h : s_strings_trimRightASCII a0 a1 σ R) : acall TP fn_strings_trimRightASCII [a0, a1] σ R :=
  acall_okF (ρ := [a1, a0]) TT_ok Tryz.func91 rfl x91 x91_ok rfl h

/-- slices.Index[[]string,string] -/
def s_slices_Index (a0 a1 : AV) (σ : AH) (R : AEnd → AH → Prop) : Prop :=
  og (lenS a0) fun v7 =>
  lp (X := Tup [0, 1, 7, 8]) (fun R1 y1 σ =>
    og (ibin .lss y1.2.2.2.1 y1.2.2.1) fun v9 =>
    apick v9 (
      og (idx 1 y1.1 y1.2.2.2.1 σ) fun v14 =>
      og (lod v14 σ) fun v15 =>
      og (sbin .eql y1.2.1 v15) fun v16 =>
      apick v16 (
        aret y1.2.2.2.1 σ R) (
        og (ibin .add y1.2.2.2.1 (.val (.int .i64 1))) fun v18 =>
        R1 (y1.1, y1.2.1, y1.2.2.1, v18, ()) σ)) (
      aret (.val (.int .i64 (-1))) σ R)) (a0, a1, v7, (.val (.int .i64 0)), ()) σ
def x94 : Sx := .og (.lenS (.var 1)) (.lp [0, 1, 7, 8] (.og (.ibin .lss (.var 3) (.var 2)) (.apick (.var 0) (.og (.idx 1 (.var 1) (.var 4)) (.og (.lod (.var 0)) (.og (.sbin .eql (.var 4) (.var 0)) (.apick (.var 0) (.ret (.var 7)) (.og (.ibin .add (.var 7) (.lit (.val (.int .i64 1)))) (.jump 0 [(.var 5), (.var 6), (.var 7), (.var 0)])))))) (.ret (.lit (.val (.int .i64 (-1))))))) [(.var 2), (.var 1), (.var 0), (.lit (.val (.int .i64 0)))])
set_option maxRecDepth 1000000 in
theorem x94_ok : okF TT Tryz.f94 2 x94 = true := by decide +kernel
set_option maxRecDepth 1000000 in
theorem s_slices_Index_ok {a0 a1 : AV} {σ : AH} {R : AEnd → AH → Prop} (h : s_slices_Index a0 a1 σ R) : acall TP fn_slices_Index [a0, a1] σ R :=
  acall_okF (ρ := [a1, a0]) TT_ok Tryz.func94 rfl x94 x94_ok rfl h

/-- loop.example/g00349/impl.NumFault -/
def s_impl_NumFault (a0 : AV) (σ : AH) (R : AEnd → AH → Prop) : Prop :=
  acall TP fn_impl_in [a0, (.val (.int .i64 (-1000000000))), (.val (.int .i64 1000000000))] σ (onr (fun v4 σ =>
  og (aun .not v4) fun v5 =>
  apick v5 (
    aret (.val (.int .i64 3)) σ R) (
    aret (.val (.int .i64 0)) σ R)) (fun v σ => apan v σ R))
def x95 : Sx := .call 31 [(.var 0), (.lit (.val (.int .i64 (-1000000000)))), (.lit (.val (.int .i64 1000000000)))] (.og (.aun .not (.var 0)) (.apick (.var 0) (.ret (.lit (.val (.int .i64 3)))) (.ret (.lit (.val (.int .i64 0))))))
set_option maxRecDepth 1000000 in
theorem x95_ok : okF TT Tryz.f95 1 x95 = true := by decide +kernel
set_option maxRecDepth 1000000 in
theorem s_impl_NumFault_ok {a0 : AV} {σ : AH} {R : AEnd → AH → Prop} (h : s_impl_NumFault a0 σ R) : acall TP fn_impl_NumFault [a0] σ R :=
  acall_okF (ρ := [a0]) TT_ok Tryz.func95 rfl x95 x95_ok rfl h

/-- (*strings.asciiSet).contains -/
def s_strings_asciiSet_contains (a0 a1 : AV) (σ : AH) (R : AEnd → AH → Prop) : Prop :=
  og (anil a0) fun v7 =>
  og (idxArr 256 1 v7 a1) fun v8 =>
  og (lod v8 σ) fun v9 =>
  aret v9 σ R
def x96 : Sx := .og (.anil (.var 1)) (.og (.idxArr 256 1 (.var 0) (.var 1)) (.og (.lod (.var 0)) (.ret (.var 0))))
set_option maxRecDepth 1000000 in
theorem x96_ok : okF TT Tryz.f96 2 x96 = true := by decide +kernel
set_option maxRecDepth 1000000 in
theorem s_strings_asciiSet_contains_ok {a0 a1 : AV} {σ : AH} {R : AEnd → AH → Prop} (h : s_strings_asciiSet_contains a0 a1 σ R) : acall TP fn_strings_asciiSet_contains [a0, a1] σ R :=
  acall_okF (ρ := [a1, a0]) TT_ok Tryz.func96 rfl x96 x96_ok rfl h

end Go.Proofs.YtmmhaiidcfgbbaaGreatDoor.E
