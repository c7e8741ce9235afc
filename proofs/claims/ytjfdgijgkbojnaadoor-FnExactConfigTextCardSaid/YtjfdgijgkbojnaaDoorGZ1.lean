/- What functions come to. Printed by mkg.py. -/
import Derived.Test.YtjfdgijgkbojnaaDoorGZ0
namespace Go.Proofs.YtjfdgijgkbojnaaDoor.E
open Go Go.RowKit
set_option linter.unusedVariables false
set_option linter.unusedSectionVars false
variable [Lam]
/-- loop.example/g00349/laws.FnExactConfigText -/
def s_laws_FnExactConfigText (a0 : AV) (σ : AH) (R : AEnd → AH → Prop) : Prop :=
  abox a0 σ fun v1 σ =>
  frz v1 σ fun f1 σ =>
  og (lodA 4 f1 σ) fun v5 =>
  acall TP fn_laws_toConfig [v5] σ (onr (fun v6 σ =>
  acall TP fn_spec_ConfigText [v6] σ (onr (fun v7 σ =>
  new [(.val (.int .i64 0)), (.val (.string ⟨#[]⟩))] σ fun v3 σ =>
  sto 2 v3 v7 σ fun σ =>
  frz v3 σ fun f3 σ =>
  og (lodA 4 f1 σ) fun v8 =>
  acall TP fn_laws_toConfig [v8] σ (onr (fun v9 σ =>
  acall TP fn_impl_ConfigText [v9] σ (onr (fun v10 σ =>
  new [(.val (.int .i64 0)), (.val (.string ⟨#[]⟩))] σ fun v4 σ =>
  sto 2 v4 v10 σ fun σ =>
  frz v4 σ fun f4 σ =>
  og (lodA 2 f4 σ) fun v11 =>
  og (lodA 2 f3 σ) fun v12 =>
  acall TP fn_laws_eqTextResult [v11, v12] σ (onr (fun v13 σ =>
  og (aun .not v13) fun v14 =>
  apick v14 (
    aret (.val (.bool false)) σ R) (
    aret (.val (.bool true)) σ R)) (fun v σ => apan v σ R))) (fun v σ => apan v σ R))) (fun v σ => apan v σ R))) (fun v σ => apan v σ R))) (fun v σ => apan v σ R))
def x3 : Sx := .box (.var 0) (.frz 1 (.var 0) (.og (.lodA 4 (.var 0)) (.call 5 [(.var 0)] (.call 4 [(.var 0)] (.new [(.val (.int .i64 0)), (.val (.string ⟨#[]⟩))] (.sto 2 (.var 0) (.var 1) (.frz 6 (.var 0) (.og (.lodA 4 (.var 5)) (.call 5 [(.var 0)] (.call 6 [(.var 0)] (.new [(.val (.int .i64 0)), (.val (.string ⟨#[]⟩))] (.sto 2 (.var 0) (.var 1) (.frz 11 (.var 0) (.og (.lodA 2 (.var 0)) (.og (.lodA 2 (.var 6)) (.call 7 [(.var 1), (.var 0)] (.og (.aun .not (.var 0)) (.apick (.var 0) (.ret (.lit (.val (.bool false)))) (.ret (.lit (.val (.bool true))))))))))))))))))))))
set_option maxRecDepth 1000000 in
theorem x3_ok : okF TT Tryd.f3 1 x3 = true := by decide +kernel
set_option maxRecDepth 1000000 in
theorem s_laws_FnExactConfigText_ok {a0 : AV} {σ : AH} {R : AEnd → AH → Prop} (h : s_laws_FnExactConfigText a0 σ R) : acall TP fn_laws_FnExactConfigText [a0] σ R :=
  acall_okF (ρ := [a0]) TT_ok Tryd.func3 rfl x3 x3_ok rfl h

/-- loop.example/g00349/spec.ConfigText -/
def s_spec_ConfigText (a0 : AV) (σ : AH) (R : AEnd → AH → Prop) : Prop :=
  abox a0 σ fun v1 σ =>
  new [(.val (.int .i64 0)), (.val (.string ⟨#[]⟩))] σ fun v2 σ =>
  frz v1 σ fun f1 σ =>
  acall TP fn_spec_l13Fault [f1] σ (onr (fun v4 σ =>
  og (ibin .neq v4 (.val (.int .i64 0))) fun v6 =>
  apick v6 (
    og (bld [(.val (.int .i64 0)), (.val (.string ⟨#[]⟩))] [(0, 1), (1, 1)] [(0, v4)]) fun v8 =>
    sto 2 v2 v8 σ fun σ =>
    og (lodA 2 v2 σ) fun r2 =>
    aret r2 σ R) (
    acall TP fn_spec_l13Text [f1] σ (onr (fun v9 σ =>
    og (bld [(.val (.int .i64 0)), (.val (.string ⟨#[]⟩))] [(0, 1), (1, 1)] [(1, v9)]) fun v10 =>
    sto 2 v2 v10 σ fun σ =>
    og (lodA 2 v2 σ) fun r2 =>
    aret r2 σ R) (fun v σ => apan v σ R)))) (fun v σ => apan v σ R))
def x4 : Sx := .box (.var 0) (.new [(.val (.int .i64 0)), (.val (.string ⟨#[]⟩))] (.frz 1 (.var 1) (.call 8 [(.var 0)] (.og (.ibin .neq (.var 0) (.lit (.val (.int .i64 0)))) (.apick (.var 0) (.og (.bld [(.val (.int .i64 0)), (.val (.string ⟨#[]⟩))] [(0, 1), (1, 1)] [(0, (.var 1))]) (.sto 2 (.var 4) (.var 0) (.og (.lodA 2 (.var 4)) (.ret (.var 0))))) (.call 9 [(.var 2)] (.og (.bld [(.val (.int .i64 0)), (.val (.string ⟨#[]⟩))] [(0, 1), (1, 1)] [(1, (.var 0))]) (.sto 2 (.var 5) (.var 0) (.og (.lodA 2 (.var 5)) (.ret (.var 0)))))))))))
set_option maxRecDepth 1000000 in
theorem x4_ok : okF TT Tryd.f4 1 x4 = true := by decide +kernel
set_option maxRecDepth 1000000 in
theorem s_spec_ConfigText_ok {a0 : AV} {σ : AH} {R : AEnd → AH → Prop} (h : s_spec_ConfigText a0 σ R) : acall TP fn_spec_ConfigText [a0] σ R :=
  acall_okF (ρ := [a0]) TT_ok Tryd.func4 rfl x4 x4_ok rfl h

/-- loop.example/g00349/laws.toConfig -/
def s_laws_toConfig (a0 : AV) (σ : AH) (R : AEnd → AH → Prop) : Prop :=
  abox a0 σ fun v1 σ =>
  new [(.val (.int .i64 0)), (.val (.int .i64 0)), (.val (.bool false)), (.val (.bool false))] σ fun v2 σ =>
  frz v1 σ fun f1 σ =>
  new [(.val (.int .i64 0)), (.val (.int .i64 0)), (.val (.bool false)), (.val (.bool false))] σ fun v3 σ =>
  og (fldA 0 f1) fun v4 =>
  og (lod v4 σ) fun v5 =>
  og (fldA 0 v3) fun v6 =>
  sto 1 v6 v5 σ fun σ =>
  og (fldA 1 f1) fun v7 =>
  og (lod v7 σ) fun v8 =>
  og (fldA 1 v3) fun v9 =>
  sto 1 v9 v8 σ fun σ =>
  og (fldA 2 f1) fun v10 =>
  og (lod v10 σ) fun v11 =>
  og (fldA 2 v3) fun v12 =>
  sto 1 v12 v11 σ fun σ =>
  og (fldA 3 f1) fun v13 =>
  og (lod v13 σ) fun v14 =>
  og (fldA 3 v3) fun v15 =>
  sto 1 v15 v14 σ fun σ =>
  frz v3 σ fun f3 σ =>
  og (lodA 4 f3 σ) fun v16 =>
  sto 4 v2 v16 σ fun σ =>
  og (lodA 4 v2 σ) fun r2 =>
  aret r2 σ R
def x5 : Sx := .box (.var 0) (.new [(.val (.int .i64 0)), (.val (.int .i64 0)), (.val (.bool false)), (.val (.bool false))] (.frz 1 (.var 1) (.new [(.val (.int .i64 0)), (.val (.int .i64 0)), (.val (.bool false)), (.val (.bool false))] (.og (.fldA 0 (.var 1)) (.og (.lod (.var 0)) (.og (.fldA 0 (.var 2)) (.sto 1 (.var 0) (.var 1) (.og (.fldA 1 (.var 4)) (.og (.lod (.var 0)) (.og (.fldA 1 (.var 5)) (.sto 1 (.var 0) (.var 1) (.og (.fldA 2 (.var 7)) (.og (.lod (.var 0)) (.og (.fldA 2 (.var 8)) (.sto 1 (.var 0) (.var 1) (.og (.fldA 3 (.var 10)) (.og (.lod (.var 0)) (.og (.fldA 3 (.var 11)) (.sto 1 (.var 0) (.var 1) (.frz 4 (.var 12) (.og (.lodA 4 (.var 0)) (.sto 4 (.var 16) (.var 0) (.og (.lodA 4 (.var 16)) (.ret (.var 0)))))))))))))))))))))))))
set_option maxRecDepth 1000000 in
theorem x5_ok : okF TT Tryd.f5 1 x5 = true := by decide +kernel
set_option maxRecDepth 1000000 in
theorem s_laws_toConfig_ok {a0 : AV} {σ : AH} {R : AEnd → AH → Prop} (h : s_laws_toConfig a0 σ R) : acall TP fn_laws_toConfig [a0] σ R :=
  acall_okF (ρ := [a0]) TT_ok Tryd.func5 rfl x5 x5_ok rfl h

/-- loop.example/g00349/impl.ConfigText -/
def s_impl_ConfigText (a0 : AV) (σ : AH) (R : AEnd → AH → Prop) : Prop :=
  abox a0 σ fun v1 σ =>
  new [(.val (.int .i64 0)), (.val (.string ⟨#[]⟩))] σ fun v2 σ =>
  frz v1 σ fun f1 σ =>
  og (lodA 4 f1 σ) fun v4 =>
  acall TP fn_impl_ConfigFault [v4] σ (onr (fun v5 σ =>
  og (ibin .neq v5 (.val (.int .i64 0))) fun v7 =>
  apick v7 (
    og (bld [(.val (.int .i64 0)), (.val (.string ⟨#[]⟩))] [(0, 1), (1, 1)] [(0, v5)]) fun v9 =>
    sto 2 v2 v9 σ fun σ =>
    og (lodA 2 v2 σ) fun r2 =>
    aret r2 σ R) (
    og (lodA 4 f1 σ) fun v10 =>
    acall TP fn_impl_Config_text [v10] σ (onr (fun v11 σ =>
    og (bld [(.val (.int .i64 0)), (.val (.string ⟨#[]⟩))] [(0, 1), (1, 1)] [(1, v11)]) fun v12 =>
    sto 2 v2 v12 σ fun σ =>
    og (lodA 2 v2 σ) fun r2 =>
    aret r2 σ R) (fun v σ => apan v σ R)))) (fun v σ => apan v σ R))
def x6 : Sx := .box (.var 0) (.new [(.val (.int .i64 0)), (.val (.string ⟨#[]⟩))] (.frz 1 (.var 1) (.og (.lodA 4 (.var 0)) (.call 10 [(.var 0)] (.og (.ibin .neq (.var 0) (.lit (.val (.int .i64 0)))) (.apick (.var 0) (.og (.bld [(.val (.int .i64 0)), (.val (.string ⟨#[]⟩))] [(0, 1), (1, 1)] [(0, (.var 1))]) (.sto 2 (.var 5) (.var 0) (.og (.lodA 2 (.var 5)) (.ret (.var 0))))) (.og (.lodA 4 (.var 3)) (.call 11 [(.var 0)] (.og (.bld [(.val (.int .i64 0)), (.val (.string ⟨#[]⟩))] [(0, 1), (1, 1)] [(1, (.var 0))]) (.sto 2 (.var 7) (.var 0) (.og (.lodA 2 (.var 7)) (.ret (.var 0)))))))))))))
set_option maxRecDepth 1000000 in
theorem x6_ok : okF TT Tryd.f6 1 x6 = true := by decide +kernel
set_option maxRecDepth 1000000 in
theorem s_impl_ConfigText_ok {a0 : AV} {σ : AH} {R : AEnd → AH → Prop} (h : s_impl_ConfigText a0 σ R) : acall TP fn_impl_ConfigText [a0] σ R :=
  acall_okF (ρ := [a0]) TT_ok Tryd.func6 rfl x6 x6_ok rfl h

/-- loop.example/g00349/laws.eqTextResult -/
def s_laws_eqTextResult (a0 a1 : AV) (σ : AH) (R : AEnd → AH → Prop) : Prop :=
  abox a0 σ fun v2 σ =>
  abox a1 σ fun v3 σ =>
  frz v2 σ fun f2 σ =>
  frz v3 σ fun f3 σ =>
  og (fldA 0 f2) fun v5 =>
  og (lod v5 σ) fun v6 =>
  og (fldA 0 f3) fun v7 =>
  og (lod v7 σ) fun v8 =>
  og (ibin .neq v6 v8) fun v9 =>
  apick v9 (
    aret (.val (.bool false)) σ R) (
    og (fldA 1 f2) fun v10 =>
    og (lod v10 σ) fun v11 =>
    og (fldA 1 f3) fun v12 =>
    og (lod v12 σ) fun v13 =>
    og (sbin .neq v11 v13) fun v14 =>
    apick v14 (
      aret (.val (.bool false)) σ R) (
      aret (.val (.bool true)) σ R))
def x7 : Sx := .box (.var 1) (.box (.var 1) (.frz 2 (.var 1) (.frz 3 (.var 1) (.og (.fldA 0 (.var 1)) (.og (.lod (.var 0)) (.og (.fldA 0 (.var 2)) (.og (.lod (.var 0)) (.og (.ibin .neq (.var 2) (.var 0)) (.apick (.var 0) (.ret (.lit (.val (.bool false)))) (.og (.fldA 1 (.var 6)) (.og (.lod (.var 0)) (.og (.fldA 1 (.var 7)) (.og (.lod (.var 0)) (.og (.sbin .neq (.var 2) (.var 0)) (.apick (.var 0) (.ret (.lit (.val (.bool false)))) (.ret (.lit (.val (.bool true)))))))))))))))))))
set_option maxRecDepth 1000000 in
theorem x7_ok : okF TT Tryd.f7 2 x7 = true := by decide +kernel
set_option maxRecDepth 1000000 in
theorem s_laws_eqTextResult_ok {a0 a1 : AV} {σ : AH} {R : AEnd → AH → Prop} (h : s_laws_eqTextResult a0 a1 σ R) : acall TP fn_laws_eqTextResult [a0, a1] σ R :=
  acall_okF (ρ := [a1, a0]) TT_ok Tryd.func7 rfl x7 x7_ok rfl h

/-- loop.example/g00349/spec.l13Fault -/
def s_spec_l13Fault (a0 : AV) (σ : AH) (R : AEnd → AH → Prop) : Prop :=
  jn (X := Tup [16]) (fun x1 σ =>
      apick x1.1 (
        aret (.val (.int .i64 3)) σ R) (
        aret (.val (.int .i64 0)) σ R)) fun k1 =>
    og (anil a0) fun v4 =>
    og (fldA 0 v4) fun v5 =>
    og (lod v5 σ) fun v6 =>
    acall TP fn_spec_l12Size [v6] σ (onr (fun v7 σ =>
    og (aun .not v7) fun v8 =>
    og (gval v8 false false (some a0)) fun v10 =>
    og (gval v8 false false (anil v10)) fun v11 =>
    og (gval v8 false false (fldA 1 v11)) fun v12 =>
    og (gval v8 false false (lod v12 σ)) fun v13 =>
    gpick v8 (
      k1 ((.val (.bool true)), ()) σ) (
      acall TP fn_spec_l11Table [v13] σ (onr (fun v14 σ =>
      og (aun .not v14) fun v15 =>
      k1 (v15, ()) σ) (fun v σ => apan v σ R))) (False)) (fun v σ => apan v σ R))
def x8 : Sx := .jn 13 [16] (.apick (.var 0) (.ret (.lit (.val (.int .i64 3)))) (.ret (.lit (.val (.int .i64 0))))) (.og (.anil (.var 0)) (.og (.fldA 0 (.var 0)) (.og (.lod (.var 0)) (.call 12 [(.var 0)] (.og (.aun .not (.var 0)) (.gog (.var 0) false false (.ret (.var 5)) (.gog (.var 1) false false (.anil (.var 0)) (.gog (.var 2) false false (.fldA 1 (.var 0)) (.gog (.var 3) false false (.lod (.var 0)) (.gpick (.var 4) (.jump 0 [(.lit (.val (.bool true)))]) (.call 13 [(.var 0)] (.og (.aun .not (.var 0)) (.jump 0 [(.var 0)]))) (.no)))))))))))
set_option maxRecDepth 1000000 in
theorem x8_ok : okF TT Tryd.f8 1 x8 = true := by decide +kernel
set_option maxRecDepth 1000000 in
theorem s_spec_l13Fault_ok {a0 : AV} {σ : AH} {R : AEnd → AH → Prop} (h : s_spec_l13Fault a0 σ R) : acall TP fn_spec_l13Fault [a0] σ R :=
  acall_okF (ρ := [a0]) TT_ok Tryd.func8 rfl x8 x8_ok rfl h

/-- loop.example/g00349/spec.l13Text -/
def s_spec_l13Text (a0 : AV) (σ : AH) (R : AEnd → AH → Prop) : Prop :=
  og (anil a0) fun v5 =>
  og (fldA 0 v5) fun v6 =>
  og (lod v6 σ) fun v7 =>
  og (anil a0) fun v12 =>
  og (fldA 1 v12) fun v13 =>
  og (lod v13 σ) fun v14 =>
  acall TP fn_spec_l1Digits [v7] σ (onr (fun v8 σ =>
  (lod v13 σ = some v14 ∧ True) ∧
  og (sbin .add (.val (.string ⟨#[115, 101, 103, 32]⟩)) v8) fun v9 =>
  og (sbin .add v9 (.val (.string ⟨#[32, 116, 97, 98, 108, 101, 32]⟩))) fun v10 =>
  acall TP fn_spec_l1Digits [v14] σ (onr (fun v15 σ =>
  (True) ∧
  og (sbin .add v10 v15) fun v16 =>
  jn (X := Tup [0, 3]) (fun x1 σ =>
      og (anil x1.1) fun v26 =>
      og (fldA 3 v26) fun v27 =>
      og (lod v27 σ) fun v28 =>
      apick v28 (
        og (sbin .add x1.2.1 (.val (.string ⟨#[32, 99, 97, 99, 104, 101]⟩))) fun v30 =>
        aret v30 σ R) (
        og (sbin .add x1.2.1 (.val (.string ⟨#[32, 108, 111, 111, 107]⟩))) fun v32 =>
        aret v32 σ R)) fun k1 =>
    og (anil a0) fun v18 =>
    og (fldA 2 v18) fun v19 =>
    og (lod v19 σ) fun v20 =>
    apick v20 (
      og (sbin .add v16 (.val (.string ⟨#[32, 112, 101, 101, 112]⟩))) fun v22 =>
      k1 (a0, v22, ()) σ) (
      og (sbin .add v16 (.val (.string ⟨#[32, 112, 108, 97, 105, 110]⟩))) fun v24 =>
      k1 (a0, v24, ()) σ)) (fun v σ => apan v σ R))) (fun v σ => apan v σ R))
def x9 : Sx := .ord [0, 1, 2, 3, 7, 8, 9, 10, 4, 5, 6, 11, 12, 13] [0, 1, 3, 7, 15, 31, 63, 0, 128, 384, 896, 1951, 4095, 8191] (.og (.anil (.var 0)) (.og (.fldA 0 (.var 0)) (.og (.lod (.var 0)) (.og (.anil (.var 3)) (.og (.fldA 1 (.var 0)) (.og (.lod (.var 0)) (.call 14 [(.var 3)] (.wat [⟨none, (.lod (.var 2)), (.var 1)⟩] (.og (.sbin .add (.lit (.val (.string ⟨#[115, 101, 103, 32]⟩))) (.var 0)) (.og (.sbin .add (.var 0) (.lit (.val (.string ⟨#[32, 116, 97, 98, 108, 101, 32]⟩)))) (.call 14 [(.var 3)] (.wat [] (.og (.sbin .add (.var 1) (.var 0)) (.jn 15 [0, 3] (.og (.anil (.var 0)) (.og (.fldA 3 (.var 0)) (.og (.lod (.var 0)) (.apick (.var 0) (.og (.sbin .add (.var 4) (.lit (.val (.string ⟨#[32, 99, 97, 99, 104, 101]⟩)))) (.ret (.var 0))) (.og (.sbin .add (.var 4) (.lit (.val (.string ⟨#[32, 108, 111, 111, 107]⟩)))) (.ret (.var 0))))))) (.og (.anil (.var 11)) (.og (.fldA 2 (.var 0)) (.og (.lod (.var 0)) (.apick (.var 0) (.og (.sbin .add (.var 3) (.lit (.val (.string ⟨#[32, 112, 101, 101, 112]⟩)))) (.jump 0 [(.var 15), (.var 0)])) (.og (.sbin .add (.var 3) (.lit (.val (.string ⟨#[32, 112, 108, 97, 105, 110]⟩)))) (.jump 0 [(.var 15), (.var 0)]))))))))))))))))))))
set_option maxRecDepth 1000000 in
theorem x9_ok : okF TT Tryd.f9 1 x9 = true := by decide +kernel
set_option maxRecDepth 1000000 in
theorem s_spec_l13Text_ok {a0 : AV} {σ : AH} {R : AEnd → AH → Prop} (h : s_spec_l13Text a0 σ R) : acall TP fn_spec_l13Text [a0] σ R :=
  acall_okF (ρ := [a0]) TT_ok Tryd.func9 rfl x9 x9_ok rfl h

/-- loop.example/g00349/impl.ConfigFault -/
def s_impl_ConfigFault (a0 : AV) (σ : AH) (R : AEnd → AH → Prop) : Prop :=
  abox a0 σ fun v1 σ =>
  jn (X := Tup [12]) (fun x1 σ =>
      apick x1.1 (
        aret (.val (.int .i64 3)) σ R) (
        aret (.val (.int .i64 0)) σ R)) fun k1 =>
    frz v1 σ fun f1 σ =>
    og (fldA 0 f1) fun v3 =>
    og (lod v3 σ) fun v4 =>
    acall TP fn_impl_isSize [v4] σ (onr (fun v5 σ =>
    og (aun .not v5) fun v6 =>
    og (gval v6 false false (fldA 1 f1)) fun v8 =>
    og (gval v6 false false (lod v8 σ)) fun v9 =>
    gpick v6 (
      k1 ((.val (.bool true)), ()) σ) (
      acall TP fn_impl_TableFault [v9] σ (onr (fun v10 σ =>
      og (ibin .neq v10 (.val (.int .i64 0))) fun v11 =>
      k1 (v11, ()) σ) (fun v σ => apan v σ R))) (False)) (fun v σ => apan v σ R))
def x10 : Sx := .box (.var 0) (.jn 13 [12] (.apick (.var 0) (.ret (.lit (.val (.int .i64 3)))) (.ret (.lit (.val (.int .i64 0))))) (.frz 1 (.var 0) (.og (.fldA 0 (.var 0)) (.og (.lod (.var 0)) (.call 15 [(.var 0)] (.og (.aun .not (.var 0)) (.gog (.var 0) false false (.fldA 1 (.var 4)) (.gog (.var 1) false false (.lod (.var 0)) (.gpick (.var 2) (.jump 0 [(.lit (.val (.bool true)))]) (.call 16 [(.var 0)] (.og (.ibin .neq (.var 0) (.lit (.val (.int .i64 0)))) (.jump 0 [(.var 0)]))) (.no))))))))))
set_option maxRecDepth 1000000 in
theorem x10_ok : okF TT Tryd.f10 1 x10 = true := by decide +kernel
set_option maxRecDepth 1000000 in
theorem s_impl_ConfigFault_ok {a0 : AV} {σ : AH} {R : AEnd → AH → Prop} (h : s_impl_ConfigFault a0 σ R) : acall TP fn_impl_ConfigFault [a0] σ R :=
  acall_okF (ρ := [a0]) TT_ok Tryd.func10 rfl x10 x10_ok rfl h

/-- (loop.example/g00349/impl.Config).text -/
def s_impl_Config_text (a0 : AV) (σ : AH) (R : AEnd → AH → Prop) : Prop :=
  abox a0 σ fun v1 σ =>
  frz v1 σ fun f1 σ =>
  jn (X := Tup [1, 3, 4]) (fun x1 σ =>
      jn (X := Tup [1, 3, 4]) (fun x2 σ =>
          og (fldA 0 x2.1) fun v9 =>
          og (lod v9 σ) fun v10 =>
          og (fldA 1 x2.1) fun v14 =>
          og (lod v14 σ) fun v15 =>
          acall TP fn_impl_dec [v10] σ (onr (fun v11 σ =>
          (lod v14 σ = some v15 ∧ True) ∧
          og (sbin .add (.val (.string ⟨#[115, 101, 103, 32]⟩)) v11) fun v12 =>
          og (sbin .add v12 (.val (.string ⟨#[32, 116, 97, 98, 108, 101, 32]⟩))) fun v13 =>
          acall TP fn_impl_dec [v15] σ (onr (fun v16 σ =>
          (True) ∧
          og (sbin .add v13 v16) fun v17 =>
          og (sbin .add v17 (.val (.string ⟨#[32]⟩))) fun v18 =>
          og (sbin .add v18 x2.2.1) fun v20 =>
          og (sbin .add v20 (.val (.string ⟨#[32]⟩))) fun v21 =>
          og (sbin .add v21 x2.2.2.1) fun v23 =>
          aret v23 σ R) (fun v σ => apan v σ R))) (fun v σ => apan v σ R))) fun k2 =>
        og (fldA 3 x1.1) fun v7 =>
        og (lod v7 σ) fun v8 =>
        apick v8 (
          k2 (x1.1, x1.2.1, (.val (.string ⟨#[99, 97, 99, 104, 101]⟩)), ()) σ) (
          k2 (x1.1, x1.2.1, x1.2.2.1, ()) σ)) fun k1 =>
    og (fldA 2 f1) fun v5 =>
    og (lod v5 σ) fun v6 =>
    apick v6 (
      k1 (f1, (.val (.string ⟨#[112, 101, 101, 112]⟩)), (.val (.string ⟨#[108, 111, 111, 107]⟩)), ()) σ) (
      k1 (f1, (.val (.string ⟨#[112, 108, 97, 105, 110]⟩)), (.val (.string ⟨#[108, 111, 111, 107]⟩)), ()) σ)
def x11 : Sx := .box (.var 0) (.frz 1 (.var 0) (.jn 15 [1, 3, 4] (.jn 31 [1, 3, 4] (.ord [0, 1, 5, 6, 10, 13, 2, 3, 4, 7, 8, 9, 11, 12, 14, 15] [0, 1, 3, 7, 15, 0, 32, 103, 255, 511, 0, 2047, 4095, 0, 16383, 32767] (.og (.fldA 0 (.var 0)) (.og (.lod (.var 0)) (.og (.fldA 1 (.var 2)) (.og (.lod (.var 0)) (.call 17 [(.var 2)] (.wat [⟨none, (.lod (.var 2)), (.var 1)⟩] (.og (.sbin .add (.lit (.val (.string ⟨#[115, 101, 103, 32]⟩))) (.var 0)) (.og (.sbin .add (.var 0) (.lit (.val (.string ⟨#[32, 116, 97, 98, 108, 101, 32]⟩)))) (.call 17 [(.var 3)] (.wat [] (.og (.sbin .add (.var 1) (.var 0)) (.og (.sbin .add (.var 0) (.lit (.val (.string ⟨#[32]⟩)))) (.og (.sbin .add (.var 0) (.var 11)) (.og (.sbin .add (.var 0) (.lit (.val (.string ⟨#[32]⟩)))) (.og (.sbin .add (.var 0) (.var 14)) (.ret (.var 0)))))))))))))))))) (.og (.fldA 3 (.var 0)) (.og (.lod (.var 0)) (.apick (.var 0) (.jump 0 [(.var 2), (.var 3), (.lit (.val (.string ⟨#[99, 97, 99, 104, 101]⟩)))]) (.jump 0 [(.var 2), (.var 3), (.var 4)]))))) (.og (.fldA 2 (.var 0)) (.og (.lod (.var 0)) (.apick (.var 0) (.jump 0 [(.var 2), (.lit (.val (.string ⟨#[112, 101, 101, 112]⟩))), (.lit (.val (.string ⟨#[108, 111, 111, 107]⟩)))]) (.jump 0 [(.var 2), (.lit (.val (.string ⟨#[112, 108, 97, 105, 110]⟩))), (.lit (.val (.string ⟨#[108, 111, 111, 107]⟩)))]))))))
set_option maxRecDepth 1000000 in
theorem x11_ok : okF TT Tryd.f11 1 x11 = true := by decide +kernel
set_option maxRecDepth 1000000 in
theorem s_impl_Config_text_ok {a0 : AV} {σ : AH} {R : AEnd → AH → Prop} (h : s_impl_Config_text a0 σ R) : acall TP fn_impl_Config_text [a0] σ R :=
  acall_okF (ρ := [a0]) TT_ok Tryd.func11 rfl x11 x11_ok rfl h

/-- loop.example/g00349/spec.l12Size -/
def s_spec_l12Size (a0 : AV) (σ : AH) (R : AEnd → AH → Prop) : Prop :=
  acall TP fn_spec_l1In [a0, (.val (.int .i64 1)), (.val (.int .i64 64))] σ (onr (fun v4 σ =>
  aret v4 σ R) (fun v σ => apan v σ R))
def x12 : Sx := .call 18 [(.var 0), (.lit (.val (.int .i64 1))), (.lit (.val (.int .i64 64)))] (.ret (.var 0))
set_option maxRecDepth 1000000 in
theorem x12_ok : okF TT Tryd.f12 1 x12 = true := by decide +kernel
set_option maxRecDepth 1000000 in
theorem s_spec_l12Size_ok {a0 : AV} {σ : AH} {R : AEnd → AH → Prop} (h : s_spec_l12Size a0 σ R) : acall TP fn_spec_l12Size [a0] σ R :=
  acall_okF (ρ := [a0]) TT_ok Tryd.func12 rfl x12 x12_ok rfl h

/-- loop.example/g00349/spec.l11Table -/
def s_spec_l11Table (a0 : AV) (σ : AH) (R : AEnd → AH → Prop) : Prop :=
  acall TP fn_spec_l1In [a0, (.val (.int .i64 0)), (.val (.int .i64 15))] σ (onr (fun v4 σ =>
  aret v4 σ R) (fun v σ => apan v σ R))
def x13 : Sx := .call 18 [(.var 0), (.lit (.val (.int .i64 0))), (.lit (.val (.int .i64 15)))] (.ret (.var 0))
set_option maxRecDepth 1000000 in
theorem x13_ok : okF TT Tryd.f13 1 x13 = true := by decide +kernel
set_option maxRecDepth 1000000 in
theorem s_spec_l11Table_ok {a0 : AV} {σ : AH} {R : AEnd → AH → Prop} (h : s_spec_l11Table a0 σ R) : acall TP fn_spec_l11Table [a0] σ R :=
  acall_okF (ρ := [a0]) TT_ok Tryd.func13 rfl x13 x13_ok rfl h

/-- loop.example/g00349/spec.l1Digits -/
def s_spec_l1Digits (a0 : AV) (σ : AH) (R : AEnd → AH → Prop) : Prop :=
  og (ibin .lss a0 (.val (.int .i64 0))) fun v4 =>
  apick v4 (
    og (aun .neg a0) fun v6 =>
    acall TP fn_spec_l1Digits [v6] σ (onr (fun v7 σ =>
    og (sbin .add (.val (.string ⟨#[45]⟩)) v7) fun v8 =>
    aret v8 σ R) (fun v σ => apan v σ R))) (
    og (ibin .lss a0 (.val (.int .i64 10))) fun v10 =>
    apick v10 (
      og (ibin .add (.val (.int .i64 48)) a0) fun v12 =>
      og (convI .u8 v12) fun v13 =>
      bsl 1 [(.val (.int .u8 0))] 1 [(0, v13)] σ fun v14 σ =>
      aconv TT ty_Lb ty_s v14 σ fun v15 σ =>
      aret v15 σ R) (
      og (ibin .quo a0 (.val (.int .i64 10))) fun v17 =>
      og (ibin .rem a0 (.val (.int .i64 10))) fun v20 =>
      og (ibin .add (.val (.int .i64 48)) v20) fun v21 =>
      og (convI .u8 v21) fun v22 =>
      og (bslR 1 [(.val (.int .u8 0))] 1 [(0, v22)]) fun v23 =>
      og (b2s v23) fun v24 =>
      acall TP fn_spec_l1Digits [v17] σ (onr (fun v18 σ =>
      (True) ∧
      og (sbin .add v18 v24) fun v25 =>
      aret v25 σ R) (fun v σ => apan v σ R))))
def x14 : Sx := .og (.ibin .lss (.var 0) (.lit (.val (.int .i64 0)))) (.apick (.var 0) (.og (.aun .neg (.var 1)) (.call 14 [(.var 0)] (.og (.sbin .add (.lit (.val (.string ⟨#[45]⟩))) (.var 0)) (.ret (.var 0))))) (.og (.ibin .lss (.var 1) (.lit (.val (.int .i64 10)))) (.apick (.var 0) (.og (.ibin .add (.lit (.val (.int .i64 48))) (.var 2)) (.og (.conv .u8 (.var 0)) (.bsl 1 [(.val (.int .u8 0))] 1 [(0, (.var 0))] (.cnv 40 9 (.var 0) (.ret (.var 0)))))) (.ord [0, 1, 3, 4, 5, 6, 7, 8, 2, 9, 10] [0, 1, 3, 0, 8, 24, 56, 120, 248, 511, 1023] (.og (.ibin .quo (.var 2) (.lit (.val (.int .i64 10)))) (.og (.ibin .rem (.var 3) (.lit (.val (.int .i64 10)))) (.og (.ibin .add (.lit (.val (.int .i64 48))) (.var 0)) (.og (.conv .u8 (.var 0)) (.og (.bslR 1 [(.val (.int .u8 0))] 1 [(0, (.var 0))]) (.og (.b2s (.var 0)) (.call 14 [(.var 5)] (.wat [] (.og (.sbin .add (.var 0) (.var 1)) (.ret (.var 0)))))))))))))))
set_option maxRecDepth 1000000 in
theorem x14_ok : okF TT Tryd.f14 1 x14 = true := by decide +kernel
set_option maxRecDepth 1000000 in
theorem s_spec_l1Digits_ok {a0 : AV} {σ : AH} {R : AEnd → AH → Prop} (h : s_spec_l1Digits a0 σ R) : acall TP fn_spec_l1Digits [a0] σ R :=
  acall_okF (ρ := [a0]) TT_ok Tryd.func14 rfl x14 x14_ok rfl h

/-- loop.example/g00349/impl.isSize -/
def s_impl_isSize (a0 : AV) (σ : AH) (R : AEnd → AH → Prop) : Prop :=
  acall TP fn_impl_in [a0, (.val (.int .i64 1)), (.val (.int .i64 64))] σ (onr (fun v4 σ =>
  aret v4 σ R) (fun v σ => apan v σ R))
def x15 : Sx := .call 19 [(.var 0), (.lit (.val (.int .i64 1))), (.lit (.val (.int .i64 64)))] (.ret (.var 0))
set_option maxRecDepth 1000000 in
theorem x15_ok : okF TT Tryd.f15 1 x15 = true := by decide +kernel
set_option maxRecDepth 1000000 in
theorem s_impl_isSize_ok {a0 : AV} {σ : AH} {R : AEnd → AH → Prop} (h : s_impl_isSize a0 σ R) : acall TP fn_impl_isSize [a0] σ R :=
  acall_okF (ρ := [a0]) TT_ok Tryd.func15 rfl x15 x15_ok rfl h

/-- loop.example/g00349/impl.TableFault -/
def s_impl_TableFault (a0 : AV) (σ : AH) (R : AEnd → AH → Prop) : Prop :=
  acall TP fn_impl_in [a0, (.val (.int .i64 0)), (.val (.int .i64 15))] σ (onr (fun v4 σ =>
  og (aun .not v4) fun v5 =>
  apick v5 (
    aret (.val (.int .i64 3)) σ R) (
    aret (.val (.int .i64 0)) σ R)) (fun v σ => apan v σ R))
def x16 : Sx := .call 19 [(.var 0), (.lit (.val (.int .i64 0))), (.lit (.val (.int .i64 15)))] (.og (.aun .not (.var 0)) (.apick (.var 0) (.ret (.lit (.val (.int .i64 3)))) (.ret (.lit (.val (.int .i64 0))))))
set_option maxRecDepth 1000000 in
theorem x16_ok : okF TT Tryd.f16 1 x16 = true := by decide +kernel
set_option maxRecDepth 1000000 in
theorem s_impl_TableFault_ok {a0 : AV} {σ : AH} {R : AEnd → AH → Prop} (h : s_impl_TableFault a0 σ R) : acall TP fn_impl_TableFault [a0] σ R :=
  acall_okF (ρ := [a0]) TT_ok Tryd.func16 rfl x16 x16_ok rfl h

/-- loop.example/g00349/impl.dec -/
def s_impl_dec (a0 : AV) (σ : AH) (R : AEnd → AH → Prop) : Prop :=
  acall TP fn_strconv_FormatInt [a0, (.val (.int .i64 10))] σ (onr (fun v4 σ =>
  aret v4 σ R) (fun v σ => apan v σ R))
def x17 : Sx := .call 20 [(.var 0), (.lit (.val (.int .i64 10)))] (.ret (.var 0))
set_option maxRecDepth 1000000 in
theorem x17_ok : okF TT Tryd.f17 1 x17 = true := by decide +kernel
set_option maxRecDepth 1000000 in
theorem s_impl_dec_ok {a0 : AV} {σ : AH} {R : AEnd → AH → Prop} (h : s_impl_dec a0 σ R) : acall TP fn_impl_dec [a0] σ R :=
  acall_okF (ρ := [a0]) TT_ok Tryd.func17 rfl x17 x17_ok rfl h

/-- loop.example/g00349/spec.l1In -/
def s_spec_l1In (a0 a1 a2 : AV) (σ : AH) (R : AEnd → AH → Prop) : Prop :=
  og (ibin .geq a0 a1) fun v9 =>
  og (gval v9 true false (some a0)) fun v11 =>
  og (gval v9 true false (some a2)) fun v12 =>
  og (gval v9 true false (ibin .leq v11 v12)) fun v13 =>
  og (pickV v9 v13 (.val (.bool false))) fun v14 =>
  aret v14 σ R
def x18 : Sx := .og (.ibin .geq (.var 2) (.var 1)) (.gog (.var 0) true false (.ret (.var 3)) (.gog (.var 1) true false (.ret (.var 2)) (.gog (.var 2) true false (.ibin .leq (.var 1) (.var 0)) (.og (.pickV (.var 3) (.var 0) (.lit (.val (.bool false)))) (.ret (.var 0))))))
set_option maxRecDepth 1000000 in
theorem x18_ok : okF TT Tryd.f18 3 x18 = true := by decide +kernel
set_option maxRecDepth 1000000 in
theorem s_spec_l1In_ok {a0 a1 a2 : AV} {σ : AH} {R : AEnd → AH → Prop} (h : s_spec_l1In a0 a1 a2 σ R) : acall TP fn_spec_l1In [a0, a1, a2] σ R :=
  acall_okF (ρ := [a2, a1, a0]) TT_ok Tryd.func18 rfl x18 x18_ok rfl h

/-- loop.example/g00349/impl.in -/
def s_impl_in (a0 a1 a2 : AV) (σ : AH) (R : AEnd → AH → Prop) : Prop :=
  og (ibin .leq a1 a0) fun v9 =>
  og (gval v9 true false (some a0)) fun v11 =>
  og (gval v9 true false (some a2)) fun v12 =>
  og (gval v9 true false (ibin .leq v11 v12)) fun v13 =>
  og (pickV v9 v13 (.val (.bool false))) fun v14 =>
  aret v14 σ R
def x19 : Sx := .og (.ibin .leq (.var 1) (.var 2)) (.gog (.var 0) true false (.ret (.var 3)) (.gog (.var 1) true false (.ret (.var 2)) (.gog (.var 2) true false (.ibin .leq (.var 1) (.var 0)) (.og (.pickV (.var 3) (.var 0) (.lit (.val (.bool false)))) (.ret (.var 0))))))
set_option maxRecDepth 1000000 in
theorem x19_ok : okF TT Tryd.f19 3 x19 = true := by decide +kernel
set_option maxRecDepth 1000000 in
theorem s_impl_in_ok {a0 a1 a2 : AV} {σ : AH} {R : AEnd → AH → Prop} (h : s_impl_in a0 a1 a2 σ R) : acall TP fn_impl_in [a0, a1, a2] σ R :=
  acall_okF (ρ := [a2, a1, a0]) TT_ok Tryd.func19 rfl x19 x19_ok rfl h

/-- strconv.FormatInt -/
def s_strconv_FormatInt (a0 a1 : AV) (σ : AH) (R : AEnd → AH → Prop) : Prop :=
  acall TP fn_internal_strconv_FormatInt [a0, a1] σ (onr (fun v7 σ =>
  aret v7 σ R) (fun v σ => apan v σ R))
def x20 : Sx := .call 21 [(.var 1), (.var 0)] (.ret (.var 0))
set_option maxRecDepth 1000000 in
theorem x20_ok : okF TT Tryd.f20 2 x20 = true := by decide +kernel
set_option maxRecDepth 1000000 in
theorem s_strconv_FormatInt_ok {a0 a1 : AV} {σ : AH} {R : AEnd → AH → Prop} (h : s_strconv_FormatInt a0 a1 σ R) : acall TP fn_strconv_FormatInt [a0, a1] σ R :=
  acall_okF (ρ := [a1, a0]) TT_ok Tryd.func20 rfl x20 x20_ok rfl h

/-- internal/strconv.FormatInt -/
def s_internal_strconv_FormatInt (a0 a1 : AV) (σ : AH) (R : AEnd → AH → Prop) : Prop :=
  og (ibin .eql a1 (.val (.int .i64 10))) fun v11 =>
  apick v11 (
    og (ibin .leq (.val (.int .i64 0)) a0) fun v13 =>
    og (gval v13 true false (some a0)) fun v15 =>
    og (gval v13 true false (ibin .lss v15 (.val (.int .i64 100)))) fun v16 =>
    og (pickV v13 v16 (.val (.bool false))) fun v17 =>
    apick v17 (
      acall TP fn_internal_strconv_small [a0] σ (onr (fun v19 σ =>
      aret v19 σ R) (fun v σ => apan v σ R))) (False)) (False)
def x21 : Sx := .og (.ibin .eql (.var 0) (.lit (.val (.int .i64 10)))) (.apick (.var 0) (.og (.ibin .leq (.lit (.val (.int .i64 0))) (.var 2)) (.gog (.var 0) true false (.ret (.var 3)) (.gog (.var 1) true false (.ibin .lss (.var 0) (.lit (.val (.int .i64 100)))) (.og (.pickV (.var 2) (.var 0) (.lit (.val (.bool false)))) (.apick (.var 0) (.call 22 [(.var 6)] (.ret (.var 0))) (.no)))))) (.no))
set_option maxRecDepth 1000000 in
theorem x21_ok : okF TT Tryd.f21 2 x21 = true := by decide +kernel
set_option maxRecDepth 1000000 in
theorem s_internal_strconv_FormatInt_ok {a0 a1 : AV} {σ : AH} {R : AEnd → AH → Prop} (h : s_internal_strconv_FormatInt a0 a1 σ R) : acall TP fn_internal_strconv_FormatInt [a0, a1] σ R :=
  acall_okF (ρ := [a1, a0]) TT_ok Tryd.func21 rfl x21 x21_ok rfl h

/-- internal/strconv.small -/
def s_internal_strconv_small (a0 : AV) (σ : AH) (R : AEnd → AH → Prop) : Prop :=
  og (ibin .lss a0 (.val (.int .i64 10))) fun v4 =>
  apick v4 (
    og (ibin .add a0 (.val (.int .i64 1))) fun v7 =>
    og (slcStr (.val (.string ⟨#[48, 49, 50, 51, 52, 53, 54, 55, 56, 57, 97, 98, 99, 100, 101, 102, 103, 104, 105, 106, 107, 108, 109, 110, 111, 112, 113, 114, 115, 116, 117, 118, 119, 120, 121, 122]⟩)) (some a0) (some v7)) fun v8 =>
    aret v8 σ R) (
    og (ibin .mul a0 (.val (.int .i64 2))) fun v10 =>
    og (ibin .mul a0 (.val (.int .i64 2))) fun v12 =>
    og (ibin .add v12 (.val (.int .i64 2))) fun v13 =>
    og (slcStr (.val (.string ⟨#[48, 48, 48, 49, 48, 50, 48, 51, 48, 52, 48, 53, 48, 54, 48, 55, 48, 56, 48, 57, 49, 48, 49, 49, 49, 50, 49, 51, 49, 52, 49, 53, 49, 54, 49, 55, 49, 56, 49, 57, 50, 48, 50, 49, 50, 50, 50, 51, 50, 52, 50, 53, 50, 54, 50, 55, 50, 56, 50, 57, 51, 48, 51, 49, 51, 50, 51, 51, 51, 52, 51, 53, 51, 54, 51, 55, 51, 56, 51, 57, 52, 48, 52, 49, 52, 50, 52, 51, 52, 52, 52, 53, 52, 54, 52, 55, 52, 56, 52, 57, 53, 48, 53, 49, 53, 50, 53, 51, 53, 52, 53, 53, 53, 54, 53, 55, 53, 56, 53, 57, 54, 48, 54, 49, 54, 50, 54, 51, 54, 52, 54, 53, 54, 54, 54, 55, 54, 56, 54, 57, 55, 48, 55, 49, 55, 50, 55, 51, 55, 52, 55, 53, 55, 54, 55, 55, 55, 56, 55, 57, 56, 48, 56, 49, 56, 50, 56, 51, 56, 52, 56, 53, 56, 54, 56, 55, 56, 56, 56, 57, 57, 48, 57, 49, 57, 50, 57, 51, 57, 52, 57, 53, 57, 54, 57, 55, 57, 56, 57, 57]⟩)) (some v10) (some v13)) fun v14 =>
    aret v14 σ R)
def x22 : Sx := .og (.ibin .lss (.var 0) (.lit (.val (.int .i64 10)))) (.apick (.var 0) (.og (.ibin .add (.var 1) (.lit (.val (.int .i64 1)))) (.og (.slcStr (.lit (.val (.string ⟨#[48, 49, 50, 51, 52, 53, 54, 55, 56, 57, 97, 98, 99, 100, 101, 102, 103, 104, 105, 106, 107, 108, 109, 110, 111, 112, 113, 114, 115, 116, 117, 118, 119, 120, 121, 122]⟩))) (some (.var 2)) (some (.var 0))) (.ret (.var 0)))) (.og (.ibin .mul (.var 1) (.lit (.val (.int .i64 2)))) (.og (.ibin .mul (.var 2) (.lit (.val (.int .i64 2)))) (.og (.ibin .add (.var 0) (.lit (.val (.int .i64 2)))) (.og (.slcStr (.lit (.val (.string ⟨#[48, 48, 48, 49, 48, 50, 48, 51, 48, 52, 48, 53, 48, 54, 48, 55, 48, 56, 48, 57, 49, 48, 49, 49, 49, 50, 49, 51, 49, 52, 49, 53, 49, 54, 49, 55, 49, 56, 49, 57, 50, 48, 50, 49, 50, 50, 50, 51, 50, 52, 50, 53, 50, 54, 50, 55, 50, 56, 50, 57, 51, 48, 51, 49, 51, 50, 51, 51, 51, 52, 51, 53, 51, 54, 51, 55, 51, 56, 51, 57, 52, 48, 52, 49, 52, 50, 52, 51, 52, 52, 52, 53, 52, 54, 52, 55, 52, 56, 52, 57, 53, 48, 53, 49, 53, 50, 53, 51, 53, 52, 53, 53, 53, 54, 53, 55, 53, 56, 53, 57, 54, 48, 54, 49, 54, 50, 54, 51, 54, 52, 54, 53, 54, 54, 54, 55, 54, 56, 54, 57, 55, 48, 55, 49, 55, 50, 55, 51, 55, 52, 55, 53, 55, 54, 55, 55, 55, 56, 55, 57, 56, 48, 56, 49, 56, 50, 56, 51, 56, 52, 56, 53, 56, 54, 56, 55, 56, 56, 56, 57, 57, 48, 57, 49, 57, 50, 57, 51, 57, 52, 57, 53, 57, 54, 57, 55, 57, 56, 57, 57]⟩))) (some (.var 2)) (some (.var 0))) (.ret (.var 0)))))))
set_option maxRecDepth 1000000 in
theorem x22_ok : okF TT Tryd.f22 1 x22 = true := by decide +kernel
set_option maxRecDepth 1000000 in
theorem s_internal_strconv_small_ok {a0 : AV} {σ : AH} {R : AEnd → AH → Prop} (h : s_internal_strconv_small a0 σ R) : acall TP fn_internal_strconv_small [a0] σ R :=
  acall_okF (ρ := [a0]) TT_ok Tryd.func22 rfl x22 x22_ok rfl h

end Go.Proofs.YtjfdgijgkbojnaaDoor.E
