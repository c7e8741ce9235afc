/- What functions come to. Printed by gen.py. -/
import Derived.Test.YtjfdgijgkbojnaaMF
import Derived.WalkKit
import Derived.Test.YtjfdgijgkbojnaaProg
namespace Go.Proofs.Ytjfdgijgkbojnaa.E
open Go Go.RowKit
set_option linter.unusedVariables false
set_option linter.unusedSectionVars false
variable [Lam]
noncomputable abbrev TP : Program := Try.prog
noncomputable abbrev TT : Tab := tab TP
theorem TT_ok : TabOk TP TT := tab_ok TP (by decide +kernel)

abbrev fn_laws_FnExactConfigFault : FuncId := 4
abbrev fn_laws_FnExactFirstApart : FuncId := 5
abbrev fn_laws_FnExactErrorsIn : FuncId := 6
abbrev fn_laws_FnExactSegsFault : FuncId := 7
abbrev fn_laws_FnAparts : FuncId := 8
abbrev fn_laws_FnExactDepthSegs : FuncId := 9
abbrev fn_laws_FnExactOpenSegs : FuncId := 10
abbrev fn_laws_FnExactListSegs : FuncId := 11
abbrev fn_laws_FnResizes : FuncId := 12
abbrev fn_laws_FnStacks : FuncId := 13
abbrev fn_spec_TableFault : FuncId := 14
abbrev fn_impl_TableFault : FuncId := 15
abbrev fn_spec_ConfigFault : FuncId := 16
abbrev fn_laws_toConfig : FuncId := 17
abbrev fn_impl_ConfigFault : FuncId := 18
abbrev fn_laws_szStringS : FuncId := 19
abbrev fn_spec_FirstApart : FuncId := 20
abbrev fn_laws_toStringS : FuncId := 21
abbrev fn_impl_FirstApart : FuncId := 22
abbrev fn_laws_eqIntResult : FuncId := 23
abbrev fn_laws_eqStringS : FuncId := 24
abbrev fn_spec_ErrorsIn : FuncId := 25
abbrev fn_impl_ErrorsIn : FuncId := 26
abbrev fn_laws_szSegs : FuncId := 27
abbrev fn_spec_SegsFault : FuncId := 28
abbrev fn_laws_toSegs : FuncId := 29
abbrev fn_impl_SegsFault : FuncId := 30
abbrev fn_laws_eqSegs : FuncId := 31
abbrev fn_laws_lwBig : FuncId := 32
abbrev fn_spec_DrawFirstApart : FuncId := 33
abbrev fn_laws_lwTexts : FuncId := 34
abbrev fn_spec_DepthSegs : FuncId := 35
abbrev fn_impl_DepthSegs : FuncId := 36
abbrev fn_spec_OpenSegs : FuncId := 37
abbrev fn_laws_toInt64S : FuncId := 38
abbrev fn_impl_OpenSegs : FuncId := 39
abbrev fn_laws_eqSegsResult : FuncId := 40
abbrev fn_laws_eqInt64S : FuncId := 41
abbrev fn_laws_markInt64S : FuncId := 42
abbrev fn_laws_markSegsResult : FuncId := 43
abbrev fn_laws_heldSegsResult : FuncId := 44
abbrev fn_spec_ListSegs : FuncId := 45
abbrev fn_impl_ListSegs : FuncId := 46
abbrev fn_laws_eqIntsResult : FuncId := 47
abbrev fn_laws_markSegs : FuncId := 48
abbrev fn_laws_markIntsResult : FuncId := 49
abbrev fn_laws_heldIntsResult : FuncId := 50
abbrev fn_spec_DrawResizeSegs : FuncId := 51
abbrev fn_impl_ResizeSegs : FuncId := 52
abbrev fn_spec_ResizeSegs : FuncId := 53
abbrev fn_laws_lwNums : FuncId := 54
abbrev fn_impl_PopSegs : FuncId := 55
abbrev fn_spec_DrawPushSegs : FuncId := 56
abbrev fn_impl_PushSegs : FuncId := 57
abbrev fn_spec_PushSegs : FuncId := 58
abbrev fn_spec_l11Table : FuncId := 59
abbrev fn_impl_in : FuncId := 60
abbrev fn_spec_l13Fault : FuncId := 61
abbrev fn_impl_isSize : FuncId := 62
abbrev fn_spec_l16Apart : FuncId := 63
abbrev fn_strings_HasPrefix : FuncId := 64
abbrev fn_laws_szSegPartS : FuncId := 65
abbrev fn_spec_l12Fault : FuncId := 66
abbrev fn_laws_toSegPartS : FuncId := 67
abbrev fn_laws_eqSegPartS : FuncId := 68
abbrev fn_spec_l1Source : FuncId := 69
abbrev fn_spec_l8DrawLines : FuncId := 70
abbrev fn_spec_l1Next : FuncId := 71
abbrev fn_spec_l12Depth : FuncId := 72
abbrev fn_impl_Segs_items : FuncId := 73
abbrev fn_spec_l12Size : FuncId := 74
abbrev fn_spec_l12Open : FuncId := 75
abbrev fn_impl_segsOf : FuncId := 76
abbrev fn_laws_heldSegs : FuncId := 77
abbrev fn_spec_l12List : FuncId := 78
abbrev fn_laws_markSegPartS : FuncId := 79
abbrev fn_laws_heldInt64S : FuncId := 80
abbrev fn_spec_l12Bent : FuncId := 81
abbrev fn_spec_l1Pick : FuncId := 82
abbrev fn_spec_l12Push : FuncId := 83
abbrev fn_spec_l1In : FuncId := 84
abbrev fn_internal_stringslite_HasPrefix : FuncId := 85
abbrev fn_laws_szSegPart : FuncId := 86
abbrev fn_laws_toSegPart : FuncId := 87
abbrev fn_laws_eqSegPart : FuncId := 88
abbrev fn_spec_l8Line : FuncId := 89
abbrev fn_slices_Chunk : FuncId := 90
abbrev fn_slices_Clone : FuncId := 91
abbrev fn_laws_heldSegPartS : FuncId := 92
abbrev fn_spec_l12DrawList : FuncId := 93
abbrev fn_laws_szInt64S : FuncId := 94
abbrev fn_spec_l4Source : FuncId := 95
abbrev fn_spec_l1Digits : FuncId := 96
abbrev fn_slices_Chunk_1 : FuncId := 97
abbrev fn_spec_l1Chance : FuncId := 98
abbrev ty_LRLiE : TypeId := 45
abbrev ty_Lb : TypeId := 51
abbrev ty_Li : TypeId := 56
abbrev ty_Ls : TypeId := 30
abbrev ty_s : TypeId := 9
set_option maxRecDepth 1000000 in
theorem mk_Ls {n m : Int} {σ : AH} {k : AV → AH → Prop} (h0 : 0 ≤ n) (h1 : n ≤ m) (h2 : m ≤ 1099511627776) (h : ∀ φ, σ φ = none → k (.own φ 0 0 n.toNat) (σ.set φ ⟨0, 1, List.replicate m.toNat [(.val (.string ⟨#[]⟩))]⟩)) : amake TT ty_Ls (.val (.int .i64 n)) (.val (.int .i64 m)) σ k := amake_info (by kernel_rfl) h0 h1 h2 h
set_option maxRecDepth 1000000 in
theorem mk_LRLiE {n m : Int} {σ : AH} {k : AV → AH → Prop} (h0 : 0 ≤ n) (h1 : n ≤ m) (h2 : m ≤ 1099511627776) (h : ∀ φ, σ φ = none → k (.own φ 0 0 n.toNat) (σ.set φ ⟨0, 1, List.replicate m.toNat [(.val (.slice none 0 0))]⟩)) : amake TT ty_LRLiE (.val (.int .i64 n)) (.val (.int .i64 m)) σ k := amake_info (by kernel_rfl) h0 h1 h2 h
set_option maxRecDepth 1000000 in
theorem mk_Lb {n m : Int} {σ : AH} {k : AV → AH → Prop} (h0 : 0 ≤ n) (h1 : n ≤ m) (h2 : m ≤ 1099511627776) (h : ∀ φ, σ φ = none → k (.own φ 0 0 n.toNat) (σ.set φ ⟨0, 1, List.replicate m.toNat [(.val (.int .u8 0))]⟩)) : amake TT ty_Lb (.val (.int .i64 n)) (.val (.int .i64 m)) σ k := amake_info (by kernel_rfl) h0 h1 h2 h
set_option maxRecDepth 1000000 in
theorem mk_Li {n m : Int} {σ : AH} {k : AV → AH → Prop} (h0 : 0 ≤ n) (h1 : n ≤ m) (h2 : m ≤ 1099511627776) (h : ∀ φ, σ φ = none → k (.own φ 0 0 n.toNat) (σ.set φ ⟨0, 1, List.replicate m.toNat [(.val (.int .i64 0))]⟩)) : amake TT ty_Li (.val (.int .i64 n)) (.val (.int .i64 m)) σ k := amake_info (by kernel_rfl) h0 h1 h2 h
/-- loop.example/g00349/laws.FnExactConfigFault -/
def s_laws_FnExactConfigFault (a0 : AV) (σ : AH) (R : AEnd → AH → Prop) : Prop :=
  abox a0 σ fun v1 σ =>
  og (lodA 4 v1 σ) fun v5 =>
  acall TP fn_laws_toConfig [v5] σ (onr (fun v6 σ =>
  acall TP fn_spec_ConfigFault [v6] σ (onr (fun v7 σ =>
  og (lodA 4 v1 σ) fun v8 =>
  acall TP fn_laws_toConfig [v8] σ (onr (fun v9 σ =>
  acall TP fn_impl_ConfigFault [v9] σ (onr (fun v10 σ =>
  og (ibin .neq v10 v7) fun v13 =>
  apick v13 (
    aret (.val (.bool false)) σ R) (
    aret (.val (.bool true)) σ R)) (fun v σ => apan v σ R))) (fun v σ => apan v σ R))) (fun v σ => apan v σ R))) (fun v σ => apan v σ R))
def x4 : Sx := .box (.var 0) (.og (.lodA 4 (.var 0)) (.call 17 [(.var 0)] (.call 16 [(.var 0)] (.og (.lodA 4 (.var 3)) (.call 17 [(.var 0)] (.call 18 [(.var 0)] (.og (.ibin .neq (.var 0) (.var 3)) (.apick (.var 0) (.ret (.lit (.val (.bool false)))) (.ret (.lit (.val (.bool true))))))))))))
set_option maxRecDepth 1000000 in
theorem x4_ok : okF TT Try.f4 1 x4 = true := by decide +kernel
set_option maxRecDepth 1000000 in
theorem s_laws_FnExactConfigFault_ok {a0 : AV} {σ : AH} {R : AEnd → AH → Prop} (h : s_laws_FnExactConfigFault a0 σ R) : acall TP fn_laws_FnExactConfigFault [a0] σ R :=
  acall_okF (ρ := [a0]) TT_ok Try.func4 rfl x4 x4_ok rfl h

/-- loop.example/g00349/laws.FnExactFirstApart -/
def s_laws_FnExactFirstApart (a0 a1 : AV) (σ : AH) (R : AEnd → AH → Prop) : Prop :=
  acall TP fn_laws_szStringS [a0, (.val (.int .i64 1048576))] σ (onr (fun v12 σ =>
  og (ibin .lss v12 (.val (.int .i64 0))) fun v14 =>
  apick v14 (
    aret (.val (.bool true)) σ R) (
    acall TP fn_laws_szStringS [a1, v12] σ (onr (fun v17 σ =>
    og (ibin .lss v17 (.val (.int .i64 0))) fun v19 =>
    apick v19 (
      aret (.val (.bool true)) σ R) (
      acall TP fn_laws_toStringS [a0] σ (onr (fun v21 σ =>
      acall TP fn_laws_toStringS [a1] σ (onr (fun v23 σ =>
      acall TP fn_spec_FirstApart [v21, v23] σ (onr (fun v24 σ =>
      new [(.val (.int .i64 0)), (.val (.int .i64 0))] σ fun v6 σ =>
      sto 2 v6 v24 σ fun σ =>
      acall TP fn_laws_toStringS [a0] σ (onr (fun v26 σ =>
      acall TP fn_laws_toStringS [a1] σ (onr (fun v28 σ =>
      acall TP fn_impl_FirstApart [v26, v28] σ (onr (fun v31 σ =>
      new [(.val (.int .i64 0)), (.val (.int .i64 0))] σ fun v9 σ =>
      sto 2 v9 v31 σ fun σ =>
      og (lodA 2 v9 σ) fun v32 =>
      og (lodA 2 v6 σ) fun v33 =>
      acall TP fn_laws_eqIntResult [v32, v33] σ (onr (fun v34 σ =>
      og (aun .not v34) fun v35 =>
      apick v35 (
        aret (.val (.bool false)) σ R) (
        acall TP fn_laws_toStringS [a0] σ (onr (fun v38 σ =>
        acall TP fn_laws_eqStringS [v26, v38] σ (onr (fun v39 σ =>
        og (aun .not v39) fun v40 =>
        apick v40 (
          aret (.val (.bool false)) σ R) (
          acall TP fn_laws_toStringS [a1] σ (onr (fun v43 σ =>
          acall TP fn_laws_eqStringS [v28, v43] σ (onr (fun v44 σ =>
          og (aun .not v44) fun v45 =>
          apick v45 (
            aret (.val (.bool false)) σ R) (
            aret (.val (.bool true)) σ R)) (fun v σ => apan v σ R))) (fun v σ => apan v σ R)))) (fun v σ => apan v σ R))) (fun v σ => apan v σ R)))) (fun v σ => apan v σ R))) (fun v σ => apan v σ R))) (fun v σ => apan v σ R))) (fun v σ => apan v σ R))) (fun v σ => apan v σ R))) (fun v σ => apan v σ R))) (fun v σ => apan v σ R)))) (fun v σ => apan v σ R)))) (fun v σ => apan v σ R))
def x5 : Sx := .call 19 [(.var 1), (.lit (.val (.int .i64 1048576)))] (.og (.ibin .lss (.var 0) (.lit (.val (.int .i64 0)))) (.apick (.var 0) (.ret (.lit (.val (.bool true)))) (.call 19 [(.var 2), (.var 1)] (.og (.ibin .lss (.var 0) (.lit (.val (.int .i64 0)))) (.apick (.var 0) (.ret (.lit (.val (.bool true)))) (.call 21 [(.var 5)] (.call 21 [(.var 5)] (.call 20 [(.var 1), (.var 0)] (.new [(.val (.int .i64 0)), (.val (.int .i64 0))] (.sto 2 (.var 0) (.var 1) (.call 21 [(.var 9)] (.call 21 [(.var 9)] (.call 22 [(.var 1), (.var 0)] (.new [(.val (.int .i64 0)), (.val (.int .i64 0))] (.sto 2 (.var 0) (.var 1) (.og (.lodA 2 (.var 0)) (.og (.lodA 2 (.var 5)) (.call 23 [(.var 1), (.var 0)] (.og (.aun .not (.var 0)) (.apick (.var 0) (.ret (.lit (.val (.bool false)))) (.call 21 [(.var 17)] (.call 24 [(.var 8), (.var 0)] (.og (.aun .not (.var 0)) (.apick (.var 0) (.ret (.lit (.val (.bool false)))) (.call 21 [(.var 19)] (.call 24 [(.var 10), (.var 0)] (.og (.aun .not (.var 0)) (.apick (.var 0) (.ret (.lit (.val (.bool false)))) (.ret (.lit (.val (.bool true))))))))))))))))))))))))))))))))
set_option maxRecDepth 1000000 in
theorem x5_ok : okF TT Try.f5 2 x5 = true := by decide +kernel
set_option maxRecDepth 1000000 in
theorem s_laws_FnExactFirstApart_ok {a0 a1 : AV} {σ : AH} {R : AEnd → AH → Prop} (h : s_laws_FnExactFirstApart a0 a1 σ R) : acall TP fn_laws_FnExactFirstApart [a0, a1] σ R :=
  acall_okF (ρ := [a1, a0]) TT_ok Try.func5 rfl x5 x5_ok rfl h

/-- loop.example/g00349/laws.FnExactErrorsIn -/
def s_laws_FnExactErrorsIn (a0 : AV) (σ : AH) (R : AEnd → AH → Prop) : Prop :=
  acall TP fn_laws_szStringS [a0, (.val (.int .i64 1048576))] σ (onr (fun v9 σ =>
  og (ibin .lss v9 (.val (.int .i64 0))) fun v11 =>
  apick v11 (
    aret (.val (.bool true)) σ R) (
    acall TP fn_laws_toStringS [a0] σ (onr (fun v13 σ =>
    acall TP fn_spec_ErrorsIn [v13] σ (onr (fun v14 σ =>
    new [(.val (.int .i64 0)), (.val (.int .i64 0))] σ fun v4 σ =>
    sto 2 v4 v14 σ fun σ =>
    acall TP fn_laws_toStringS [a0] σ (onr (fun v16 σ =>
    acall TP fn_impl_ErrorsIn [v16] σ (onr (fun v18 σ =>
    new [(.val (.int .i64 0)), (.val (.int .i64 0))] σ fun v6 σ =>
    sto 2 v6 v18 σ fun σ =>
    og (lodA 2 v6 σ) fun v19 =>
    og (lodA 2 v4 σ) fun v20 =>
    acall TP fn_laws_eqIntResult [v19, v20] σ (onr (fun v21 σ =>
    og (aun .not v21) fun v22 =>
    apick v22 (
      aret (.val (.bool false)) σ R) (
      acall TP fn_laws_toStringS [a0] σ (onr (fun v25 σ =>
      acall TP fn_laws_eqStringS [v16, v25] σ (onr (fun v26 σ =>
      og (aun .not v26) fun v27 =>
      apick v27 (
        aret (.val (.bool false)) σ R) (
        aret (.val (.bool true)) σ R)) (fun v σ => apan v σ R))) (fun v σ => apan v σ R)))) (fun v σ => apan v σ R))) (fun v σ => apan v σ R))) (fun v σ => apan v σ R))) (fun v σ => apan v σ R))) (fun v σ => apan v σ R)))) (fun v σ => apan v σ R))
def x6 : Sx := .call 19 [(.var 0), (.lit (.val (.int .i64 1048576)))] (.og (.ibin .lss (.var 0) (.lit (.val (.int .i64 0)))) (.apick (.var 0) (.ret (.lit (.val (.bool true)))) (.call 21 [(.var 2)] (.call 25 [(.var 0)] (.new [(.val (.int .i64 0)), (.val (.int .i64 0))] (.sto 2 (.var 0) (.var 1) (.call 21 [(.var 5)] (.call 26 [(.var 0)] (.new [(.val (.int .i64 0)), (.val (.int .i64 0))] (.sto 2 (.var 0) (.var 1) (.og (.lodA 2 (.var 0)) (.og (.lodA 2 (.var 4)) (.call 23 [(.var 1), (.var 0)] (.og (.aun .not (.var 0)) (.apick (.var 0) (.ret (.lit (.val (.bool false)))) (.call 21 [(.var 12)] (.call 24 [(.var 7), (.var 0)] (.og (.aun .not (.var 0)) (.apick (.var 0) (.ret (.lit (.val (.bool false)))) (.ret (.lit (.val (.bool true)))))))))))))))))))))))
set_option maxRecDepth 1000000 in
theorem x6_ok : okF TT Try.f6 1 x6 = true := by decide +kernel
set_option maxRecDepth 1000000 in
theorem s_laws_FnExactErrorsIn_ok {a0 : AV} {σ : AH} {R : AEnd → AH → Prop} (h : s_laws_FnExactErrorsIn a0 σ R) : acall TP fn_laws_FnExactErrorsIn [a0] σ R :=
  acall_okF (ρ := [a0]) TT_ok Try.func6 rfl x6 x6_ok rfl h

/-- loop.example/g00349/laws.FnExactSegsFault -/
def s_laws_FnExactSegsFault (a0 : AV) (σ : AH) (R : AEnd → AH → Prop) : Prop :=
  abox a0 σ fun v1 σ =>
  og (lodA 2 v1 σ) fun v7 =>
  acall TP fn_laws_szSegs [v7, (.val (.int .i64 1048576))] σ (onr (fun v9 σ =>
  og (ibin .lss v9 (.val (.int .i64 0))) fun v11 =>
  apick v11 (
    aret (.val (.bool true)) σ R) (
    og (lodA 2 v1 σ) fun v12 =>
    acall TP fn_laws_toSegs [v12] σ (onr (fun v13 σ =>
    acall TP fn_spec_SegsFault [v13] σ (onr (fun v14 σ =>
    og (lodA 2 v1 σ) fun v15 =>
    acall TP fn_laws_toSegs [v15] σ (onr (fun v16 σ =>
    new [(.val (.int .i64 0)), (.val (.slice none 0 0))] σ fun v5 σ =>
    sto 2 v5 v16 σ fun σ =>
    og (lodA 2 v5 σ) fun v17 =>
    acall TP fn_impl_SegsFault [v17] σ (onr (fun v18 σ =>
    og (ibin .neq v18 v14) fun v21 =>
    apick v21 (
      aret (.val (.bool false)) σ R) (
      og (lodA 2 v5 σ) fun v22 =>
      og (lodA 2 v1 σ) fun v23 =>
      acall TP fn_laws_toSegs [v23] σ (onr (fun v24 σ =>
      (lodA 2 v5 σ = some v22 ∧ True) ∧
      acall TP fn_laws_eqSegs [v22, v24] σ (onr (fun v25 σ =>
      (True) ∧
      og (aun .not v25) fun v26 =>
      apick v26 (
        aret (.val (.bool false)) σ R) (
        aret (.val (.bool true)) σ R)) (fun v σ => apan v σ R))) (fun v σ => apan v σ R)))) (fun v σ => apan v σ R))) (fun v σ => apan v σ R))) (fun v σ => apan v σ R))) (fun v σ => apan v σ R)))) (fun v σ => apan v σ R))
def x7 : Sx := .box (.var 0) (.og (.lodA 2 (.var 0)) (.call 27 [(.var 0), (.lit (.val (.int .i64 1048576)))] (.og (.ibin .lss (.var 0) (.lit (.val (.int .i64 0)))) (.apick (.var 0) (.ret (.lit (.val (.bool true)))) (.og (.lodA 2 (.var 3)) (.call 29 [(.var 0)] (.call 28 [(.var 0)] (.og (.lodA 2 (.var 6)) (.call 29 [(.var 0)] (.new [(.val (.int .i64 0)), (.val (.slice none 0 0))] (.sto 2 (.var 0) (.var 1) (.og (.lodA 2 (.var 0)) (.call 30 [(.var 0)] (.og (.ibin .neq (.var 0) (.var 5)) (.apick (.var 0) (.ret (.lit (.val (.bool false)))) (.ord [0, 1, 2, 3, 4] [0, 0, 2, 7, 15] (.og (.lodA 2 (.var 3)) (.og (.lodA 2 (.var 13)) (.call 29 [(.var 0)] (.wat [⟨none, (.lodA 2 (.var 6)), (.var 2)⟩] (.call 31 [(.var 2), (.var 0)] (.wat [] (.og (.aun .not (.var 0)) (.apick (.var 0) (.ret (.lit (.val (.bool false)))) (.ret (.lit (.val (.bool true))))))))))))))))))))))))))))
set_option maxRecDepth 1000000 in
theorem x7_ok : okF TT Try.f7 1 x7 = true := by decide +kernel
set_option maxRecDepth 1000000 in
theorem s_laws_FnExactSegsFault_ok {a0 : AV} {σ : AH} {R : AEnd → AH → Prop} (h : s_laws_FnExactSegsFault a0 σ R) : acall TP fn_laws_FnExactSegsFault [a0] σ R :=
  acall_okF (ρ := [a0]) TT_ok Try.func7 rfl x7 x7_ok rfl h

/-- loop.example/g00349/laws.FnAparts -/
def s_laws_FnAparts (a0 : AV) (σ : AH) (R : AEnd → AH → Prop) : Prop :=
  acall TP fn_laws_lwBig [a0] σ (onr (fun v8 σ =>
  apick v8 (
    aret (.val (.bool true)) σ R) (
    acall TP fn_spec_DrawFirstApart [a0] σ (onr (fun v11 σ =>
    og (aext v11 0) fun v12 =>
    og (aext v11 1) fun v13 =>
    acall TP fn_impl_FirstApart [v12, v13] σ (onr (fun v16 σ =>
    new [(.val (.int .i64 0)), (.val (.int .i64 0))] σ fun v5 σ =>
    sto 2 v5 v16 σ fun σ =>
    og (fldA 0 v5) fun v17 =>
    og (lod v17 σ) fun v18 =>
    og (ibin .eql v18 (.val (.int .i64 2))) fun v19 =>
    apick v19 (
      og (fldA 0 v5) fun v24 =>
      og (lod v24 σ) fun v25 =>
      acall TP fn_spec_FirstApart [v12, v13] σ (onr (fun v22 σ =>
      (lod v24 σ = some v25 ∧ True) ∧
      og (fldV 0 v22) fun v23 =>
      og (ibin .eql v23 v25) fun v26 =>
      aret v26 σ R) (fun v σ => apan v σ R))) (
      og (fldA 0 v5) fun v27 =>
      og (lod v27 σ) fun v28 =>
      og (ibin .eql v28 (.val (.int .i64 4))) fun v29 =>
      apick v29 (
        jn (X := Tup [2]) (fun x1 σ =>
            aret x1.1 σ R) fun k1 =>
          acall TP fn_laws_lwTexts [v12, v13] σ (onr (fun v32 σ =>
          og (gval v32 true false (some v13)) fun v34 =>
          og (gval v32 true false (some v12)) fun v35 =>
          gpick v32 (
            acall TP fn_impl_FirstApart [v34, v35] σ (onr (fun v36 σ =>
            og (fldV 0 v36) fun v37 =>
            og (ibin .eql v37 (.val (.int .i64 4))) fun v38 =>
            og (pickV (.val (.bool true)) v38 (.val (.bool false))) fun v39 =>
            k1 (v39, ()) σ) (fun v σ => apan v σ R))) (
            og (pickV (.val (.bool false)) (.tup []) (.val (.bool false))) fun v39 =>
            k1 (v39, ()) σ) (False)) (fun v σ => apan v σ R))) (
        og (fldA 1 v5) fun v40 =>
        og (lod v40 σ) fun v41 =>
        jn (X := Tup [3, 4, 5, 6, 65]) (fun x2 σ =>
            apick x2.2.2.2.2.1 (
              aret (.val (.bool false)) σ R) (
              jn (X := Tup [2]) (fun x3 σ =>
                  aret x3.1 σ R) fun k3 =>
                og (fldA 0 x2.2.2.1) fun v66 =>
                og (lod v66 σ) fun v67 =>
                og (ibin .eql v67 (.val (.int .i64 0))) fun v68 =>
                og (gval v68 true false (some x2.2.1)) fun v70 =>
                og (gval v68 true false (some x2.1)) fun v71 =>
                gpick v68 (
                  acall TP fn_impl_FirstApart [v70, v71] σ (onr (fun v72 σ =>
                  og (fldV 1 v72) fun v73 =>
                  og (ibin .eql v73 x2.2.2.2.1) fun v75 =>
                  og (pickV (.val (.bool true)) v75 (.val (.bool false))) fun v76 =>
                  og (gval v76 true false (some x2.1)) fun v78 =>
                  og (gval v76 true false (some x2.2.1)) fun v79 =>
                  gpick v76 (
                    acall TP fn_laws_lwTexts [v78, v79] σ (onr (fun v80 σ =>
                    og (aun .not v80) fun v81 =>
                    og (pickV (.val (.bool true)) v81 (.val (.bool false))) fun v82 =>
                    k3 (v82, ()) σ) (fun v σ => apan v σ R))) (
                    og (pickV (.val (.bool false)) (.tup []) (.val (.bool false))) fun v82 =>
                    k3 (v82, ()) σ) (False)) (fun v σ => apan v σ R))) (
                  og (pickV (.val (.bool false)) (.tup []) (.val (.bool false))) fun v76 =>
                  og (gval v76 true false (some x2.1)) fun v78 =>
                  og (gval v76 true false (some x2.2.1)) fun v79 =>
                  gpick v76 (
                    acall TP fn_laws_lwTexts [v78, v79] σ (onr (fun v80 σ =>
                    og (aun .not v80) fun v81 =>
                    og (pickV (.val (.bool true)) v81 (.val (.bool false))) fun v82 =>
                    k3 (v82, ()) σ) (fun v σ => apan v σ R))) (
                    og (pickV (.val (.bool false)) (.tup []) (.val (.bool false))) fun v82 =>
                    k3 (v82, ()) σ) (False)) (False))) fun k2 =>
          og (ibin .lss v41 (.val (.int .i64 0))) fun v43 =>
          og (gval v43 false false (some v41)) fun v45 =>
          og (gval v43 false false (some v12)) fun v46 =>
          og (gval v43 false false (lenS v46)) fun v47 =>
          og (gval v43 false false (ibin .gtr v45 v47)) fun v48 =>
          og (pickV v43 (.val (.bool true)) v48) fun v49 =>
          og (gval v49 false false (some v41)) fun v51 =>
          og (gval v49 false false (some v13)) fun v52 =>
          og (gval v49 false false (lenS v52)) fun v53 =>
          og (gval v49 false false (ibin .gtr v51 v53)) fun v54 =>
          og (pickV v49 (.val (.bool true)) v54) fun v55 =>
          og (gval v55 false false (some v12)) fun v57 =>
          og (gval v55 false false (some v41)) fun v58 =>
          og (gval v55 false false (slc 1 v57 none (some v58) none σ)) fun v59 =>
          og (gval v55 false false (some v13)) fun v60 =>
          og (gval v55 false false (some v41)) fun v61 =>
          og (gval v55 false false (slc 1 v60 none (some v61) none σ)) fun v62 =>
          gpick v55 (
            og (pickV (.val (.bool true)) (.val (.bool true)) (.tup [])) fun v65 =>
            k2 (v12, v13, v5, v41, v65, ()) σ) (
            acall TP fn_laws_lwTexts [v59, v62] σ (onr (fun v63 σ =>
            (True) ∧
            og (aun .not v63) fun v64 =>
            og (pickV (.val (.bool false)) (.val (.bool true)) v64) fun v65 =>
            k2 (v12, v13, v5, v41, v65, ()) σ) (fun v σ => apan v σ R))) (False)))) (fun v σ => apan v σ R))) (fun v σ => apan v σ R)))) (fun v σ => apan v σ R))
def x8 : Sx := .call 32 [(.var 0)] (.apick (.var 0) (.ret (.lit (.val (.bool true)))) (.call 33 [(.var 1)] (.og (.aext (.var 0) 0) (.og (.aext (.var 1) 1) (.call 22 [(.var 1), (.var 0)] (.new [(.val (.int .i64 0)), (.val (.int .i64 0))] (.sto 2 (.var 0) (.var 1) (.og (.fldA 0 (.var 0)) (.og (.lod (.var 0)) (.og (.ibin .eql (.var 0) (.lit (.val (.int .i64 2)))) (.apick (.var 0) (.ord [0, 1, 4, 5, 2, 3, 6, 7] [0, 0, 3, 7, 0, 16, 63, 127] (.og (.fldA 0 (.var 3)) (.og (.lod (.var 0)) (.call 20 [(.var 8), (.var 7)] (.wat [⟨none, (.lod (.var 2)), (.var 1)⟩] (.og (.fldV 0 (.var 0)) (.og (.ibin .eql (.var 0) (.var 2)) (.ret (.var 0))))))))) (.og (.fldA 0 (.var 3)) (.og (.lod (.var 0)) (.og (.ibin .eql (.var 0) (.lit (.val (.int .i64 4)))) (.apick (.var 0) (.jn 1013 [2] (.ret (.var 0)) (.call 34 [(.var 9), (.var 8)] (.gog (.var 0) true false (.ret (.var 9)) (.gog (.var 1) true false (.ret (.var 11)) (.gpick (.var 2) (.call 22 [(.var 1), (.var 0)] (.og (.fldV 0 (.var 0)) (.og (.ibin .eql (.var 0) (.lit (.val (.int .i64 4)))) (.og (.pickV (.lit (.val (.bool true))) (.var 0) (.lit (.val (.bool false)))) (.jump 0 [(.var 0)]))))) (.og (.pickV (.lit (.val (.bool false))) (.lit (.tup [])) (.lit (.val (.bool false)))) (.jump 0 [(.var 0)])) (.no)))))) (.og (.fldA 1 (.var 6)) (.og (.lod (.var 0)) (.jn 1021 [3, 4, 5, 6, 65] (.apick (.var 4) (.ret (.lit (.val (.bool false)))) (.jn 1023 [2] (.ret (.var 0)) (.og (.fldA 0 (.var 2)) (.og (.lod (.var 0)) (.og (.ibin .eql (.var 0) (.lit (.val (.int .i64 0)))) (.gog (.var 0) true false (.ret (.var 4)) (.gog (.var 1) true false (.ret (.var 4)) (.gpick (.var 2) (.call 22 [(.var 1), (.var 0)] (.og (.fldV 1 (.var 0)) (.og (.ibin .eql (.var 0) (.var 10)) (.og (.pickV (.lit (.val (.bool true))) (.var 0) (.lit (.val (.bool false)))) (.gog (.var 0) true false (.ret (.var 9)) (.gog (.var 1) true false (.ret (.var 11)) (.gpick (.var 2) (.call 34 [(.var 1), (.var 0)] (.og (.aun .not (.var 0)) (.og (.pickV (.lit (.val (.bool true))) (.var 0) (.lit (.val (.bool false)))) (.jump 0 [(.var 0)])))) (.og (.pickV (.lit (.val (.bool false))) (.lit (.tup [])) (.lit (.val (.bool false)))) (.jump 0 [(.var 0)])) (.no)))))))) (.og (.pickV (.lit (.val (.bool false))) (.lit (.tup [])) (.lit (.val (.bool false)))) (.gog (.var 0) true false (.ret (.var 6)) (.gog (.var 1) true false (.ret (.var 8)) (.gpick (.var 2) (.call 34 [(.var 1), (.var 0)] (.og (.aun .not (.var 0)) (.og (.pickV (.lit (.val (.bool true))) (.var 0) (.lit (.val (.bool false)))) (.jump 0 [(.var 0)])))) (.og (.pickV (.lit (.val (.bool false))) (.lit (.tup [])) (.lit (.val (.bool false)))) (.jump 0 [(.var 0)])) (.no))))) (.no))))))))) (.ord [0, 1, 2, 3, 4, 5, 6, 7, 8, 9, 10, 11, 12, 13, 14, 15, 16, 17, 18, 19, 20, 21, 22, 23] [0, 1, 3, 7, 7, 23, 63, 127, 255, 511, 511, 1535, 4095, 8191, 16383, 32767, 32767, 131071, 32767, 32767, 819199, 2097151, 4194303, 8388607] (.og (.ibin .lss (.var 0) (.lit (.val (.int .i64 0)))) (.gog (.var 0) false false (.ret (.var 1)) (.gog (.var 1) false false (.ret (.var 13)) (.gog (.var 2) false false (.lenS (.var 0)) (.gog (.var 3) false false (.ibin .gtr (.var 2) (.var 0)) (.og (.pickV (.var 4) (.lit (.val (.bool true))) (.var 0)) (.gog (.var 0) false false (.ret (.var 6)) (.gog (.var 1) false false (.ret (.var 17)) (.gog (.var 2) false false (.lenS (.var 0)) (.gog (.var 3) false false (.ibin .gtr (.var 2) (.var 0)) (.og (.pickV (.var 4) (.lit (.val (.bool true))) (.var 0)) (.gog (.var 0) false false (.ret (.var 22)) (.gog (.var 1) false false (.ret (.var 12)) (.gog (.var 2) false false (.slc 1 (.var 1) none (some (.var 0)) none) (.gog (.var 3) false false (.ret (.var 24)) (.gog (.var 4) false false (.ret (.var 15)) (.gog (.var 5) false false (.slc 1 (.var 1) none (some (.var 0)) none) (.gpick (.var 6) (.og (.pickV (.lit (.val (.bool true))) (.lit (.val (.bool true))) (.lit (.tup []))) (.jump 0 [(.var 29), (.var 28), (.var 26), (.var 18), (.var 0)])) (.call 34 [(.var 3), (.var 0)] (.wat [] (.og (.aun .not (.var 0)) (.og (.pickV (.lit (.val (.bool false))) (.lit (.val (.bool true))) (.var 0)) (.jump 0 [(.var 31), (.var 30), (.var 28), (.var 20), (.var 0)]))))) (.no))))))))))))))))))))))))))))))))))))))
set_option maxRecDepth 1000000 in
theorem x8_ok : okF TT Try.f8 1 x8 = true := by decide +kernel
set_option maxRecDepth 1000000 in
theorem s_laws_FnAparts_ok {a0 : AV} {σ : AH} {R : AEnd → AH → Prop} (h : s_laws_FnAparts a0 σ R) : acall TP fn_laws_FnAparts [a0] σ R :=
  acall_okF (ρ := [a0]) TT_ok Try.func8 rfl x8 x8_ok rfl h

/-- loop.example/g00349/laws.FnExactDepthSegs -/
def s_laws_FnExactDepthSegs (a0 : AV) (σ : AH) (R : AEnd → AH → Prop) : Prop :=
  abox a0 σ fun v1 σ =>
  og (lodA 2 v1 σ) fun v7 =>
  acall TP fn_laws_szSegs [v7, (.val (.int .i64 1048576))] σ (onr (fun v9 σ =>
  og (ibin .lss v9 (.val (.int .i64 0))) fun v11 =>
  apick v11 (
    aret (.val (.bool true)) σ R) (
    og (lodA 2 v1 σ) fun v12 =>
    acall TP fn_laws_toSegs [v12] σ (onr (fun v13 σ =>
    acall TP fn_spec_DepthSegs [v13] σ (onr (fun v14 σ =>
    new [(.val (.int .i64 0)), (.val (.int .i64 0))] σ fun v4 σ =>
    sto 2 v4 v14 σ fun σ =>
    og (lodA 2 v1 σ) fun v15 =>
    acall TP fn_laws_toSegs [v15] σ (onr (fun v16 σ =>
    new [(.val (.int .i64 0)), (.val (.slice none 0 0))] σ fun v5 σ =>
    sto 2 v5 v16 σ fun σ =>
    og (lodA 2 v5 σ) fun v17 =>
    acall TP fn_impl_DepthSegs [v17] σ (onr (fun v18 σ =>
    new [(.val (.int .i64 0)), (.val (.int .i64 0))] σ fun v6 σ =>
    sto 2 v6 v18 σ fun σ =>
    og (lodA 2 v6 σ) fun v19 =>
    og (lodA 2 v4 σ) fun v20 =>
    acall TP fn_laws_eqIntResult [v19, v20] σ (onr (fun v21 σ =>
    og (aun .not v21) fun v22 =>
    apick v22 (
      aret (.val (.bool false)) σ R) (
      og (lodA 2 v5 σ) fun v23 =>
      og (lodA 2 v1 σ) fun v24 =>
      acall TP fn_laws_toSegs [v24] σ (onr (fun v25 σ =>
      (lodA 2 v5 σ = some v23 ∧ True) ∧
      acall TP fn_laws_eqSegs [v23, v25] σ (onr (fun v26 σ =>
      (True) ∧
      og (aun .not v26) fun v27 =>
      apick v27 (
        aret (.val (.bool false)) σ R) (
        aret (.val (.bool true)) σ R)) (fun v σ => apan v σ R))) (fun v σ => apan v σ R)))) (fun v σ => apan v σ R))) (fun v σ => apan v σ R))) (fun v σ => apan v σ R))) (fun v σ => apan v σ R))) (fun v σ => apan v σ R)))) (fun v σ => apan v σ R))
def x9 : Sx := .box (.var 0) (.og (.lodA 2 (.var 0)) (.call 27 [(.var 0), (.lit (.val (.int .i64 1048576)))] (.og (.ibin .lss (.var 0) (.lit (.val (.int .i64 0)))) (.apick (.var 0) (.ret (.lit (.val (.bool true)))) (.og (.lodA 2 (.var 3)) (.call 29 [(.var 0)] (.call 35 [(.var 0)] (.new [(.val (.int .i64 0)), (.val (.int .i64 0))] (.sto 2 (.var 0) (.var 1) (.og (.lodA 2 (.var 7)) (.call 29 [(.var 0)] (.new [(.val (.int .i64 0)), (.val (.slice none 0 0))] (.sto 2 (.var 0) (.var 1) (.og (.lodA 2 (.var 0)) (.call 36 [(.var 0)] (.new [(.val (.int .i64 0)), (.val (.int .i64 0))] (.sto 2 (.var 0) (.var 1) (.og (.lodA 2 (.var 0)) (.og (.lodA 2 (.var 7)) (.call 23 [(.var 1), (.var 0)] (.og (.aun .not (.var 0)) (.apick (.var 0) (.ret (.lit (.val (.bool false)))) (.ord [0, 1, 2, 3, 4] [0, 0, 2, 7, 15] (.og (.lodA 2 (.var 7)) (.og (.lodA 2 (.var 18)) (.call 29 [(.var 0)] (.wat [⟨none, (.lodA 2 (.var 10)), (.var 2)⟩] (.call 31 [(.var 2), (.var 0)] (.wat [] (.og (.aun .not (.var 0)) (.apick (.var 0) (.ret (.lit (.val (.bool false)))) (.ret (.lit (.val (.bool true)))))))))))))))))))))))))))))))))))
set_option maxRecDepth 1000000 in
theorem x9_ok : okF TT Try.f9 1 x9 = true := by decide +kernel
set_option maxRecDepth 1000000 in
theorem s_laws_FnExactDepthSegs_ok {a0 : AV} {σ : AH} {R : AEnd → AH → Prop} (h : s_laws_FnExactDepthSegs a0 σ R) : acall TP fn_laws_FnExactDepthSegs [a0] σ R :=
  acall_okF (ρ := [a0]) TT_ok Try.func9 rfl x9 x9_ok rfl h

/-- loop.example/g00349/laws.FnExactOpenSegs -/
def s_laws_FnExactOpenSegs (a0 a1 : AV) (σ : AH) (R : AEnd → AH → Prop) : Prop :=
  og (lenS a1) fun v13 =>
  og (ibin .gtr v13 (.val (.int .i64 1048576))) fun v14 =>
  apick v14 (
    aret (.val (.bool true)) σ R) (
    acall TP fn_laws_toInt64S [a1] σ (onr (fun v17 σ =>
    acall TP fn_spec_OpenSegs [a0, v17] σ (onr (fun v18 σ =>
    new [(.val (.int .i64 0)), (.val (.int .i64 0)), (.val (.int .i64 0)), (.val (.slice none 0 0))] σ fun v5 σ =>
    sto 4 v5 v18 σ fun σ =>
    acall TP fn_laws_toInt64S [a1] σ (onr (fun v20 σ =>
    acall TP fn_impl_OpenSegs [a0, v20] σ (onr (fun v23 σ =>
    new [(.val (.int .i64 0)), (.val (.int .i64 0)), (.val (.int .i64 0)), (.val (.slice none 0 0))] σ fun v7 σ =>
    sto 4 v7 v23 σ fun σ =>
    og (lodA 4 v7 σ) fun v24 =>
    og (lodA 4 v5 σ) fun v25 =>
    acall TP fn_laws_eqSegsResult [v24, v25] σ (onr (fun v26 σ =>
    og (aun .not v26) fun v27 =>
    apick v27 (
      aret (.val (.bool false)) σ R) (
      acall TP fn_laws_toInt64S [a1] σ (onr (fun v30 σ =>
      acall TP fn_laws_eqInt64S [v20, v30] σ (onr (fun v31 σ =>
      og (aun .not v31) fun v32 =>
      apick v32 (
        aret (.val (.bool false)) σ R) (
        acall TP fn_laws_markInt64S [v20, (.val (.int .i64 1))] σ (onr (fun v35 σ =>
        jn (X := Tup [0, 1, 5, 7, 43]) (fun x1 σ =>
            apick x1.2.2.2.2.1 (
              aret (.val (.bool false)) σ R) (
              og (lodA 4 x1.2.2.2.1 σ) fun v44 =>
              acall TP fn_laws_markSegsResult [v44, (.val (.int .i64 1))] σ (onr (fun v46 σ =>
              og (lodA 4 x1.2.2.2.1 σ) fun v47 =>
              acall TP fn_laws_heldSegsResult [v47, (.val (.int .i64 1))] σ (onr (fun v49 σ =>
              og (ibin .lss v49 (.val (.int .i64 0))) fun v51 =>
              apick v51 (
                aret (.val (.bool false)) σ R) (
                og (ibin .neq v49 v46) fun v54 =>
                apick v54 (
                  aret (.val (.bool false)) σ R) (
                  acall TP fn_laws_toInt64S [x1.2.1] σ (onr (fun v57 σ =>
                  acall TP fn_impl_OpenSegs [x1.1, v57] σ (onr (fun v58 σ =>
                  new [(.val (.int .i64 0)), (.val (.int .i64 0)), (.val (.int .i64 0)), (.val (.slice none 0 0))] σ fun v11 σ =>
                  sto 4 v11 v58 σ fun σ =>
                  og (lodA 4 v11 σ) fun v59 =>
                  og (lodA 4 x1.2.2.1 σ) fun v60 =>
                  acall TP fn_laws_eqSegsResult [v59, v60] σ (onr (fun v61 σ =>
                  og (aun .not v61) fun v62 =>
                  apick v62 (
                    aret (.val (.bool false)) σ R) (
                    og (lodA 4 x1.2.2.2.1 σ) fun v63 =>
                    acall TP fn_laws_heldSegsResult [v63, (.val (.int .i64 1))] σ (onr (fun v65 σ =>
                    og (ibin .lss v65 (.val (.int .i64 0))) fun v67 =>
                    apick v67 (
                      aret (.val (.bool false)) σ R) (
                      og (ibin .neq v65 v46) fun v70 =>
                      apick v70 (
                        aret (.val (.bool false)) σ R) (
                        aret (.val (.bool true)) σ R))) (fun v σ => apan v σ R)))) (fun v σ => apan v σ R))) (fun v σ => apan v σ R))) (fun v σ => apan v σ R))))) (fun v σ => apan v σ R))) (fun v σ => apan v σ R)))) fun k1 =>
          og (ibin .lss v35 (.val (.int .i64 0))) fun v37 =>
          og (gval v37 false false (lodA 4 v7 σ)) fun v39 =>
          og (gval v37 false false (lodA 4 v5 σ)) fun v40 =>
          gpick v37 (
            og (pickV (.val (.bool true)) (.val (.bool true)) (.tup [])) fun v43 =>
            k1 (a0, a1, v5, v7, v43, ()) σ) (
            acall TP fn_laws_eqSegsResult [v39, v40] σ (onr (fun v41 σ =>
            og (aun .not v41) fun v42 =>
            og (pickV (.val (.bool false)) (.val (.bool true)) v42) fun v43 =>
            k1 (a0, a1, v5, v7, v43, ()) σ) (fun v σ => apan v σ R))) (False)) (fun v σ => apan v σ R)))) (fun v σ => apan v σ R))) (fun v σ => apan v σ R)))) (fun v σ => apan v σ R))) (fun v σ => apan v σ R))) (fun v σ => apan v σ R))) (fun v σ => apan v σ R))) (fun v σ => apan v σ R)))
def x10 : Sx := .og (.lenS (.var 0)) (.og (.ibin .gtr (.var 0) (.lit (.val (.int .i64 1048576)))) (.apick (.var 0) (.ret (.lit (.val (.bool true)))) (.call 38 [(.var 2)] (.call 37 [(.var 4), (.var 0)] (.new [(.val (.int .i64 0)), (.val (.int .i64 0)), (.val (.int .i64 0)), (.val (.slice none 0 0))] (.sto 4 (.var 0) (.var 1) (.call 38 [(.var 5)] (.call 39 [(.var 7), (.var 0)] (.new [(.val (.int .i64 0)), (.val (.int .i64 0)), (.val (.int .i64 0)), (.val (.slice none 0 0))] (.sto 4 (.var 0) (.var 1) (.og (.lodA 4 (.var 0)) (.og (.lodA 4 (.var 4)) (.call 40 [(.var 1), (.var 0)] (.og (.aun .not (.var 0)) (.apick (.var 0) (.ret (.lit (.val (.bool false)))) (.call 38 [(.var 12)] (.call 41 [(.var 7), (.var 0)] (.og (.aun .not (.var 0)) (.apick (.var 0) (.ret (.lit (.val (.bool false)))) (.call 42 [(.var 9), (.lit (.val (.int .i64 1)))] (.jn 4093 [0, 1, 5, 7, 43] (.apick (.var 4) (.ret (.lit (.val (.bool false)))) (.og (.lodA 4 (.var 3)) (.call 43 [(.var 0), (.lit (.val (.int .i64 1)))] (.og (.lodA 4 (.var 5)) (.call 44 [(.var 0), (.lit (.val (.int .i64 1)))] (.og (.ibin .lss (.var 0) (.lit (.val (.int .i64 0)))) (.apick (.var 0) (.ret (.lit (.val (.bool false)))) (.og (.ibin .neq (.var 1) (.var 3)) (.apick (.var 0) (.ret (.lit (.val (.bool false)))) (.call 38 [(.var 7)] (.call 39 [(.var 7), (.var 0)] (.new [(.val (.int .i64 0)), (.val (.int .i64 0)), (.val (.int .i64 0)), (.val (.slice none 0 0))] (.sto 4 (.var 0) (.var 1) (.og (.lodA 4 (.var 0)) (.og (.lodA 4 (.var 12)) (.call 40 [(.var 1), (.var 0)] (.og (.aun .not (.var 0)) (.apick (.var 0) (.ret (.lit (.val (.bool false)))) (.og (.lodA 4 (.var 16)) (.call 44 [(.var 0), (.lit (.val (.int .i64 1)))] (.og (.ibin .lss (.var 0) (.lit (.val (.int .i64 0)))) (.apick (.var 0) (.ret (.lit (.val (.bool false)))) (.og (.ibin .neq (.var 1) (.var 14)) (.apick (.var 0) (.ret (.lit (.val (.bool false)))) (.ret (.lit (.val (.bool true)))))))))))))))))))))))))))) (.og (.ibin .lss (.var 0) (.lit (.val (.int .i64 0)))) (.gog (.var 0) false false (.lodA 4 (.var 9)) (.gog (.var 1) false false (.lodA 4 (.var 13)) (.gpick (.var 2) (.og (.pickV (.lit (.val (.bool true))) (.lit (.val (.bool true))) (.lit (.tup []))) (.jump 0 [(.var 21), (.var 20), (.var 15), (.var 12), (.var 0)])) (.call 40 [(.var 1), (.var 0)] (.og (.aun .not (.var 0)) (.og (.pickV (.lit (.val (.bool false))) (.lit (.val (.bool true))) (.var 0)) (.jump 0 [(.var 23), (.var 22), (.var 17), (.var 14), (.var 0)])))) (.no))))))))))))))))))))))))))
set_option maxRecDepth 1000000 in
theorem x10_ok : okF TT Try.f10 2 x10 = true := by decide +kernel
set_option maxRecDepth 1000000 in
theorem s_laws_FnExactOpenSegs_ok {a0 a1 : AV} {σ : AH} {R : AEnd → AH → Prop} (h : s_laws_FnExactOpenSegs a0 a1 σ R) : acall TP fn_laws_FnExactOpenSegs [a0, a1] σ R :=
  acall_okF (ρ := [a1, a0]) TT_ok Try.func10 rfl x10 x10_ok rfl h

/-- loop.example/g00349/laws.FnExactListSegs -/
def s_laws_FnExactListSegs (a0 : AV) (σ : AH) (R : AEnd → AH → Prop) : Prop :=
  abox a0 σ fun v1 σ =>
  og (lodA 2 v1 σ) fun v11 =>
  acall TP fn_laws_szSegs [v11, (.val (.int .i64 1048576))] σ (onr (fun v13 σ =>
  og (ibin .lss v13 (.val (.int .i64 0))) fun v15 =>
  apick v15 (
    aret (.val (.bool true)) σ R) (
    og (lodA 2 v1 σ) fun v16 =>
    acall TP fn_laws_toSegs [v16] σ (onr (fun v17 σ =>
    acall TP fn_spec_ListSegs [v17] σ (onr (fun v18 σ =>
    new [(.val (.int .i64 0)), (.val (.slice none 0 0))] σ fun v4 σ =>
    sto 2 v4 v18 σ fun σ =>
    og (lodA 2 v1 σ) fun v19 =>
    acall TP fn_laws_toSegs [v19] σ (onr (fun v20 σ =>
    new [(.val (.int .i64 0)), (.val (.slice none 0 0))] σ fun v5 σ =>
    sto 2 v5 v20 σ fun σ =>
    og (lodA 2 v5 σ) fun v21 =>
    acall TP fn_impl_ListSegs [v21] σ (onr (fun v22 σ =>
    new [(.val (.int .i64 0)), (.val (.slice none 0 0))] σ fun v6 σ =>
    sto 2 v6 v22 σ fun σ =>
    og (lodA 2 v6 σ) fun v23 =>
    og (lodA 2 v4 σ) fun v24 =>
    acall TP fn_laws_eqIntsResult [v23, v24] σ (onr (fun v25 σ =>
    og (aun .not v25) fun v26 =>
    apick v26 (
      aret (.val (.bool false)) σ R) (
      og (lodA 2 v5 σ) fun v27 =>
      og (lodA 2 v1 σ) fun v28 =>
      acall TP fn_laws_toSegs [v28] σ (onr (fun v29 σ =>
      (lodA 2 v5 σ = some v27 ∧ True) ∧
      acall TP fn_laws_eqSegs [v27, v29] σ (onr (fun v30 σ =>
      (True) ∧
      og (aun .not v30) fun v31 =>
      apick v31 (
        aret (.val (.bool false)) σ R) (
        og (lodA 2 v5 σ) fun v32 =>
        acall TP fn_laws_markSegs [v32, (.val (.int .i64 1))] σ (onr (fun v34 σ =>
        jn (X := Tup [1, 4, 6, 42]) (fun x1 σ =>
            apick x1.2.2.2.1 (
              aret (.val (.bool false)) σ R) (
              og (lodA 2 x1.2.2.1 σ) fun v43 =>
              acall TP fn_laws_markIntsResult [v43, (.val (.int .i64 1))] σ (onr (fun v45 σ =>
              og (lodA 2 x1.2.2.1 σ) fun v46 =>
              acall TP fn_laws_heldIntsResult [v46, (.val (.int .i64 1))] σ (onr (fun v48 σ =>
              og (ibin .lss v48 (.val (.int .i64 0))) fun v50 =>
              apick v50 (
                aret (.val (.bool false)) σ R) (
                og (ibin .neq v48 v45) fun v53 =>
                apick v53 (
                  aret (.val (.bool false)) σ R) (
                  og (lodA 2 x1.1 σ) fun v54 =>
                  acall TP fn_laws_toSegs [v54] σ (onr (fun v55 σ =>
                  acall TP fn_impl_ListSegs [v55] σ (onr (fun v56 σ =>
                  new [(.val (.int .i64 0)), (.val (.slice none 0 0))] σ fun v10 σ =>
                  sto 2 v10 v56 σ fun σ =>
                  og (lodA 2 v10 σ) fun v57 =>
                  og (lodA 2 x1.2.1 σ) fun v58 =>
                  acall TP fn_laws_eqIntsResult [v57, v58] σ (onr (fun v59 σ =>
                  og (aun .not v59) fun v60 =>
                  apick v60 (
                    aret (.val (.bool false)) σ R) (
                    og (lodA 2 x1.2.2.1 σ) fun v61 =>
                    acall TP fn_laws_heldIntsResult [v61, (.val (.int .i64 1))] σ (onr (fun v63 σ =>
                    og (ibin .lss v63 (.val (.int .i64 0))) fun v65 =>
                    apick v65 (
                      aret (.val (.bool false)) σ R) (
                      og (ibin .neq v63 v45) fun v68 =>
                      apick v68 (
                        aret (.val (.bool false)) σ R) (
                        aret (.val (.bool true)) σ R))) (fun v σ => apan v σ R)))) (fun v σ => apan v σ R))) (fun v σ => apan v σ R))) (fun v σ => apan v σ R))))) (fun v σ => apan v σ R))) (fun v σ => apan v σ R)))) fun k1 =>
          og (ibin .lss v34 (.val (.int .i64 0))) fun v36 =>
          og (gval v36 false false (lodA 2 v6 σ)) fun v38 =>
          og (gval v36 false false (lodA 2 v4 σ)) fun v39 =>
          gpick v36 (
            og (pickV (.val (.bool true)) (.val (.bool true)) (.tup [])) fun v42 =>
            k1 (v1, v4, v6, v42, ()) σ) (
            acall TP fn_laws_eqIntsResult [v38, v39] σ (onr (fun v40 σ =>
            og (aun .not v40) fun v41 =>
            og (pickV (.val (.bool false)) (.val (.bool true)) v41) fun v42 =>
            k1 (v1, v4, v6, v42, ()) σ) (fun v σ => apan v σ R))) (False)) (fun v σ => apan v σ R)))) (fun v σ => apan v σ R))) (fun v σ => apan v σ R)))) (fun v σ => apan v σ R))) (fun v σ => apan v σ R))) (fun v σ => apan v σ R))) (fun v σ => apan v σ R))) (fun v σ => apan v σ R)))) (fun v σ => apan v σ R))
def x11 : Sx := .box (.var 0) (.og (.lodA 2 (.var 0)) (.call 27 [(.var 0), (.lit (.val (.int .i64 1048576)))] (.og (.ibin .lss (.var 0) (.lit (.val (.int .i64 0)))) (.apick (.var 0) (.ret (.lit (.val (.bool true)))) (.og (.lodA 2 (.var 3)) (.call 29 [(.var 0)] (.call 45 [(.var 0)] (.new [(.val (.int .i64 0)), (.val (.slice none 0 0))] (.sto 2 (.var 0) (.var 1) (.og (.lodA 2 (.var 7)) (.call 29 [(.var 0)] (.new [(.val (.int .i64 0)), (.val (.slice none 0 0))] (.sto 2 (.var 0) (.var 1) (.og (.lodA 2 (.var 0)) (.call 46 [(.var 0)] (.new [(.val (.int .i64 0)), (.val (.slice none 0 0))] (.sto 2 (.var 0) (.var 1) (.og (.lodA 2 (.var 0)) (.og (.lodA 2 (.var 7)) (.call 47 [(.var 1), (.var 0)] (.og (.aun .not (.var 0)) (.apick (.var 0) (.ret (.lit (.val (.bool false)))) (.ord [0, 1, 2, 3, 4] [0, 0, 2, 7, 15] (.og (.lodA 2 (.var 7)) (.og (.lodA 2 (.var 18)) (.call 29 [(.var 0)] (.wat [⟨none, (.lodA 2 (.var 10)), (.var 2)⟩] (.call 31 [(.var 2), (.var 0)] (.wat [] (.og (.aun .not (.var 0)) (.apick (.var 0) (.ret (.lit (.val (.bool false)))) (.og (.lodA 2 (.var 12)) (.call 48 [(.var 0), (.lit (.val (.int .i64 1)))] (.jn 16381 [1, 4, 6, 42] (.apick (.var 3) (.ret (.lit (.val (.bool false)))) (.og (.lodA 2 (.var 2)) (.call 49 [(.var 0), (.lit (.val (.int .i64 1)))] (.og (.lodA 2 (.var 4)) (.call 50 [(.var 0), (.lit (.val (.int .i64 1)))] (.og (.ibin .lss (.var 0) (.lit (.val (.int .i64 0)))) (.apick (.var 0) (.ret (.lit (.val (.bool false)))) (.og (.ibin .neq (.var 1) (.var 3)) (.apick (.var 0) (.ret (.lit (.val (.bool false)))) (.og (.lodA 2 (.var 6)) (.call 29 [(.var 0)] (.call 46 [(.var 0)] (.new [(.val (.int .i64 0)), (.val (.slice none 0 0))] (.sto 2 (.var 0) (.var 1) (.og (.lodA 2 (.var 0)) (.og (.lodA 2 (.var 12)) (.call 47 [(.var 1), (.var 0)] (.og (.aun .not (.var 0)) (.apick (.var 0) (.ret (.lit (.val (.bool false)))) (.og (.lodA 2 (.var 16)) (.call 50 [(.var 0), (.lit (.val (.int .i64 1)))] (.og (.ibin .lss (.var 0) (.lit (.val (.int .i64 0)))) (.apick (.var 0) (.ret (.lit (.val (.bool false)))) (.og (.ibin .neq (.var 1) (.var 15)) (.apick (.var 0) (.ret (.lit (.val (.bool false)))) (.ret (.lit (.val (.bool true))))))))))))))))))))))))))))) (.og (.ibin .lss (.var 0) (.lit (.val (.int .i64 0)))) (.gog (.var 0) false false (.lodA 2 (.var 12)) (.gog (.var 1) false false (.lodA 2 (.var 19)) (.gpick (.var 2) (.og (.pickV (.lit (.val (.bool true))) (.lit (.val (.bool true))) (.lit (.tup []))) (.jump 0 [(.var 28), (.var 21), (.var 15), (.var 0)])) (.call 47 [(.var 1), (.var 0)] (.og (.aun .not (.var 0)) (.og (.pickV (.lit (.val (.bool false))) (.lit (.val (.bool true))) (.var 0)) (.jump 0 [(.var 30), (.var 23), (.var 17), (.var 0)])))) (.no)))))))))))))))))))))))))))))))))))))))
set_option maxRecDepth 1000000 in
theorem x11_ok : okF TT Try.f11 1 x11 = true := by decide +kernel
set_option maxRecDepth 1000000 in
theorem s_laws_FnExactListSegs_ok {a0 : AV} {σ : AH} {R : AEnd → AH → Prop} (h : s_laws_FnExactListSegs a0 σ R) : acall TP fn_laws_FnExactListSegs [a0] σ R :=
  acall_okF (ρ := [a0]) TT_ok Try.func11 rfl x11 x11_ok rfl h

/-- loop.example/g00349/laws.FnResizes -/
def s_laws_FnResizes (a0 : AV) (σ : AH) (R : AEnd → AH → Prop) : Prop :=
  acall TP fn_laws_lwBig [a0] σ (onr (fun v10 σ =>
  apick v10 (
    aret (.val (.bool true)) σ R) (
    acall TP fn_spec_DrawResizeSegs [a0] σ (onr (fun v13 σ =>
    og (aext v13 0) fun v14 =>
    og (aext v13 1) fun v15 =>
    new [(.val (.int .i64 0)), (.val (.slice none 0 0))] σ fun v3 σ =>
    sto 2 v3 v14 σ fun σ =>
    og (lodA 2 v3 σ) fun v16 =>
    acall TP fn_impl_ResizeSegs [v16, v15] σ (onr (fun v18 σ =>
    new [(.val (.int .i64 0)), (.val (.int .i64 0)), (.val (.int .i64 0)), (.val (.slice none 0 0))] σ fun v5 σ =>
    sto 4 v5 v18 σ fun σ =>
    og (fldA 0 v5) fun v19 =>
    og (lod v19 σ) fun v20 =>
    og (ibin .neq v20 (.val (.int .i64 0))) fun v21 =>
    apick v21 (
      og (lodA 2 v3 σ) fun v22 =>
      og (fldA 0 v5) fun v26 =>
      og (lod v26 σ) fun v27 =>
      acall TP fn_spec_ResizeSegs [v22, v15] σ (onr (fun v24 σ =>
      (lod v26 σ = some v27 ∧ True) ∧
      og (fldV 0 v24) fun v25 =>
      og (ibin .eql v25 v27) fun v28 =>
      aret v28 σ R) (fun v σ => apan v σ R))) (
      og (lodA 2 v3 σ) fun v29 =>
      acall TP fn_impl_ListSegs [v29] σ (onr (fun v30 σ =>
      new [(.val (.int .i64 0)), (.val (.slice none 0 0))] σ fun v6 σ =>
      sto 2 v6 v30 σ fun σ =>
      og (fldA 1 v6) fun v32 =>
      og (lod v32 σ) fun v33 =>
      acall TP fn_impl_OpenSegs [v15, v33] σ (onr (fun v34 σ =>
      new [(.val (.int .i64 0)), (.val (.int .i64 0)), (.val (.int .i64 0)), (.val (.slice none 0 0))] σ fun v7 σ =>
      sto 4 v7 v34 σ fun σ =>
      og (fldA 2 v5) fun v35 =>
      og (lodA 2 v35 σ) fun v36 =>
      og (fldA 0 v3) fun v37 =>
      og (lod v37 σ) fun v38 =>
      acall TP fn_impl_ResizeSegs [v36, v38] σ (onr (fun v39 σ =>
      new [(.val (.int .i64 0)), (.val (.int .i64 0)), (.val (.int .i64 0)), (.val (.slice none 0 0))] σ fun v8 σ =>
      sto 4 v8 v39 σ fun σ =>
      jn (X := Tup [2]) (fun x1 σ =>
          aret x1.1 σ R) fun k1 =>
        og (fldA 2 v5) fun v40 =>
        og (lodA 2 v40 σ) fun v41 =>
        acall TP fn_impl_SegsFault [v41] σ (onr (fun v42 σ =>
        (True) ∧
        og (ibin .eql v42 (.val (.int .i64 0))) fun v43 =>
        og (gval v43 true false (fldA 2 v5)) fun v45 =>
        og (gval v43 true false (lodA 2 v45 σ)) fun v46 =>
        og (gval v43 true false (fldA 1 v6)) fun v49 =>
        og (gval v43 true false (lod v49 σ)) fun v50 =>
        gpick v43 (
          acall TP fn_impl_ListSegs [v46] σ (onr (fun v47 σ =>
          (lod v49 σ = some v50 ∧ True) ∧
          og (fldV 1 v47) fun v48 =>
          acall TP fn_laws_lwNums [v48, v50] σ (onr (fun v51 σ =>
          (True) ∧
          og (pickV (.val (.bool true)) v51 (.val (.bool false))) fun v52 =>
          og (gval v52 true false (fldA 0 v7)) fun v54 =>
          og (gval v52 true false (lod v54 σ)) fun v55 =>
          og (gval v52 true false (ibin .eql v55 (.val (.int .i64 0)))) fun v56 =>
          og (pickV v52 v56 (.val (.bool false))) fun v57 =>
          og (gval v57 true false (fldA 2 v7)) fun v59 =>
          og (gval v57 true false (lodA 2 v59 σ)) fun v60 =>
          og (gval v57 true false (fldA 1 v6)) fun v63 =>
          og (gval v57 true false (lod v63 σ)) fun v64 =>
          gpick v57 (
            acall TP fn_impl_ListSegs [v60] σ (onr (fun v61 σ =>
            (lod v63 σ = some v64 ∧ True) ∧
            og (fldV 1 v61) fun v62 =>
            acall TP fn_laws_lwNums [v62, v64] σ (onr (fun v65 σ =>
            (True) ∧
            og (pickV (.val (.bool true)) v65 (.val (.bool false))) fun v66 =>
            og (gval v66 true false (fldA 2 v8)) fun v68 =>
            og (gval v66 true false (fldA 1 v68)) fun v69 =>
            og (gval v66 true false (lod v69 σ)) fun v70 =>
            og (gval v66 true false (lenS v70)) fun v71 =>
            og (gval v66 true false (fldA 1 v3)) fun v72 =>
            og (gval v66 true false (lod v72 σ)) fun v73 =>
            og (gval v66 true false (lenS v73)) fun v74 =>
            og (gval v66 true false (ibin .eql v71 v74)) fun v75 =>
            og (pickV v66 v75 (.val (.bool false))) fun v76 =>
            og (gval v76 true false (fldA 2 v8)) fun v78 =>
            og (gval v76 true false (lodA 2 v78 σ)) fun v79 =>
            og (gval v76 true false (lodA 2 v3 σ)) fun v82 =>
            gpick v76 (
              acall TP fn_impl_DepthSegs [v79] σ (onr (fun v80 σ =>
              (lodA 2 v3 σ = some v82 ∧ True) ∧
              og (fldV 1 v80) fun v81 =>
              acall TP fn_impl_DepthSegs [v82] σ (onr (fun v83 σ =>
              (True) ∧
              og (fldV 1 v83) fun v84 =>
              og (ibin .eql v81 v84) fun v85 =>
              og (pickV (.val (.bool true)) v85 (.val (.bool false))) fun v86 =>
              og (gval v86 true false (some v15)) fun v88 =>
              og (gval v86 true false (bld [(.val (.int .i64 0)), (.val (.slice none 0 0))] [(0, 1), (1, 1)] [(0, v88)])) fun v89 =>
              gpick v86 (
                acall TP fn_impl_PopSegs [v89] σ (onr (fun v90 σ =>
                (True) ∧
                og (fldV 0 v90) fun v91 =>
                og (ibin .eql v91 (.val (.int .i64 4))) fun v92 =>
                og (pickV (.val (.bool true)) v92 (.val (.bool false))) fun v93 =>
                k1 (v93, ()) σ) (fun v σ => apan v σ R))) (
                og (pickV (.val (.bool false)) (.tup []) (.val (.bool false))) fun v93 =>
                k1 (v93, ()) σ) (False)) (fun v σ => apan v σ R))) (fun v σ => apan v σ R))) (
              og (pickV (.val (.bool false)) (.tup []) (.val (.bool false))) fun v86 =>
              og (gval v86 true false (some v15)) fun v88 =>
              og (gval v86 true false (bld [(.val (.int .i64 0)), (.val (.slice none 0 0))] [(0, 1), (1, 1)] [(0, v88)])) fun v89 =>
              gpick v86 (
                acall TP fn_impl_PopSegs [v89] σ (onr (fun v90 σ =>
                (True) ∧
                og (fldV 0 v90) fun v91 =>
                og (ibin .eql v91 (.val (.int .i64 4))) fun v92 =>
                og (pickV (.val (.bool true)) v92 (.val (.bool false))) fun v93 =>
                k1 (v93, ()) σ) (fun v σ => apan v σ R))) (
                og (pickV (.val (.bool false)) (.tup []) (.val (.bool false))) fun v93 =>
                k1 (v93, ()) σ) (False)) (False)) (fun v σ => apan v σ R))) (fun v σ => apan v σ R))) (
            og (pickV (.val (.bool false)) (.tup []) (.val (.bool false))) fun v66 =>
            og (gval v66 true false (fldA 2 v8)) fun v68 =>
            og (gval v66 true false (fldA 1 v68)) fun v69 =>
            og (gval v66 true false (lod v69 σ)) fun v70 =>
            og (gval v66 true false (lenS v70)) fun v71 =>
            og (gval v66 true false (fldA 1 v3)) fun v72 =>
            og (gval v66 true false (lod v72 σ)) fun v73 =>
            og (gval v66 true false (lenS v73)) fun v74 =>
            og (gval v66 true false (ibin .eql v71 v74)) fun v75 =>
            og (pickV v66 v75 (.val (.bool false))) fun v76 =>
            og (gval v76 true false (fldA 2 v8)) fun v78 =>
            og (gval v76 true false (lodA 2 v78 σ)) fun v79 =>
            og (gval v76 true false (lodA 2 v3 σ)) fun v82 =>
            gpick v76 (
              acall TP fn_impl_DepthSegs [v79] σ (onr (fun v80 σ =>
              (lodA 2 v3 σ = some v82 ∧ True) ∧
              og (fldV 1 v80) fun v81 =>
              acall TP fn_impl_DepthSegs [v82] σ (onr (fun v83 σ =>
              (True) ∧
              og (fldV 1 v83) fun v84 =>
              og (ibin .eql v81 v84) fun v85 =>
              og (pickV (.val (.bool true)) v85 (.val (.bool false))) fun v86 =>
              og (gval v86 true false (some v15)) fun v88 =>
              og (gval v86 true false (bld [(.val (.int .i64 0)), (.val (.slice none 0 0))] [(0, 1), (1, 1)] [(0, v88)])) fun v89 =>
              gpick v86 (
                acall TP fn_impl_PopSegs [v89] σ (onr (fun v90 σ =>
                (True) ∧
                og (fldV 0 v90) fun v91 =>
                og (ibin .eql v91 (.val (.int .i64 4))) fun v92 =>
                og (pickV (.val (.bool true)) v92 (.val (.bool false))) fun v93 =>
                k1 (v93, ()) σ) (fun v σ => apan v σ R))) (
                og (pickV (.val (.bool false)) (.tup []) (.val (.bool false))) fun v93 =>
                k1 (v93, ()) σ) (False)) (fun v σ => apan v σ R))) (fun v σ => apan v σ R))) (
              og (pickV (.val (.bool false)) (.tup []) (.val (.bool false))) fun v86 =>
              og (gval v86 true false (some v15)) fun v88 =>
              og (gval v86 true false (bld [(.val (.int .i64 0)), (.val (.slice none 0 0))] [(0, 1), (1, 1)] [(0, v88)])) fun v89 =>
              gpick v86 (
                acall TP fn_impl_PopSegs [v89] σ (onr (fun v90 σ =>
                (True) ∧
                og (fldV 0 v90) fun v91 =>
                og (ibin .eql v91 (.val (.int .i64 4))) fun v92 =>
                og (pickV (.val (.bool true)) v92 (.val (.bool false))) fun v93 =>
                k1 (v93, ()) σ) (fun v σ => apan v σ R))) (
                og (pickV (.val (.bool false)) (.tup []) (.val (.bool false))) fun v93 =>
                k1 (v93, ()) σ) (False)) (False)) (False)) (fun v σ => apan v σ R))) (fun v σ => apan v σ R))) (
          og (pickV (.val (.bool false)) (.tup []) (.val (.bool false))) fun v52 =>
          og (gval v52 true false (fldA 0 v7)) fun v54 =>
          og (gval v52 true false (lod v54 σ)) fun v55 =>
          og (gval v52 true false (ibin .eql v55 (.val (.int .i64 0)))) fun v56 =>
          og (pickV v52 v56 (.val (.bool false))) fun v57 =>
          og (gval v57 true false (fldA 2 v7)) fun v59 =>
          og (gval v57 true false (lodA 2 v59 σ)) fun v60 =>
          og (gval v57 true false (fldA 1 v6)) fun v63 =>
          og (gval v57 true false (lod v63 σ)) fun v64 =>
          gpick v57 (
            acall TP fn_impl_ListSegs [v60] σ (onr (fun v61 σ =>
            (lod v63 σ = some v64 ∧ True) ∧
            og (fldV 1 v61) fun v62 =>
            acall TP fn_laws_lwNums [v62, v64] σ (onr (fun v65 σ =>
            (True) ∧
            og (pickV (.val (.bool true)) v65 (.val (.bool false))) fun v66 =>
            og (gval v66 true false (fldA 2 v8)) fun v68 =>
            og (gval v66 true false (fldA 1 v68)) fun v69 =>
            og (gval v66 true false (lod v69 σ)) fun v70 =>
            og (gval v66 true false (lenS v70)) fun v71 =>
            og (gval v66 true false (fldA 1 v3)) fun v72 =>
            og (gval v66 true false (lod v72 σ)) fun v73 =>
            og (gval v66 true false (lenS v73)) fun v74 =>
            og (gval v66 true false (ibin .eql v71 v74)) fun v75 =>
            og (pickV v66 v75 (.val (.bool false))) fun v76 =>
            og (gval v76 true false (fldA 2 v8)) fun v78 =>
            og (gval v76 true false (lodA 2 v78 σ)) fun v79 =>
            og (gval v76 true false (lodA 2 v3 σ)) fun v82 =>
            gpick v76 (
              acall TP fn_impl_DepthSegs [v79] σ (onr (fun v80 σ =>
              (lodA 2 v3 σ = some v82 ∧ True) ∧
              og (fldV 1 v80) fun v81 =>
              acall TP fn_impl_DepthSegs [v82] σ (onr (fun v83 σ =>
              (True) ∧
              og (fldV 1 v83) fun v84 =>
              og (ibin .eql v81 v84) fun v85 =>
              og (pickV (.val (.bool true)) v85 (.val (.bool false))) fun v86 =>
              og (gval v86 true false (some v15)) fun v88 =>
              og (gval v86 true false (bld [(.val (.int .i64 0)), (.val (.slice none 0 0))] [(0, 1), (1, 1)] [(0, v88)])) fun v89 =>
              gpick v86 (
                acall TP fn_impl_PopSegs [v89] σ (onr (fun v90 σ =>
                (True) ∧
                og (fldV 0 v90) fun v91 =>
                og (ibin .eql v91 (.val (.int .i64 4))) fun v92 =>
                og (pickV (.val (.bool true)) v92 (.val (.bool false))) fun v93 =>
                k1 (v93, ()) σ) (fun v σ => apan v σ R))) (
                og (pickV (.val (.bool false)) (.tup []) (.val (.bool false))) fun v93 =>
                k1 (v93, ()) σ) (False)) (fun v σ => apan v σ R))) (fun v σ => apan v σ R))) (
              og (pickV (.val (.bool false)) (.tup []) (.val (.bool false))) fun v86 =>
              og (gval v86 true false (some v15)) fun v88 =>
              og (gval v86 true false (bld [(.val (.int .i64 0)), (.val (.slice none 0 0))] [(0, 1), (1, 1)] [(0, v88)])) fun v89 =>
              gpick v86 (
                acall TP fn_impl_PopSegs [v89] σ (onr (fun v90 σ =>
                (True) ∧
                og (fldV 0 v90) fun v91 =>
                og (ibin .eql v91 (.val (.int .i64 4))) fun v92 =>
                og (pickV (.val (.bool true)) v92 (.val (.bool false))) fun v93 =>
                k1 (v93, ()) σ) (fun v σ => apan v σ R))) (
                og (pickV (.val (.bool false)) (.tup []) (.val (.bool false))) fun v93 =>
                k1 (v93, ()) σ) (False)) (False)) (fun v σ => apan v σ R))) (fun v σ => apan v σ R))) (
            og (pickV (.val (.bool false)) (.tup []) (.val (.bool false))) fun v66 =>
            og (gval v66 true false (fldA 2 v8)) fun v68 =>
            og (gval v66 true false (fldA 1 v68)) fun v69 =>
            og (gval v66 true false (lod v69 σ)) fun v70 =>
            og (gval v66 true false (lenS v70)) fun v71 =>
            og (gval v66 true false (fldA 1 v3)) fun v72 =>
            og (gval v66 true false (lod v72 σ)) fun v73 =>
            og (gval v66 true false (lenS v73)) fun v74 =>
            og (gval v66 true false (ibin .eql v71 v74)) fun v75 =>
            og (pickV v66 v75 (.val (.bool false))) fun v76 =>
            og (gval v76 true false (fldA 2 v8)) fun v78 =>
            og (gval v76 true false (lodA 2 v78 σ)) fun v79 =>
            og (gval v76 true false (lodA 2 v3 σ)) fun v82 =>
            gpick v76 (
              acall TP fn_impl_DepthSegs [v79] σ (onr (fun v80 σ =>
              (lodA 2 v3 σ = some v82 ∧ True) ∧
              og (fldV 1 v80) fun v81 =>
              acall TP fn_impl_DepthSegs [v82] σ (onr (fun v83 σ =>
              (True) ∧
              og (fldV 1 v83) fun v84 =>
              og (ibin .eql v81 v84) fun v85 =>
              og (pickV (.val (.bool true)) v85 (.val (.bool false))) fun v86 =>
              og (gval v86 true false (some v15)) fun v88 =>
              og (gval v86 true false (bld [(.val (.int .i64 0)), (.val (.slice none 0 0))] [(0, 1), (1, 1)] [(0, v88)])) fun v89 =>
              gpick v86 (
                acall TP fn_impl_PopSegs [v89] σ (onr (fun v90 σ =>
                (True) ∧
                og (fldV 0 v90) fun v91 =>
                og (ibin .eql v91 (.val (.int .i64 4))) fun v92 =>
                og (pickV (.val (.bool true)) v92 (.val (.bool false))) fun v93 =>
                k1 (v93, ()) σ) (fun v σ => apan v σ R))) (
                og (pickV (.val (.bool false)) (.tup []) (.val (.bool false))) fun v93 =>
                k1 (v93, ()) σ) (False)) (fun v σ => apan v σ R))) (fun v σ => apan v σ R))) (
              og (pickV (.val (.bool false)) (.tup []) (.val (.bool false))) fun v86 =>
              og (gval v86 true false (some v15)) fun v88 =>
              og (gval v86 true false (bld [(.val (.int .i64 0)), (.val (.slice none 0 0))] [(0, 1), (1, 1)] [(0, v88)])) fun v89 =>
              gpick v86 (
                acall TP fn_impl_PopSegs [v89] σ (onr (fun v90 σ =>
                (True) ∧
                og (fldV 0 v90) fun v91 =>
                og (ibin .eql v91 (.val (.int .i64 4))) fun v92 =>
                og (pickV (.val (.bool true)) v92 (.val (.bool false))) fun v93 =>
                k1 (v93, ()) σ) (fun v σ => apan v σ R))) (
                og (pickV (.val (.bool false)) (.tup []) (.val (.bool false))) fun v93 =>
                k1 (v93, ()) σ) (False)) (False)) (False)) (False)) (fun v σ => apan v σ R))) (fun v σ => apan v σ R))) (fun v σ => apan v σ R))) (fun v σ => apan v σ R)))) (fun v σ => apan v σ R))) (fun v σ => apan v σ R)))) (fun v σ => apan v σ R))
def x12 : Sx := .call 32 [(.var 0)] (.apick (.var 0) (.ret (.lit (.val (.bool true)))) (.call 51 [(.var 1)] (.og (.aext (.var 0) 0) (.og (.aext (.var 1) 1) (.new [(.val (.int .i64 0)), (.val (.slice none 0 0))] (.sto 2 (.var 0) (.var 2) (.og (.lodA 2 (.var 0)) (.call 52 [(.var 0), (.var 2)] (.new [(.val (.int .i64 0)), (.val (.int .i64 0)), (.val (.int .i64 0)), (.val (.slice none 0 0))] (.sto 4 (.var 0) (.var 1) (.og (.fldA 0 (.var 0)) (.og (.lod (.var 0)) (.og (.ibin .neq (.var 0) (.lit (.val (.int .i64 0)))) (.apick (.var 0) (.ord [0, 1, 4, 5, 2, 3, 6, 7] [0, 0, 3, 7, 0, 16, 63, 127] (.og (.lodA 2 (.var 6)) (.og (.fldA 0 (.var 4)) (.og (.lod (.var 0)) (.call 53 [(.var 2), (.var 10)] (.wat [⟨none, (.lod (.var 2)), (.var 1)⟩] (.og (.fldV 0 (.var 0)) (.og (.ibin .eql (.var 0) (.var 2)) (.ret (.var 0)))))))))) (.og (.lodA 2 (.var 6)) (.call 46 [(.var 0)] (.new [(.val (.int .i64 0)), (.val (.slice none 0 0))] (.sto 2 (.var 0) (.var 1) (.og (.fldA 1 (.var 0)) (.og (.lod (.var 0)) (.call 39 [(.var 12), (.var 0)] (.new [(.val (.int .i64 0)), (.val (.int .i64 0)), (.val (.int .i64 0)), (.val (.slice none 0 0))] (.sto 4 (.var 0) (.var 1) (.og (.fldA 2 (.var 10)) (.og (.lodA 2 (.var 0)) (.og (.fldA 0 (.var 15)) (.og (.lod (.var 0)) (.call 52 [(.var 2), (.var 0)] (.new [(.val (.int .i64 0)), (.val (.int .i64 0)), (.val (.int .i64 0)), (.val (.slice none 0 0))] (.sto 4 (.var 0) (.var 1) (.jn 1023 [2] (.ret (.var 0)) (.ord [0, 1, 2, 3, 4, 5, 6, 9, 10, 7, 8, 11, 12, 13, 14, 15, 16, 17, 18, 19, 20, 23, 24, 21, 22, 25, 26, 27, 28, 29, 30, 31, 32, 33, 34, 35, 36, 37, 38, 39, 42, 40, 41, 43, 44, 45, 46, 47, 48, 49, 50, 51, 52, 53, 54] [0, 1, 3, 7, 15, 31, 63, 127, 255, 31, 543, 2047, 4095, 8191, 16383, 32767, 65535, 131071, 262143, 524287, 1048575, 2097151, 4194303, 524287, 8912895, 33554431, 67108863, 134217727, 268435455, 536870911, 1073741823, 2147483647, 268435455, 4563402751, 13153337343, 34359738367, 68719476735, 137438953471, 274877906943, 549755813887, 1099511627775, 2199023255551, 274877906943, 6597069766655, 15393162788863, 35184372088831, 70368744177663, 140737488355327, 281474976710655, 562949953421311, 1125899906842623, 2251799813685247, 4503599627370495, 9007199254740991, 18014398509481983] (.og (.fldA 2 (.var 16)) (.og (.lodA 2 (.var 0)) (.call 30 [(.var 0)] (.wat [] (.og (.ibin .eql (.var 0) (.lit (.val (.int .i64 0)))) (.gog (.var 0) true false (.fldA 2 (.var 20)) (.gog (.var 1) true false (.lodA 2 (.var 0)) (.gog (.var 2) true false (.fldA 1 (.var 16)) (.gog (.var 3) true false (.lod (.var 0)) (.gpick (.var 4) (.call 46 [(.var 2)] (.wat [⟨none, (.lod (.var 2)), (.var 1)⟩] (.og (.fldV 1 (.var 0)) (.call 54 [(.var 0), (.var 2)] (.wat [] (.og (.pickV (.lit (.val (.bool true))) (.var 0) (.lit (.val (.bool false)))) (.gog (.var 0) true false (.fldA 0 (.var 18)) (.gog (.var 1) true false (.lod (.var 0)) (.gog (.var 2) true false (.ibin .eql (.var 0) (.lit (.val (.int .i64 0)))) (.og (.pickV (.var 3) (.var 0) (.lit (.val (.bool false)))) (.gog (.var 0) true false (.fldA 2 (.var 22)) (.gog (.var 1) true false (.lodA 2 (.var 0)) (.gog (.var 2) true false (.fldA 1 (.var 28)) (.gog (.var 3) true false (.lod (.var 0)) (.gpick (.var 4) (.call 46 [(.var 2)] (.wat [⟨none, (.lod (.var 2)), (.var 1)⟩] (.og (.fldV 1 (.var 0)) (.call 54 [(.var 0), (.var 2)] (.wat [] (.og (.pickV (.lit (.val (.bool true))) (.var 0) (.lit (.val (.bool false)))) (.gog (.var 0) true false (.fldA 2 (.var 24)) (.gog (.var 1) true false (.fldA 1 (.var 0)) (.gog (.var 2) true false (.lod (.var 0)) (.gog (.var 3) true false (.lenS (.var 0)) (.gog (.var 4) true false (.fldA 1 (.var 47)) (.gog (.var 5) true false (.lod (.var 0)) (.gog (.var 6) true false (.lenS (.var 0)) (.gog (.var 7) true false (.ibin .eql (.var 3) (.var 0)) (.og (.pickV (.var 8) (.var 0) (.lit (.val (.bool false)))) (.gog (.var 0) true false (.fldA 2 (.var 33)) (.gog (.var 1) true false (.lodA 2 (.var 0)) (.gog (.var 2) true false (.lodA 2 (.var 54)) (.gpick (.var 3) (.call 36 [(.var 1)] (.wat [⟨none, (.lodA 2 (.var 56)), (.var 1)⟩] (.og (.fldV 1 (.var 0)) (.call 36 [(.var 2)] (.wat [] (.og (.fldV 1 (.var 0)) (.og (.ibin .eql (.var 2) (.var 0)) (.og (.pickV (.lit (.val (.bool true))) (.var 0) (.lit (.val (.bool false)))) (.gog (.var 0) true false (.ret (.var 62)) (.gog (.var 1) true false (.bld [(.val (.int .i64 0)), (.val (.slice none 0 0))] [(0, 1), (1, 1)] [(0, (.var 0))]) (.gpick (.var 2) (.call 55 [(.var 0)] (.wat [] (.og (.fldV 0 (.var 0)) (.og (.ibin .eql (.var 0) (.lit (.val (.int .i64 4)))) (.og (.pickV (.lit (.val (.bool true))) (.var 0) (.lit (.val (.bool false)))) (.jump 0 [(.var 0)])))))) (.og (.pickV (.lit (.val (.bool false))) (.lit (.tup [])) (.lit (.val (.bool false)))) (.jump 0 [(.var 0)])) (.no)))))))))))) (.og (.pickV (.lit (.val (.bool false))) (.lit (.tup [])) (.lit (.val (.bool false)))) (.gog (.var 0) true false (.ret (.var 57)) (.gog (.var 1) true false (.bld [(.val (.int .i64 0)), (.val (.slice none 0 0))] [(0, 1), (1, 1)] [(0, (.var 0))]) (.gpick (.var 2) (.call 55 [(.var 0)] (.wat [] (.og (.fldV 0 (.var 0)) (.og (.ibin .eql (.var 0) (.lit (.val (.int .i64 4)))) (.og (.pickV (.lit (.val (.bool true))) (.var 0) (.lit (.val (.bool false)))) (.jump 0 [(.var 0)])))))) (.og (.pickV (.lit (.val (.bool false))) (.lit (.tup [])) (.lit (.val (.bool false)))) (.jump 0 [(.var 0)])) (.no))))) (.no)))))))))))))))))))) (.og (.pickV (.lit (.val (.bool false))) (.lit (.tup [])) (.lit (.val (.bool false)))) (.gog (.var 0) true false (.fldA 2 (.var 21)) (.gog (.var 1) true false (.fldA 1 (.var 0)) (.gog (.var 2) true false (.lod (.var 0)) (.gog (.var 3) true false (.lenS (.var 0)) (.gog (.var 4) true false (.fldA 1 (.var 44)) (.gog (.var 5) true false (.lod (.var 0)) (.gog (.var 6) true false (.lenS (.var 0)) (.gog (.var 7) true false (.ibin .eql (.var 3) (.var 0)) (.og (.pickV (.var 8) (.var 0) (.lit (.val (.bool false)))) (.gog (.var 0) true false (.fldA 2 (.var 30)) (.gog (.var 1) true false (.lodA 2 (.var 0)) (.gog (.var 2) true false (.lodA 2 (.var 51)) (.gpick (.var 3) (.call 36 [(.var 1)] (.wat [⟨none, (.lodA 2 (.var 53)), (.var 1)⟩] (.og (.fldV 1 (.var 0)) (.call 36 [(.var 2)] (.wat [] (.og (.fldV 1 (.var 0)) (.og (.ibin .eql (.var 2) (.var 0)) (.og (.pickV (.lit (.val (.bool true))) (.var 0) (.lit (.val (.bool false)))) (.gog (.var 0) true false (.ret (.var 59)) (.gog (.var 1) true false (.bld [(.val (.int .i64 0)), (.val (.slice none 0 0))] [(0, 1), (1, 1)] [(0, (.var 0))]) (.gpick (.var 2) (.call 55 [(.var 0)] (.wat [] (.og (.fldV 0 (.var 0)) (.og (.ibin .eql (.var 0) (.lit (.val (.int .i64 4)))) (.og (.pickV (.lit (.val (.bool true))) (.var 0) (.lit (.val (.bool false)))) (.jump 0 [(.var 0)])))))) (.og (.pickV (.lit (.val (.bool false))) (.lit (.tup [])) (.lit (.val (.bool false)))) (.jump 0 [(.var 0)])) (.no)))))))))))) (.og (.pickV (.lit (.val (.bool false))) (.lit (.tup [])) (.lit (.val (.bool false)))) (.gog (.var 0) true false (.ret (.var 54)) (.gog (.var 1) true false (.bld [(.val (.int .i64 0)), (.val (.slice none 0 0))] [(0, 1), (1, 1)] [(0, (.var 0))]) (.gpick (.var 2) (.call 55 [(.var 0)] (.wat [] (.og (.fldV 0 (.var 0)) (.og (.ibin .eql (.var 0) (.lit (.val (.int .i64 4)))) (.og (.pickV (.lit (.val (.bool true))) (.var 0) (.lit (.val (.bool false)))) (.jump 0 [(.var 0)])))))) (.og (.pickV (.lit (.val (.bool false))) (.lit (.tup [])) (.lit (.val (.bool false)))) (.jump 0 [(.var 0)])) (.no))))) (.no))))))))))))))) (.no)))))))))))))))) (.og (.pickV (.lit (.val (.bool false))) (.lit (.tup [])) (.lit (.val (.bool false)))) (.gog (.var 0) true false (.fldA 0 (.var 15)) (.gog (.var 1) true false (.lod (.var 0)) (.gog (.var 2) true false (.ibin .eql (.var 0) (.lit (.val (.int .i64 0)))) (.og (.pickV (.var 3) (.var 0) (.lit (.val (.bool false)))) (.gog (.var 0) true false (.fldA 2 (.var 19)) (.gog (.var 1) true false (.lodA 2 (.var 0)) (.gog (.var 2) true false (.fldA 1 (.var 25)) (.gog (.var 3) true false (.lod (.var 0)) (.gpick (.var 4) (.call 46 [(.var 2)] (.wat [⟨none, (.lod (.var 2)), (.var 1)⟩] (.og (.fldV 1 (.var 0)) (.call 54 [(.var 0), (.var 2)] (.wat [] (.og (.pickV (.lit (.val (.bool true))) (.var 0) (.lit (.val (.bool false)))) (.gog (.var 0) true false (.fldA 2 (.var 21)) (.gog (.var 1) true false (.fldA 1 (.var 0)) (.gog (.var 2) true false (.lod (.var 0)) (.gog (.var 3) true false (.lenS (.var 0)) (.gog (.var 4) true false (.fldA 1 (.var 44)) (.gog (.var 5) true false (.lod (.var 0)) (.gog (.var 6) true false (.lenS (.var 0)) (.gog (.var 7) true false (.ibin .eql (.var 3) (.var 0)) (.og (.pickV (.var 8) (.var 0) (.lit (.val (.bool false)))) (.gog (.var 0) true false (.fldA 2 (.var 30)) (.gog (.var 1) true false (.lodA 2 (.var 0)) (.gog (.var 2) true false (.lodA 2 (.var 51)) (.gpick (.var 3) (.call 36 [(.var 1)] (.wat [⟨none, (.lodA 2 (.var 53)), (.var 1)⟩] (.og (.fldV 1 (.var 0)) (.call 36 [(.var 2)] (.wat [] (.og (.fldV 1 (.var 0)) (.og (.ibin .eql (.var 2) (.var 0)) (.og (.pickV (.lit (.val (.bool true))) (.var 0) (.lit (.val (.bool false)))) (.gog (.var 0) true false (.ret (.var 59)) (.gog (.var 1) true false (.bld [(.val (.int .i64 0)), (.val (.slice none 0 0))] [(0, 1), (1, 1)] [(0, (.var 0))]) (.gpick (.var 2) (.call 55 [(.var 0)] (.wat [] (.og (.fldV 0 (.var 0)) (.og (.ibin .eql (.var 0) (.lit (.val (.int .i64 4)))) (.og (.pickV (.lit (.val (.bool true))) (.var 0) (.lit (.val (.bool false)))) (.jump 0 [(.var 0)])))))) (.og (.pickV (.lit (.val (.bool false))) (.lit (.tup [])) (.lit (.val (.bool false)))) (.jump 0 [(.var 0)])) (.no)))))))))))) (.og (.pickV (.lit (.val (.bool false))) (.lit (.tup [])) (.lit (.val (.bool false)))) (.gog (.var 0) true false (.ret (.var 54)) (.gog (.var 1) true false (.bld [(.val (.int .i64 0)), (.val (.slice none 0 0))] [(0, 1), (1, 1)] [(0, (.var 0))]) (.gpick (.var 2) (.call 55 [(.var 0)] (.wat [] (.og (.fldV 0 (.var 0)) (.og (.ibin .eql (.var 0) (.lit (.val (.int .i64 4)))) (.og (.pickV (.lit (.val (.bool true))) (.var 0) (.lit (.val (.bool false)))) (.jump 0 [(.var 0)])))))) (.og (.pickV (.lit (.val (.bool false))) (.lit (.tup [])) (.lit (.val (.bool false)))) (.jump 0 [(.var 0)])) (.no))))) (.no)))))))))))))))))))) (.og (.pickV (.lit (.val (.bool false))) (.lit (.tup [])) (.lit (.val (.bool false)))) (.gog (.var 0) true false (.fldA 2 (.var 18)) (.gog (.var 1) true false (.fldA 1 (.var 0)) (.gog (.var 2) true false (.lod (.var 0)) (.gog (.var 3) true false (.lenS (.var 0)) (.gog (.var 4) true false (.fldA 1 (.var 41)) (.gog (.var 5) true false (.lod (.var 0)) (.gog (.var 6) true false (.lenS (.var 0)) (.gog (.var 7) true false (.ibin .eql (.var 3) (.var 0)) (.og (.pickV (.var 8) (.var 0) (.lit (.val (.bool false)))) (.gog (.var 0) true false (.fldA 2 (.var 27)) (.gog (.var 1) true false (.lodA 2 (.var 0)) (.gog (.var 2) true false (.lodA 2 (.var 48)) (.gpick (.var 3) (.call 36 [(.var 1)] (.wat [⟨none, (.lodA 2 (.var 50)), (.var 1)⟩] (.og (.fldV 1 (.var 0)) (.call 36 [(.var 2)] (.wat [] (.og (.fldV 1 (.var 0)) (.og (.ibin .eql (.var 2) (.var 0)) (.og (.pickV (.lit (.val (.bool true))) (.var 0) (.lit (.val (.bool false)))) (.gog (.var 0) true false (.ret (.var 56)) (.gog (.var 1) true false (.bld [(.val (.int .i64 0)), (.val (.slice none 0 0))] [(0, 1), (1, 1)] [(0, (.var 0))]) (.gpick (.var 2) (.call 55 [(.var 0)] (.wat [] (.og (.fldV 0 (.var 0)) (.og (.ibin .eql (.var 0) (.lit (.val (.int .i64 4)))) (.og (.pickV (.lit (.val (.bool true))) (.var 0) (.lit (.val (.bool false)))) (.jump 0 [(.var 0)])))))) (.og (.pickV (.lit (.val (.bool false))) (.lit (.tup [])) (.lit (.val (.bool false)))) (.jump 0 [(.var 0)])) (.no)))))))))))) (.og (.pickV (.lit (.val (.bool false))) (.lit (.tup [])) (.lit (.val (.bool false)))) (.gog (.var 0) true false (.ret (.var 51)) (.gog (.var 1) true false (.bld [(.val (.int .i64 0)), (.val (.slice none 0 0))] [(0, 1), (1, 1)] [(0, (.var 0))]) (.gpick (.var 2) (.call 55 [(.var 0)] (.wat [] (.og (.fldV 0 (.var 0)) (.og (.ibin .eql (.var 0) (.lit (.val (.int .i64 4)))) (.og (.pickV (.lit (.val (.bool true))) (.var 0) (.lit (.val (.bool false)))) (.jump 0 [(.var 0)])))))) (.og (.pickV (.lit (.val (.bool false))) (.lit (.tup [])) (.lit (.val (.bool false)))) (.jump 0 [(.var 0)])) (.no))))) (.no))))))))))))))) (.no))))))))))) (.no)))))))))))))))))))))))))))))))))))))))))))
set_option maxRecDepth 1000000 in
theorem x12_ok : okF TT Try.f12 1 x12 = true := by decide +kernel
set_option maxRecDepth 1000000 in
theorem s_laws_FnResizes_ok {a0 : AV} {σ : AH} {R : AEnd → AH → Prop} (h : s_laws_FnResizes a0 σ R) : acall TP fn_laws_FnResizes [a0] σ R :=
  acall_okF (ρ := [a0]) TT_ok Try.func12 rfl x12 x12_ok rfl h

/-- loop.example/g00349/laws.FnStacks -/
def s_laws_FnStacks (a0 : AV) (σ : AH) (R : AEnd → AH → Prop) : Prop :=
  acall TP fn_laws_lwBig [a0] σ (onr (fun v11 σ =>
  apick v11 (
    aret (.val (.bool true)) σ R) (
    acall TP fn_spec_DrawPushSegs [a0] σ (onr (fun v14 σ =>
    og (aext v14 0) fun v15 =>
    og (aext v14 1) fun v16 =>
    new [(.val (.int .i64 0)), (.val (.slice none 0 0))] σ fun v3 σ =>
    sto 2 v3 v15 σ fun σ =>
    og (lodA 2 v3 σ) fun v17 =>
    acall TP fn_impl_PushSegs [v17, v16] σ (onr (fun v19 σ =>
    new [(.val (.int .i64 0)), (.val (.int .i64 0)), (.val (.int .i64 0)), (.val (.slice none 0 0))] σ fun v5 σ =>
    sto 4 v5 v19 σ fun σ =>
    og (fldA 0 v5) fun v20 =>
    og (lod v20 σ) fun v21 =>
    og (ibin .neq v21 (.val (.int .i64 0))) fun v22 =>
    apick v22 (
      og (lodA 2 v3 σ) fun v23 =>
      og (fldA 0 v5) fun v27 =>
      og (lod v27 σ) fun v28 =>
      acall TP fn_spec_PushSegs [v23, v16] σ (onr (fun v25 σ =>
      (lod v27 σ = some v28 ∧ True) ∧
      og (fldV 0 v25) fun v26 =>
      og (ibin .eql v26 v28) fun v29 =>
      aret v29 σ R) (fun v σ => apan v σ R))) (
      og (fldA 2 v5) fun v30 =>
      og (lodA 2 v30 σ) fun v31 =>
      acall TP fn_impl_PopSegs [v31] σ (onr (fun v32 σ =>
      new [(.val (.int .i64 0)), (.val (.int .i64 0)), (.val (.int .i64 0)), (.val (.slice none 0 0))] σ fun v6 σ =>
      sto 4 v6 v32 σ fun σ =>
      og (lodA 2 v3 σ) fun v33 =>
      acall TP fn_impl_ListSegs [v33] σ (onr (fun v34 σ =>
      new [(.val (.int .i64 0)), (.val (.slice none 0 0))] σ fun v7 σ =>
      sto 2 v7 v34 σ fun σ =>
      og (fldA 2 v5) fun v35 =>
      og (lodA 2 v35 σ) fun v36 =>
      acall TP fn_impl_ListSegs [v36] σ (onr (fun v37 σ =>
      new [(.val (.int .i64 0)), (.val (.slice none 0 0))] σ fun v8 σ =>
      sto 2 v8 v37 σ fun σ =>
      og (fldA 1 v8) fun v38 =>
      og (lod v38 σ) fun v39 =>
      og (lenS v39) fun v40 =>
      jn (X := Tup [2]) (fun x1 σ =>
          aret x1.1 σ R) fun k1 =>
        og (fldA 2 v5) fun v41 =>
        og (lodA 2 v41 σ) fun v42 =>
        acall TP fn_impl_SegsFault [v42] σ (onr (fun v43 σ =>
        (True) ∧
        og (ibin .eql v43 (.val (.int .i64 0))) fun v44 =>
        og (gval v44 true false (fldA 0 v6)) fun v46 =>
        og (gval v44 true false (lod v46 σ)) fun v47 =>
        og (gval v44 true false (ibin .eql v47 (.val (.int .i64 0)))) fun v48 =>
        og (pickV v44 v48 (.val (.bool false))) fun v49 =>
        og (gval v49 true false (fldA 1 v6)) fun v51 =>
        og (gval v49 true false (lod v51 σ)) fun v52 =>
        og (gval v49 true false (some v16)) fun v53 =>
        og (gval v49 true false (ibin .eql v52 v53)) fun v54 =>
        og (pickV v49 v54 (.val (.bool false))) fun v55 =>
        og (gval v55 true false (some v40)) fun v57 =>
        og (gval v55 true false (fldA 1 v7)) fun v58 =>
        og (gval v55 true false (lod v58 σ)) fun v59 =>
        og (gval v55 true false (lenS v59)) fun v60 =>
        og (gval v55 true false (ibin .add v60 (.val (.int .i64 1)))) fun v61 =>
        og (gval v55 true false (ibin .eql v57 v61)) fun v62 =>
        og (pickV v55 v62 (.val (.bool false))) fun v63 =>
        og (gval v63 true false (fldA 1 v8)) fun v65 =>
        og (gval v63 true false (lod v65 σ)) fun v66 =>
        og (gval v63 true false (some v40)) fun v67 =>
        og (gval v63 true false (ibin .sub v67 (.val (.int .i64 1)))) fun v68 =>
        og (gval v63 true false (idx 1 v66 v68 σ)) fun v69 =>
        og (gval v63 true false (lod v69 σ)) fun v70 =>
        og (gval v63 true false (some v16)) fun v71 =>
        og (gval v63 true false (ibin .eql v70 v71)) fun v72 =>
        og (pickV v63 v72 (.val (.bool false))) fun v73 =>
        og (gval v73 true false (fldA 1 v8)) fun v75 =>
        og (gval v73 true false (lod v75 σ)) fun v76 =>
        og (gval v73 true false (some v40)) fun v77 =>
        og (gval v73 true false (ibin .sub v77 (.val (.int .i64 1)))) fun v78 =>
        og (gval v73 true false (slc 1 v76 none (some v78) none σ)) fun v79 =>
        og (gval v73 true false (fldA 1 v7)) fun v80 =>
        og (gval v73 true false (lod v80 σ)) fun v81 =>
        gpick v73 (
          acall TP fn_laws_lwNums [v79, v81] σ (onr (fun v82 σ =>
          (True) ∧
          og (pickV (.val (.bool true)) v82 (.val (.bool false))) fun v83 =>
          og (gval v83 true false (fldA 2 v6)) fun v85 =>
          og (gval v83 true false (lodA 2 v85 σ)) fun v86 =>
          og (gval v83 true false (fldA 1 v7)) fun v89 =>
          og (gval v83 true false (lod v89 σ)) fun v90 =>
          gpick v83 (
            acall TP fn_impl_ListSegs [v86] σ (onr (fun v87 σ =>
            (lod v89 σ = some v90 ∧ True) ∧
            og (fldV 1 v87) fun v88 =>
            acall TP fn_laws_lwNums [v88, v90] σ (onr (fun v91 σ =>
            (True) ∧
            og (pickV (.val (.bool true)) v91 (.val (.bool false))) fun v92 =>
            og (gval v92 true false (fldA 2 v5)) fun v94 =>
            og (gval v92 true false (lodA 2 v94 σ)) fun v95 =>
            og (gval v92 true false (some v40)) fun v98 =>
            gpick v92 (
              acall TP fn_impl_DepthSegs [v95] σ (onr (fun v96 σ =>
              (True) ∧
              og (fldV 1 v96) fun v97 =>
              og (ibin .eql v97 v98) fun v99 =>
              og (pickV (.val (.bool true)) v99 (.val (.bool false))) fun v100 =>
              og (gval v100 true false (fldA 2 v6)) fun v102 =>
              og (gval v100 true false (lodA 2 v102 σ)) fun v103 =>
              gpick v100 (
                acall TP fn_impl_SegsFault [v103] σ (onr (fun v104 σ =>
                (True) ∧
                og (ibin .eql v104 (.val (.int .i64 0))) fun v105 =>
                og (pickV (.val (.bool true)) v105 (.val (.bool false))) fun v106 =>
                k1 (v106, ()) σ) (fun v σ => apan v σ R))) (
                og (pickV (.val (.bool false)) (.tup []) (.val (.bool false))) fun v106 =>
                k1 (v106, ()) σ) (False)) (fun v σ => apan v σ R))) (
              og (pickV (.val (.bool false)) (.tup []) (.val (.bool false))) fun v100 =>
              og (gval v100 true false (fldA 2 v6)) fun v102 =>
              og (gval v100 true false (lodA 2 v102 σ)) fun v103 =>
              gpick v100 (
                acall TP fn_impl_SegsFault [v103] σ (onr (fun v104 σ =>
                (True) ∧
                og (ibin .eql v104 (.val (.int .i64 0))) fun v105 =>
                og (pickV (.val (.bool true)) v105 (.val (.bool false))) fun v106 =>
                k1 (v106, ()) σ) (fun v σ => apan v σ R))) (
                og (pickV (.val (.bool false)) (.tup []) (.val (.bool false))) fun v106 =>
                k1 (v106, ()) σ) (False)) (False)) (fun v σ => apan v σ R))) (fun v σ => apan v σ R))) (
            og (pickV (.val (.bool false)) (.tup []) (.val (.bool false))) fun v92 =>
            og (gval v92 true false (fldA 2 v5)) fun v94 =>
            og (gval v92 true false (lodA 2 v94 σ)) fun v95 =>
            og (gval v92 true false (some v40)) fun v98 =>
            gpick v92 (
              acall TP fn_impl_DepthSegs [v95] σ (onr (fun v96 σ =>
              (True) ∧
              og (fldV 1 v96) fun v97 =>
              og (ibin .eql v97 v98) fun v99 =>
              og (pickV (.val (.bool true)) v99 (.val (.bool false))) fun v100 =>
              og (gval v100 true false (fldA 2 v6)) fun v102 =>
              og (gval v100 true false (lodA 2 v102 σ)) fun v103 =>
              gpick v100 (
                acall TP fn_impl_SegsFault [v103] σ (onr (fun v104 σ =>
                (True) ∧
                og (ibin .eql v104 (.val (.int .i64 0))) fun v105 =>
                og (pickV (.val (.bool true)) v105 (.val (.bool false))) fun v106 =>
                k1 (v106, ()) σ) (fun v σ => apan v σ R))) (
                og (pickV (.val (.bool false)) (.tup []) (.val (.bool false))) fun v106 =>
                k1 (v106, ()) σ) (False)) (fun v σ => apan v σ R))) (
              og (pickV (.val (.bool false)) (.tup []) (.val (.bool false))) fun v100 =>
              og (gval v100 true false (fldA 2 v6)) fun v102 =>
              og (gval v100 true false (lodA 2 v102 σ)) fun v103 =>
              gpick v100 (
                acall TP fn_impl_SegsFault [v103] σ (onr (fun v104 σ =>
                (True) ∧
                og (ibin .eql v104 (.val (.int .i64 0))) fun v105 =>
                og (pickV (.val (.bool true)) v105 (.val (.bool false))) fun v106 =>
                k1 (v106, ()) σ) (fun v σ => apan v σ R))) (
                og (pickV (.val (.bool false)) (.tup []) (.val (.bool false))) fun v106 =>
                k1 (v106, ()) σ) (False)) (False)) (False)) (fun v σ => apan v σ R))) (
          og (pickV (.val (.bool false)) (.tup []) (.val (.bool false))) fun v83 =>
          og (gval v83 true false (fldA 2 v6)) fun v85 =>
          og (gval v83 true false (lodA 2 v85 σ)) fun v86 =>
          og (gval v83 true false (fldA 1 v7)) fun v89 =>
          og (gval v83 true false (lod v89 σ)) fun v90 =>
          gpick v83 (
            acall TP fn_impl_ListSegs [v86] σ (onr (fun v87 σ =>
            (lod v89 σ = some v90 ∧ True) ∧
            og (fldV 1 v87) fun v88 =>
            acall TP fn_laws_lwNums [v88, v90] σ (onr (fun v91 σ =>
            (True) ∧
            og (pickV (.val (.bool true)) v91 (.val (.bool false))) fun v92 =>
            og (gval v92 true false (fldA 2 v5)) fun v94 =>
            og (gval v92 true false (lodA 2 v94 σ)) fun v95 =>
            og (gval v92 true false (some v40)) fun v98 =>
            gpick v92 (
              acall TP fn_impl_DepthSegs [v95] σ (onr (fun v96 σ =>
              (True) ∧
              og (fldV 1 v96) fun v97 =>
              og (ibin .eql v97 v98) fun v99 =>
              og (pickV (.val (.bool true)) v99 (.val (.bool false))) fun v100 =>
              og (gval v100 true false (fldA 2 v6)) fun v102 =>
              og (gval v100 true false (lodA 2 v102 σ)) fun v103 =>
              gpick v100 (
                acall TP fn_impl_SegsFault [v103] σ (onr (fun v104 σ =>
                (True) ∧
                og (ibin .eql v104 (.val (.int .i64 0))) fun v105 =>
                og (pickV (.val (.bool true)) v105 (.val (.bool false))) fun v106 =>
                k1 (v106, ()) σ) (fun v σ => apan v σ R))) (
                og (pickV (.val (.bool false)) (.tup []) (.val (.bool false))) fun v106 =>
                k1 (v106, ()) σ) (False)) (fun v σ => apan v σ R))) (
              og (pickV (.val (.bool false)) (.tup []) (.val (.bool false))) fun v100 =>
              og (gval v100 true false (fldA 2 v6)) fun v102 =>
              og (gval v100 true false (lodA 2 v102 σ)) fun v103 =>
              gpick v100 (
                acall TP fn_impl_SegsFault [v103] σ (onr (fun v104 σ =>
                (True) ∧
                og (ibin .eql v104 (.val (.int .i64 0))) fun v105 =>
                og (pickV (.val (.bool true)) v105 (.val (.bool false))) fun v106 =>
                k1 (v106, ()) σ) (fun v σ => apan v σ R))) (
                og (pickV (.val (.bool false)) (.tup []) (.val (.bool false))) fun v106 =>
                k1 (v106, ()) σ) (False)) (False)) (fun v σ => apan v σ R))) (fun v σ => apan v σ R))) (
            og (pickV (.val (.bool false)) (.tup []) (.val (.bool false))) fun v92 =>
            og (gval v92 true false (fldA 2 v5)) fun v94 =>
            og (gval v92 true false (lodA 2 v94 σ)) fun v95 =>
            og (gval v92 true false (some v40)) fun v98 =>
            gpick v92 (
              acall TP fn_impl_DepthSegs [v95] σ (onr (fun v96 σ =>
              (True) ∧
              og (fldV 1 v96) fun v97 =>
              og (ibin .eql v97 v98) fun v99 =>
              og (pickV (.val (.bool true)) v99 (.val (.bool false))) fun v100 =>
              og (gval v100 true false (fldA 2 v6)) fun v102 =>
              og (gval v100 true false (lodA 2 v102 σ)) fun v103 =>
              gpick v100 (
                acall TP fn_impl_SegsFault [v103] σ (onr (fun v104 σ =>
                (True) ∧
                og (ibin .eql v104 (.val (.int .i64 0))) fun v105 =>
                og (pickV (.val (.bool true)) v105 (.val (.bool false))) fun v106 =>
                k1 (v106, ()) σ) (fun v σ => apan v σ R))) (
                og (pickV (.val (.bool false)) (.tup []) (.val (.bool false))) fun v106 =>
                k1 (v106, ()) σ) (False)) (fun v σ => apan v σ R))) (
              og (pickV (.val (.bool false)) (.tup []) (.val (.bool false))) fun v100 =>
              og (gval v100 true false (fldA 2 v6)) fun v102 =>
              og (gval v100 true false (lodA 2 v102 σ)) fun v103 =>
              gpick v100 (
                acall TP fn_impl_SegsFault [v103] σ (onr (fun v104 σ =>
                (True) ∧
                og (ibin .eql v104 (.val (.int .i64 0))) fun v105 =>
                og (pickV (.val (.bool true)) v105 (.val (.bool false))) fun v106 =>
                k1 (v106, ()) σ) (fun v σ => apan v σ R))) (
                og (pickV (.val (.bool false)) (.tup []) (.val (.bool false))) fun v106 =>
                k1 (v106, ()) σ) (False)) (False)) (False)) (False)) (fun v σ => apan v σ R))) (fun v σ => apan v σ R))) (fun v σ => apan v σ R))) (fun v σ => apan v σ R)))) (fun v σ => apan v σ R))) (fun v σ => apan v σ R)))) (fun v σ => apan v σ R))
def x13 : Sx := .call 32 [(.var 0)] (.apick (.var 0) (.ret (.lit (.val (.bool true)))) (.call 56 [(.var 1)] (.og (.aext (.var 0) 0) (.og (.aext (.var 1) 1) (.new [(.val (.int .i64 0)), (.val (.slice none 0 0))] (.sto 2 (.var 0) (.var 2) (.og (.lodA 2 (.var 0)) (.call 57 [(.var 0), (.var 2)] (.new [(.val (.int .i64 0)), (.val (.int .i64 0)), (.val (.int .i64 0)), (.val (.slice none 0 0))] (.sto 4 (.var 0) (.var 1) (.og (.fldA 0 (.var 0)) (.og (.lod (.var 0)) (.og (.ibin .neq (.var 0) (.lit (.val (.int .i64 0)))) (.apick (.var 0) (.ord [0, 1, 4, 5, 2, 3, 6, 7] [0, 0, 3, 7, 0, 16, 63, 127] (.og (.lodA 2 (.var 6)) (.og (.fldA 0 (.var 4)) (.og (.lod (.var 0)) (.call 58 [(.var 2), (.var 10)] (.wat [⟨none, (.lod (.var 2)), (.var 1)⟩] (.og (.fldV 0 (.var 0)) (.og (.ibin .eql (.var 0) (.var 2)) (.ret (.var 0)))))))))) (.og (.fldA 2 (.var 3)) (.og (.lodA 2 (.var 0)) (.call 55 [(.var 0)] (.new [(.val (.int .i64 0)), (.val (.int .i64 0)), (.val (.int .i64 0)), (.val (.slice none 0 0))] (.sto 4 (.var 0) (.var 1) (.og (.lodA 2 (.var 10)) (.call 46 [(.var 0)] (.new [(.val (.int .i64 0)), (.val (.slice none 0 0))] (.sto 2 (.var 0) (.var 1) (.og (.fldA 2 (.var 10)) (.og (.lodA 2 (.var 0)) (.call 46 [(.var 0)] (.new [(.val (.int .i64 0)), (.val (.slice none 0 0))] (.sto 2 (.var 0) (.var 1) (.og (.fldA 1 (.var 0)) (.og (.lod (.var 0)) (.og (.lenS (.var 0)) (.jn 2047 [2] (.ret (.var 0)) (.ord [0, 1, 2, 3, 4, 5, 6, 7, 8, 9, 10, 11, 12, 13, 14, 15, 16, 17, 18, 19, 20, 21, 22, 23, 24, 25, 26, 27, 28, 29, 30, 31, 32, 33, 34, 35, 36, 37, 38, 39, 40, 41, 42, 43, 44, 45, 48, 49, 46, 47, 50, 51, 52, 53, 54, 57, 55, 56, 58, 59, 60, 61, 62, 63, 64, 65, 66] [0, 1, 3, 7, 15, 31, 63, 127, 255, 511, 1023, 2047, 1023, 8191, 16383, 32767, 65535, 65535, 196607, 458751, 983039, 2097151, 4194303, 8388607, 16777215, 33554431, 16777215, 83886079, 268435455, 536870911, 16777215, 2147483647, 4294967295, 8589934591, 17179869183, 34359738367, 17179869183, 85899345919, 274877906943, 17179869183, 566935683071, 2199023255551, 4398046511103, 8796093022207, 17592186044415, 35184372088831, 70368744177663, 140737488355327, 17592186044415, 299067162755071, 1125899906842623, 2251799813685247, 4503599627370495, 9007199254740991, 18014398509481983, 36028797018963967, 72057594037927935, 9007199254740991, 288230376151711743, 576460752303423487, 1152921504606846975, 2305843009213693951, 4611686018427387903, 9223372036854775807, 18446744073709551615, 36893488147419103231, 73786976294838206463] (.og (.fldA 2 (.var 17)) (.og (.lodA 2 (.var 0)) (.call 30 [(.var 0)] (.wat [] (.og (.ibin .eql (.var 0) (.lit (.val (.int .i64 0)))) (.gog (.var 0) true false (.fldA 0 (.var 14)) (.gog (.var 1) true false (.lod (.var 0)) (.gog (.var 2) true false (.ibin .eql (.var 0) (.lit (.val (.int .i64 0)))) (.og (.pickV (.var 3) (.var 0) (.lit (.val (.bool false)))) (.gog (.var 0) true false (.fldA 1 (.var 18)) (.gog (.var 1) true false (.lod (.var 0)) (.gog (.var 2) true false (.ret (.var 31)) (.gog (.var 3) true false (.ibin .eql (.var 1) (.var 0)) (.og (.pickV (.var 4) (.var 0) (.lit (.val (.bool false)))) (.gog (.var 0) true false (.ret (.var 13)) (.gog (.var 1) true false (.fldA 1 (.var 21)) (.gog (.var 2) true false (.lod (.var 0)) (.gog (.var 3) true false (.lenS (.var 0)) (.gog (.var 4) true false (.ibin .add (.var 0) (.lit (.val (.int .i64 1)))) (.gog (.var 5) true false (.ibin .eql (.var 4) (.var 0)) (.og (.pickV (.var 6) (.var 0) (.lit (.val (.bool false)))) (.gog (.var 0) true false (.fldA 1 (.var 23)) (.gog (.var 1) true false (.lod (.var 0)) (.gog (.var 2) true false (.ret (.var 22)) (.gog (.var 3) true false (.ibin .sub (.var 0) (.lit (.val (.int .i64 1)))) (.gog (.var 4) true false (.idx 1 (.var 2) (.var 0)) (.gog (.var 5) true false (.lod (.var 0)) (.gog (.var 6) true false (.ret (.var 47)) (.gog (.var 7) true false (.ibin .eql (.var 1) (.var 0)) (.og (.pickV (.var 8) (.var 0) (.lit (.val (.bool false)))) (.gog (.var 0) true false (.fldA 1 (.var 32)) (.gog (.var 1) true false (.lod (.var 0)) (.gog (.var 2) true false (.ret (.var 31)) (.gog (.var 3) true false (.ibin .sub (.var 0) (.lit (.val (.int .i64 1)))) (.gog (.var 4) true false (.slc 1 (.var 2) none (some (.var 0)) none) (.gog (.var 5) true false (.fldA 1 (.var 41)) (.gog (.var 6) true false (.lod (.var 0)) (.gpick (.var 7) (.call 54 [(.var 2), (.var 0)] (.wat [] (.og (.pickV (.lit (.val (.bool true))) (.var 0) (.lit (.val (.bool false)))) (.gog (.var 0) true false (.fldA 2 (.var 48)) (.gog (.var 1) true false (.lodA 2 (.var 0)) (.gog (.var 2) true false (.fldA 1 (.var 47)) (.gog (.var 3) true false (.lod (.var 0)) (.gpick (.var 4) (.call 46 [(.var 2)] (.wat [⟨none, (.lod (.var 2)), (.var 1)⟩] (.og (.fldV 1 (.var 0)) (.call 54 [(.var 0), (.var 2)] (.wat [] (.og (.pickV (.lit (.val (.bool true))) (.var 0) (.lit (.val (.bool false)))) (.gog (.var 0) true false (.fldA 2 (.var 63)) (.gog (.var 1) true false (.lodA 2 (.var 0)) (.gog (.var 2) true false (.ret (.var 48)) (.gpick (.var 3) (.call 36 [(.var 1)] (.wat [] (.og (.fldV 1 (.var 0)) (.og (.ibin .eql (.var 0) (.var 2)) (.og (.pickV (.lit (.val (.bool true))) (.var 0) (.lit (.val (.bool false)))) (.gog (.var 0) true false (.fldA 2 (.var 63)) (.gog (.var 1) true false (.lodA 2 (.var 0)) (.gpick (.var 2) (.call 30 [(.var 0)] (.wat [] (.og (.ibin .eql (.var 0) (.lit (.val (.int .i64 0)))) (.og (.pickV (.lit (.val (.bool true))) (.var 0) (.lit (.val (.bool false)))) (.jump 0 [(.var 0)]))))) (.og (.pickV (.lit (.val (.bool false))) (.lit (.tup [])) (.lit (.val (.bool false)))) (.jump 0 [(.var 0)])) (.no))))))))) (.og (.pickV (.lit (.val (.bool false))) (.lit (.tup [])) (.lit (.val (.bool false)))) (.gog (.var 0) true false (.fldA 2 (.var 60)) (.gog (.var 1) true false (.lodA 2 (.var 0)) (.gpick (.var 2) (.call 30 [(.var 0)] (.wat [] (.og (.ibin .eql (.var 0) (.lit (.val (.int .i64 0)))) (.og (.pickV (.lit (.val (.bool true))) (.var 0) (.lit (.val (.bool false)))) (.jump 0 [(.var 0)]))))) (.og (.pickV (.lit (.val (.bool false))) (.lit (.tup [])) (.lit (.val (.bool false)))) (.jump 0 [(.var 0)])) (.no))))) (.no))))))))))) (.og (.pickV (.lit (.val (.bool false))) (.lit (.tup [])) (.lit (.val (.bool false)))) (.gog (.var 0) true false (.fldA 2 (.var 60)) (.gog (.var 1) true false (.lodA 2 (.var 0)) (.gog (.var 2) true false (.ret (.var 45)) (.gpick (.var 3) (.call 36 [(.var 1)] (.wat [] (.og (.fldV 1 (.var 0)) (.og (.ibin .eql (.var 0) (.var 2)) (.og (.pickV (.lit (.val (.bool true))) (.var 0) (.lit (.val (.bool false)))) (.gog (.var 0) true false (.fldA 2 (.var 60)) (.gog (.var 1) true false (.lodA 2 (.var 0)) (.gpick (.var 2) (.call 30 [(.var 0)] (.wat [] (.og (.ibin .eql (.var 0) (.lit (.val (.int .i64 0)))) (.og (.pickV (.lit (.val (.bool true))) (.var 0) (.lit (.val (.bool false)))) (.jump 0 [(.var 0)]))))) (.og (.pickV (.lit (.val (.bool false))) (.lit (.tup [])) (.lit (.val (.bool false)))) (.jump 0 [(.var 0)])) (.no))))))))) (.og (.pickV (.lit (.val (.bool false))) (.lit (.tup [])) (.lit (.val (.bool false)))) (.gog (.var 0) true false (.fldA 2 (.var 57)) (.gog (.var 1) true false (.lodA 2 (.var 0)) (.gpick (.var 2) (.call 30 [(.var 0)] (.wat [] (.og (.ibin .eql (.var 0) (.lit (.val (.int .i64 0)))) (.og (.pickV (.lit (.val (.bool true))) (.var 0) (.lit (.val (.bool false)))) (.jump 0 [(.var 0)]))))) (.og (.pickV (.lit (.val (.bool false))) (.lit (.tup [])) (.lit (.val (.bool false)))) (.jump 0 [(.var 0)])) (.no))))) (.no)))))) (.no))))))))) (.og (.pickV (.lit (.val (.bool false))) (.lit (.tup [])) (.lit (.val (.bool false)))) (.gog (.var 0) true false (.fldA 2 (.var 47)) (.gog (.var 1) true false (.lodA 2 (.var 0)) (.gog (.var 2) true false (.fldA 1 (.var 46)) (.gog (.var 3) true false (.lod (.var 0)) (.gpick (.var 4) (.call 46 [(.var 2)] (.wat [⟨none, (.lod (.var 2)), (.var 1)⟩] (.og (.fldV 1 (.var 0)) (.call 54 [(.var 0), (.var 2)] (.wat [] (.og (.pickV (.lit (.val (.bool true))) (.var 0) (.lit (.val (.bool false)))) (.gog (.var 0) true false (.fldA 2 (.var 62)) (.gog (.var 1) true false (.lodA 2 (.var 0)) (.gog (.var 2) true false (.ret (.var 47)) (.gpick (.var 3) (.call 36 [(.var 1)] (.wat [] (.og (.fldV 1 (.var 0)) (.og (.ibin .eql (.var 0) (.var 2)) (.og (.pickV (.lit (.val (.bool true))) (.var 0) (.lit (.val (.bool false)))) (.gog (.var 0) true false (.fldA 2 (.var 62)) (.gog (.var 1) true false (.lodA 2 (.var 0)) (.gpick (.var 2) (.call 30 [(.var 0)] (.wat [] (.og (.ibin .eql (.var 0) (.lit (.val (.int .i64 0)))) (.og (.pickV (.lit (.val (.bool true))) (.var 0) (.lit (.val (.bool false)))) (.jump 0 [(.var 0)]))))) (.og (.pickV (.lit (.val (.bool false))) (.lit (.tup [])) (.lit (.val (.bool false)))) (.jump 0 [(.var 0)])) (.no))))))))) (.og (.pickV (.lit (.val (.bool false))) (.lit (.tup [])) (.lit (.val (.bool false)))) (.gog (.var 0) true false (.fldA 2 (.var 59)) (.gog (.var 1) true false (.lodA 2 (.var 0)) (.gpick (.var 2) (.call 30 [(.var 0)] (.wat [] (.og (.ibin .eql (.var 0) (.lit (.val (.int .i64 0)))) (.og (.pickV (.lit (.val (.bool true))) (.var 0) (.lit (.val (.bool false)))) (.jump 0 [(.var 0)]))))) (.og (.pickV (.lit (.val (.bool false))) (.lit (.tup [])) (.lit (.val (.bool false)))) (.jump 0 [(.var 0)])) (.no))))) (.no))))))))))) (.og (.pickV (.lit (.val (.bool false))) (.lit (.tup [])) (.lit (.val (.bool false)))) (.gog (.var 0) true false (.fldA 2 (.var 59)) (.gog (.var 1) true false (.lodA 2 (.var 0)) (.gog (.var 2) true false (.ret (.var 44)) (.gpick (.var 3) (.call 36 [(.var 1)] (.wat [] (.og (.fldV 1 (.var 0)) (.og (.ibin .eql (.var 0) (.var 2)) (.og (.pickV (.lit (.val (.bool true))) (.var 0) (.lit (.val (.bool false)))) (.gog (.var 0) true false (.fldA 2 (.var 59)) (.gog (.var 1) true false (.lodA 2 (.var 0)) (.gpick (.var 2) (.call 30 [(.var 0)] (.wat [] (.og (.ibin .eql (.var 0) (.lit (.val (.int .i64 0)))) (.og (.pickV (.lit (.val (.bool true))) (.var 0) (.lit (.val (.bool false)))) (.jump 0 [(.var 0)]))))) (.og (.pickV (.lit (.val (.bool false))) (.lit (.tup [])) (.lit (.val (.bool false)))) (.jump 0 [(.var 0)])) (.no))))))))) (.og (.pickV (.lit (.val (.bool false))) (.lit (.tup [])) (.lit (.val (.bool false)))) (.gog (.var 0) true false (.fldA 2 (.var 56)) (.gog (.var 1) true false (.lodA 2 (.var 0)) (.gpick (.var 2) (.call 30 [(.var 0)] (.wat [] (.og (.ibin .eql (.var 0) (.lit (.val (.int .i64 0)))) (.og (.pickV (.lit (.val (.bool true))) (.var 0) (.lit (.val (.bool false)))) (.jump 0 [(.var 0)]))))) (.og (.pickV (.lit (.val (.bool false))) (.lit (.tup [])) (.lit (.val (.bool false)))) (.jump 0 [(.var 0)])) (.no))))) (.no)))))) (.no))))))) (.no))))))))))))))))))))))))))))))))))))))))))))))))))))))))))))))))))))))))
set_option maxRecDepth 1000000 in
theorem x13_ok : okF TT Try.f13 1 x13 = true := by decide +kernel
set_option maxRecDepth 1000000 in
theorem s_laws_FnStacks_ok {a0 : AV} {σ : AH} {R : AEnd → AH → Prop} (h : s_laws_FnStacks a0 σ R) : acall TP fn_laws_FnStacks [a0] σ R :=
  acall_okF (ρ := [a0]) TT_ok Try.func13 rfl x13 x13_ok rfl h

/-- loop.example/g00349/spec.TableFault -/
def s_spec_TableFault (a0 : AV) (σ : AH) (R : AEnd → AH → Prop) : Prop :=
  acall TP fn_spec_l11Table [a0] σ (onr (fun v4 σ =>
  og (aun .not v4) fun v5 =>
  apick v5 (
    aret (.val (.int .i64 3)) σ R) (
    aret (.val (.int .i64 0)) σ R)) (fun v σ => apan v σ R))
def x14 : Sx := .call 59 [(.var 0)] (.og (.aun .not (.var 0)) (.apick (.var 0) (.ret (.lit (.val (.int .i64 3)))) (.ret (.lit (.val (.int .i64 0))))))
set_option maxRecDepth 1000000 in
theorem x14_ok : okF TT Try.f14 1 x14 = true := by decide +kernel
set_option maxRecDepth 1000000 in
theorem s_spec_TableFault_ok {a0 : AV} {σ : AH} {R : AEnd → AH → Prop} (h : s_spec_TableFault a0 σ R) : acall TP fn_spec_TableFault [a0] σ R :=
  acall_okF (ρ := [a0]) TT_ok Try.func14 rfl x14 x14_ok rfl h

/-- loop.example/g00349/impl.TableFault -/
def s_impl_TableFault (a0 : AV) (σ : AH) (R : AEnd → AH → Prop) : Prop :=
  acall TP fn_impl_in [a0, (.val (.int .i64 0)), (.val (.int .i64 15))] σ (onr (fun v4 σ =>
  og (aun .not v4) fun v5 =>
  apick v5 (
    aret (.val (.int .i64 3)) σ R) (
    aret (.val (.int .i64 0)) σ R)) (fun v σ => apan v σ R))
def x15 : Sx := .call 60 [(.var 0), (.lit (.val (.int .i64 0))), (.lit (.val (.int .i64 15)))] (.og (.aun .not (.var 0)) (.apick (.var 0) (.ret (.lit (.val (.int .i64 3)))) (.ret (.lit (.val (.int .i64 0))))))
set_option maxRecDepth 1000000 in
theorem x15_ok : okF TT Try.f15 1 x15 = true := by decide +kernel
set_option maxRecDepth 1000000 in
theorem s_impl_TableFault_ok {a0 : AV} {σ : AH} {R : AEnd → AH → Prop} (h : s_impl_TableFault a0 σ R) : acall TP fn_impl_TableFault [a0] σ R :=
  acall_okF (ρ := [a0]) TT_ok Try.func15 rfl x15 x15_ok rfl h

/-- loop.example/g00349/spec.ConfigFault -/
def s_spec_ConfigFault (a0 : AV) (σ : AH) (R : AEnd → AH → Prop) : Prop :=
  abox a0 σ fun v1 σ =>
  acall TP fn_spec_l13Fault [v1] σ (onr (fun v3 σ =>
  aret v3 σ R) (fun v σ => apan v σ R))
def x16 : Sx := .box (.var 0) (.call 61 [(.var 0)] (.ret (.var 0)))
set_option maxRecDepth 1000000 in
theorem x16_ok : okF TT Try.f16 1 x16 = true := by decide +kernel
set_option maxRecDepth 1000000 in
theorem s_spec_ConfigFault_ok {a0 : AV} {σ : AH} {R : AEnd → AH → Prop} (h : s_spec_ConfigFault a0 σ R) : acall TP fn_spec_ConfigFault [a0] σ R :=
  acall_okF (ρ := [a0]) TT_ok Try.func16 rfl x16 x16_ok rfl h

/-- loop.example/g00349/laws.toConfig -/
def s_laws_toConfig (a0 : AV) (σ : AH) (R : AEnd → AH → Prop) : Prop :=
  abox a0 σ fun v1 σ =>
  new [(.val (.int .i64 0)), (.val (.int .i64 0)), (.val (.bool false)), (.val (.bool false))] σ fun v2 σ =>
  new [(.val (.int .i64 0)), (.val (.int .i64 0)), (.val (.bool false)), (.val (.bool false))] σ fun v3 σ =>
  og (fldA 0 v1) fun v4 =>
  og (lod v4 σ) fun v5 =>
  og (fldA 0 v3) fun v6 =>
  sto 1 v6 v5 σ fun σ =>
  og (fldA 1 v1) fun v7 =>
  og (lod v7 σ) fun v8 =>
  og (fldA 1 v3) fun v9 =>
  sto 1 v9 v8 σ fun σ =>
  og (fldA 2 v1) fun v10 =>
  og (lod v10 σ) fun v11 =>
  og (fldA 2 v3) fun v12 =>
  sto 1 v12 v11 σ fun σ =>
  og (fldA 3 v1) fun v13 =>
  og (lod v13 σ) fun v14 =>
  og (fldA 3 v3) fun v15 =>
  sto 1 v15 v14 σ fun σ =>
  og (lodA 4 v3 σ) fun v16 =>
  sto 4 v2 v16 σ fun σ =>
  og (lodA 4 v2 σ) fun r2 =>
  aret r2 σ R
def x17 : Sx := .box (.var 0) (.new [(.val (.int .i64 0)), (.val (.int .i64 0)), (.val (.bool false)), (.val (.bool false))] (.new [(.val (.int .i64 0)), (.val (.int .i64 0)), (.val (.bool false)), (.val (.bool false))] (.og (.fldA 0 (.var 2)) (.og (.lod (.var 0)) (.og (.fldA 0 (.var 2)) (.sto 1 (.var 0) (.var 1) (.og (.fldA 1 (.var 5)) (.og (.lod (.var 0)) (.og (.fldA 1 (.var 5)) (.sto 1 (.var 0) (.var 1) (.og (.fldA 2 (.var 8)) (.og (.lod (.var 0)) (.og (.fldA 2 (.var 8)) (.sto 1 (.var 0) (.var 1) (.og (.fldA 3 (.var 11)) (.og (.lod (.var 0)) (.og (.fldA 3 (.var 11)) (.sto 1 (.var 0) (.var 1) (.og (.lodA 4 (.var 12)) (.sto 4 (.var 14) (.var 0) (.og (.lodA 4 (.var 14)) (.ret (.var 0)))))))))))))))))))))))
set_option maxRecDepth 1000000 in
theorem x17_ok : okF TT Try.f17 1 x17 = true := by decide +kernel
set_option maxRecDepth 1000000 in
theorem s_laws_toConfig_ok {a0 : AV} {σ : AH} {R : AEnd → AH → Prop} (h : s_laws_toConfig a0 σ R) : acall TP fn_laws_toConfig [a0] σ R :=
  acall_okF (ρ := [a0]) TT_ok Try.func17 rfl x17 x17_ok rfl h

/-- loop.example/g00349/impl.ConfigFault -/
def s_impl_ConfigFault (a0 : AV) (σ : AH) (R : AEnd → AH → Prop) : Prop :=
  abox a0 σ fun v1 σ =>
  jn (X := Tup [12]) (fun x1 σ =>
      apick x1.1 (
        aret (.val (.int .i64 3)) σ R) (
        aret (.val (.int .i64 0)) σ R)) fun k1 =>
    og (fldA 0 v1) fun v3 =>
    og (lod v3 σ) fun v4 =>
    acall TP fn_impl_isSize [v4] σ (onr (fun v5 σ =>
    og (aun .not v5) fun v6 =>
    og (gval v6 false false (fldA 1 v1)) fun v8 =>
    og (gval v6 false false (lod v8 σ)) fun v9 =>
    gpick v6 (
      og (pickV (.val (.bool true)) (.val (.bool true)) (.tup [])) fun v12 =>
      k1 (v12, ()) σ) (
      acall TP fn_impl_TableFault [v9] σ (onr (fun v10 σ =>
      og (ibin .neq v10 (.val (.int .i64 0))) fun v11 =>
      og (pickV (.val (.bool false)) (.val (.bool true)) v11) fun v12 =>
      k1 (v12, ()) σ) (fun v σ => apan v σ R))) (False)) (fun v σ => apan v σ R))
def x18 : Sx := .box (.var 0) (.jn 13 [12] (.apick (.var 0) (.ret (.lit (.val (.int .i64 3)))) (.ret (.lit (.val (.int .i64 0))))) (.og (.fldA 0 (.var 0)) (.og (.lod (.var 0)) (.call 62 [(.var 0)] (.og (.aun .not (.var 0)) (.gog (.var 0) false false (.fldA 1 (.var 4)) (.gog (.var 1) false false (.lod (.var 0)) (.gpick (.var 2) (.og (.pickV (.lit (.val (.bool true))) (.lit (.val (.bool true))) (.lit (.tup []))) (.jump 0 [(.var 0)])) (.call 15 [(.var 0)] (.og (.ibin .neq (.var 0) (.lit (.val (.int .i64 0)))) (.og (.pickV (.lit (.val (.bool false))) (.lit (.val (.bool true))) (.var 0)) (.jump 0 [(.var 0)])))) (.no)))))))))
set_option maxRecDepth 1000000 in
theorem x18_ok : okF TT Try.f18 1 x18 = true := by decide +kernel
set_option maxRecDepth 1000000 in
theorem s_impl_ConfigFault_ok {a0 : AV} {σ : AH} {R : AEnd → AH → Prop} (h : s_impl_ConfigFault a0 σ R) : acall TP fn_impl_ConfigFault [a0] σ R :=
  acall_okF (ρ := [a0]) TT_ok Try.func18 rfl x18 x18_ok rfl h

/-- loop.example/g00349/laws.szStringS -/
def s_laws_szStringS (a0 a1 : AV) (σ : AH) (R : AEnd → AH → Prop) : Prop :=
  og (lenS a0) fun v8 =>
  og (ibin .sub a1 v8) fun v9 =>
  og (ibin .lss v9 (.val (.int .i64 0))) fun v11 =>
  apick v11 (
    aret (.val (.int .i64 (-1))) σ R) (
    lp (X := Tup [0, 1, 5]) (fun R1 y1 σ =>
      og (lenS y1.1) fun v14 =>
      og (ibin .lss y1.2.2.1 v14) fun v15 =>
      apick v15 (
        og (idx 1 y1.1 y1.2.2.1 σ) fun v21 =>
        og (lod v21 σ) fun v22 =>
        og (lenStr v22) fun v23 =>
        og (ibin .sub y1.2.1 v23) fun v24 =>
        og (ibin .lss v24 (.val (.int .i64 0))) fun v26 =>
        apick v26 (
          aret (.val (.int .i64 (-1))) σ R) (
          og (ibin .add y1.2.2.1 (.val (.int .i64 1))) fun v17 =>
          R1 (y1.1, v24, v17, ()) σ)) (
        aret y1.2.1 σ R)) (a0, v9, (.val (.int .i64 0)), ()) σ)
def x19 : Sx := .og (.lenS (.var 1)) (.og (.ibin .sub (.var 1) (.var 0)) (.og (.ibin .lss (.var 0) (.lit (.val (.int .i64 0)))) (.apick (.var 0) (.ret (.lit (.val (.int .i64 (-1))))) (.lp [0, 1, 5] (.og (.lenS (.var 0)) (.og (.ibin .lss (.var 3) (.var 0)) (.apick (.var 0) (.og (.idx 1 (.var 2) (.var 4)) (.og (.lod (.var 0)) (.og (.lenStr (.var 0)) (.og (.ibin .sub (.var 6) (.var 0)) (.og (.ibin .lss (.var 0) (.lit (.val (.int .i64 0)))) (.apick (.var 0) (.ret (.lit (.val (.int .i64 (-1))))) (.og (.ibin .add (.var 9) (.lit (.val (.int .i64 1)))) (.jump 0 [(.var 8), (.var 2), (.var 0)])))))))) (.ret (.var 3))))) [(.var 4), (.var 1), (.lit (.val (.int .i64 0)))]))))
set_option maxRecDepth 1000000 in
theorem x19_ok : okF TT Try.f19 2 x19 = true := by decide +kernel
set_option maxRecDepth 1000000 in
theorem s_laws_szStringS_ok {a0 a1 : AV} {σ : AH} {R : AEnd → AH → Prop} (h : s_laws_szStringS a0 a1 σ R) : acall TP fn_laws_szStringS [a0, a1] σ R :=
  acall_okF (ρ := [a1, a0]) TT_ok Try.func19 rfl x19 x19_ok rfl h

/-- loop.example/g00349/spec.FirstApart -/
def s_spec_FirstApart (a0 a1 : AV) (σ : AH) (R : AEnd → AH → Prop) : Prop :=
  new [(.val (.int .i64 0)), (.val (.int .i64 0))] σ fun v4 σ =>
  og (lenS a0) fun v7 =>
  og (ibin .gtr v7 (.val (.int .i64 12))) fun v8 =>
  og (gval v8 false false (some a1)) fun v10 =>
  og (gval v8 false false (lenS v10)) fun v11 =>
  og (gval v8 false false (ibin .gtr v11 (.val (.int .i64 12)))) fun v12 =>
  og (pickV v8 (.val (.bool true)) v12) fun v13 =>
  apick v13 (
    og (bld [(.val (.int .i64 0)), (.val (.int .i64 0))] [(0, 1), (1, 1)] [(0, (.val (.int .i64 2)))]) fun v14 =>
    sto 2 v4 v14 σ fun σ =>
    og (lodA 2 v4 σ) fun r4 =>
    aret r4 σ R) (
    acall TP fn_spec_l16Apart [a0, a1] σ (onr (fun v17 σ =>
    og (ibin .lss v17 (.val (.int .i64 0))) fun v19 =>
    apick v19 (
      og (bld [(.val (.int .i64 0)), (.val (.int .i64 0))] [(0, 1), (1, 1)] [(0, (.val (.int .i64 4)))]) fun v20 =>
      sto 2 v4 v20 σ fun σ =>
      og (lodA 2 v4 σ) fun r4 =>
      aret r4 σ R) (
      og (bld [(.val (.int .i64 0)), (.val (.int .i64 0))] [(0, 1), (1, 1)] [(1, v17)]) fun v22 =>
      sto 2 v4 v22 σ fun σ =>
      og (lodA 2 v4 σ) fun r4 =>
      aret r4 σ R)) (fun v σ => apan v σ R)))
def x20 : Sx := .new [(.val (.int .i64 0)), (.val (.int .i64 0))] (.og (.lenS (.var 2)) (.og (.ibin .gtr (.var 0) (.lit (.val (.int .i64 12)))) (.gog (.var 0) false false (.ret (.var 3)) (.gog (.var 1) false false (.lenS (.var 0)) (.gog (.var 2) false false (.ibin .gtr (.var 0) (.lit (.val (.int .i64 12)))) (.og (.pickV (.var 3) (.lit (.val (.bool true))) (.var 0)) (.apick (.var 0) (.og (.bld [(.val (.int .i64 0)), (.val (.int .i64 0))] [(0, 1), (1, 1)] [(0, (.lit (.val (.int .i64 2))))]) (.sto 2 (.var 7) (.var 0) (.og (.lodA 2 (.var 7)) (.ret (.var 0))))) (.call 63 [(.var 8), (.var 7)] (.og (.ibin .lss (.var 0) (.lit (.val (.int .i64 0)))) (.apick (.var 0) (.og (.bld [(.val (.int .i64 0)), (.val (.int .i64 0))] [(0, 1), (1, 1)] [(0, (.lit (.val (.int .i64 4))))]) (.sto 2 (.var 9) (.var 0) (.og (.lodA 2 (.var 9)) (.ret (.var 0))))) (.og (.bld [(.val (.int .i64 0)), (.val (.int .i64 0))] [(0, 1), (1, 1)] [(1, (.var 1))]) (.sto 2 (.var 9) (.var 0) (.og (.lodA 2 (.var 9)) (.ret (.var 0)))))))))))))))
set_option maxRecDepth 1000000 in
theorem x20_ok : okF TT Try.f20 2 x20 = true := by decide +kernel
set_option maxRecDepth 1000000 in
theorem s_spec_FirstApart_ok {a0 a1 : AV} {σ : AH} {R : AEnd → AH → Prop} (h : s_spec_FirstApart a0 a1 σ R) : acall TP fn_spec_FirstApart [a0, a1] σ R :=
  acall_okF (ρ := [a1, a0]) TT_ok Try.func20 rfl x20 x20_ok rfl h

/-- loop.example/g00349/laws.toStringS -/
def s_laws_toStringS (a0 : AV) (σ : AH) (R : AEnd → AH → Prop) : Prop :=
  og (lenS a0) fun v6 =>
  amake TT ty_Ls v6 v6 σ fun v7 σ =>
  lp (X := Tup [0, 3, 4]) (fun R1 y1 σ =>
    og (lenS y1.1) fun v10 =>
    og (ibin .lss y1.2.2.1 v10) fun v11 =>
    apick v11 (
      og (idx 1 y1.1 y1.2.2.1 σ) fun v18 =>
      og (lod v18 σ) fun v19 =>
      og (idx 1 y1.2.1 y1.2.2.1 σ) fun v20 =>
      sto 1 v20 v19 σ fun σ =>
      og (ibin .add y1.2.2.1 (.val (.int .i64 1))) fun v13 =>
      R1 (y1.1, y1.2.1, v13, ()) σ) (
      aret y1.2.1 σ R)) (a0, v7, (.val (.int .i64 0)), ()) σ
def x21 : Sx := .og (.lenS (.var 0)) (.mks 30 (.var 0) (.var 0) (.lp [0, 3, 4] (.og (.lenS (.var 0)) (.og (.ibin .lss (.var 3) (.var 0)) (.apick (.var 0) (.og (.idx 1 (.var 2) (.var 4)) (.og (.lod (.var 0)) (.og (.idx 1 (.var 5) (.var 6)) (.sto 1 (.var 0) (.var 1) (.og (.ibin .add (.var 7) (.lit (.val (.int .i64 1)))) (.jump 0 [(.var 6), (.var 7), (.var 0)])))))) (.ret (.var 3))))) [(.var 2), (.var 0), (.lit (.val (.int .i64 0)))]))
set_option maxRecDepth 1000000 in
theorem x21_ok : okF TT Try.f21 1 x21 = true := by decide +kernel
set_option maxRecDepth 1000000 in
theorem s_laws_toStringS_ok {a0 : AV} {σ : AH} {R : AEnd → AH → Prop} (h : s_laws_toStringS a0 σ R) : acall TP fn_laws_toStringS [a0] σ R :=
  acall_okF (ρ := [a0]) TT_ok Try.func21 rfl x21 x21_ok rfl h

/-- loop.example/g00349/impl.FirstApart -/
def s_impl_FirstApart (a0 a1 : AV) (σ : AH) (R : AEnd → AH → Prop) : Prop :=
  new [(.val (.int .i64 0)), (.val (.int .i64 0))] σ fun v4 σ =>
  og (lenS a0) fun v7 =>
  og (ibin .gtr v7 (.val (.int .i64 12))) fun v8 =>
  og (gval v8 false false (some a1)) fun v10 =>
  og (gval v8 false false (lenS v10)) fun v11 =>
  og (gval v8 false false (ibin .gtr v11 (.val (.int .i64 12)))) fun v12 =>
  og (pickV v8 (.val (.bool true)) v12) fun v13 =>
  apick v13 (
    og (bld [(.val (.int .i64 0)), (.val (.int .i64 0))] [(0, 1), (1, 1)] [(0, (.val (.int .i64 2)))]) fun v14 =>
    sto 2 v4 v14 σ fun σ =>
    og (lodA 2 v4 σ) fun r4 =>
    aret r4 σ R) (
    og (lenS a0) fun v16 =>
    og (lenS a1) fun v18 =>
    og (amm true v16 v18) fun v19 =>
    lp (X := Tup [0, 1, 4, 19, 20]) (fun R1 y1 σ =>
      og (ibin .lss y1.2.2.2.2.1 y1.2.2.2.1) fun v21 =>
      apick v21 (
        og (lenS y1.1) fun v25 =>
        og (ibin .geq y1.2.2.2.2.1 v25) fun v26 =>
        og (gval v26 false false (some y1.2.2.2.2.1)) fun v28 =>
        og (gval v26 false false (some y1.2.1)) fun v29 =>
        og (gval v26 false false (lenS v29)) fun v30 =>
        og (gval v26 false false (ibin .geq v28 v30)) fun v31 =>
        og (pickV v26 (.val (.bool true)) v31) fun v32 =>
        og (gval v32 false false (some y1.1)) fun v34 =>
        og (gval v32 false false (some y1.2.2.2.2.1)) fun v35 =>
        og (gval v32 false false (idx 1 v34 v35 σ)) fun v36 =>
        og (gval v32 false false (lod v36 σ)) fun v37 =>
        og (gval v32 false false (some y1.2.1)) fun v38 =>
        og (gval v32 false false (some y1.2.2.2.2.1)) fun v39 =>
        og (gval v32 false false (idx 1 v38 v39 σ)) fun v40 =>
        og (gval v32 false false (lod v40 σ)) fun v41 =>
        og (gval v32 false false (sbin .neq v37 v41)) fun v42 =>
        og (pickV v32 (.val (.bool true)) v42) fun v43 =>
        apick v43 (
          og (bld [(.val (.int .i64 0)), (.val (.int .i64 0))] [(0, 1), (1, 1)] [(1, y1.2.2.2.2.1)]) fun v45 =>
          sto 2 y1.2.2.1 v45 σ fun σ =>
          og (lodA 2 y1.2.2.1 σ) fun r4 =>
          aret r4 σ R) (
          og (ibin .add y1.2.2.2.2.1 (.val (.int .i64 1))) fun v46 =>
          R1 (y1.1, y1.2.1, y1.2.2.1, y1.2.2.2.1, v46, ()) σ)) (
        og (bld [(.val (.int .i64 0)), (.val (.int .i64 0))] [(0, 1), (1, 1)] [(0, (.val (.int .i64 4)))]) fun v47 =>
        sto 2 y1.2.2.1 v47 σ fun σ =>
        og (lodA 2 y1.2.2.1 σ) fun r4 =>
        aret r4 σ R)) (a0, a1, v4, v19, (.val (.int .i64 0)), ()) σ)
def x22 : Sx := .new [(.val (.int .i64 0)), (.val (.int .i64 0))] (.og (.lenS (.var 2)) (.og (.ibin .gtr (.var 0) (.lit (.val (.int .i64 12)))) (.gog (.var 0) false false (.ret (.var 3)) (.gog (.var 1) false false (.lenS (.var 0)) (.gog (.var 2) false false (.ibin .gtr (.var 0) (.lit (.val (.int .i64 12)))) (.og (.pickV (.var 3) (.lit (.val (.bool true))) (.var 0)) (.apick (.var 0) (.og (.bld [(.val (.int .i64 0)), (.val (.int .i64 0))] [(0, 1), (1, 1)] [(0, (.lit (.val (.int .i64 2))))]) (.sto 2 (.var 7) (.var 0) (.og (.lodA 2 (.var 7)) (.ret (.var 0))))) (.og (.lenS (.var 8)) (.og (.lenS (.var 8)) (.og (.amm true (.var 1) (.var 0)) (.lp [0, 1, 4, 19, 20] (.og (.ibin .lss (.var 4) (.var 3)) (.apick (.var 0) (.ord [0, 1, 2, 3, 4, 5, 6, 7, 8, 9, 10, 11, 12, 13, 14, 15, 16, 17, 18, 19, 20] [0, 0, 2, 7, 15, 31, 31, 95, 255, 511, 1023, 2047, 2047, 8191, 16383, 2047, 2047, 100351, 231423, 524287, 1048575] (.og (.lenS (.var 1)) (.og (.ibin .geq (.var 6) (.var 0)) (.gog (.var 0) false false (.ret (.var 7)) (.gog (.var 1) false false (.ret (.var 5)) (.gog (.var 2) false false (.lenS (.var 0)) (.gog (.var 3) false false (.ibin .geq (.var 2) (.var 0)) (.og (.pickV (.var 4) (.lit (.val (.bool true))) (.var 0)) (.gog (.var 0) false false (.ret (.var 8)) (.gog (.var 1) false false (.ret (.var 13)) (.gog (.var 2) false false (.idx 1 (.var 1) (.var 0)) (.gog (.var 3) false false (.lod (.var 0)) (.gog (.var 4) false false (.ret (.var 13)) (.gog (.var 5) false false (.ret (.var 17)) (.gog (.var 6) false false (.idx 1 (.var 1) (.var 0)) (.gog (.var 7) false false (.lod (.var 0)) (.gog (.var 8) false false (.sbin .neq (.var 4) (.var 0)) (.og (.pickV (.var 9) (.lit (.val (.bool true))) (.var 0)) (.apick (.var 0) (.og (.bld [(.val (.int .i64 0)), (.val (.int .i64 0))] [(0, 1), (1, 1)] [(1, (.var 22))]) (.sto 2 (.var 21) (.var 0) (.og (.lodA 2 (.var 21)) (.ret (.var 0))))) (.og (.ibin .add (.var 22) (.lit (.val (.int .i64 1)))) (.jump 0 [(.var 19), (.var 20), (.var 21), (.var 22), (.var 0)]))))))))))))))))))))) (.og (.bld [(.val (.int .i64 0)), (.val (.int .i64 0))] [(0, 1), (1, 1)] [(0, (.lit (.val (.int .i64 4))))]) (.sto 2 (.var 4) (.var 0) (.og (.lodA 2 (.var 4)) (.ret (.var 0))))))) [(.var 11), (.var 10), (.var 9), (.var 0), (.lit (.val (.int .i64 0)))])))))))))))
set_option maxRecDepth 1000000 in
theorem x22_ok : okF TT Try.f22 2 x22 = true := by decide +kernel
set_option maxRecDepth 1000000 in
theorem s_impl_FirstApart_ok {a0 a1 : AV} {σ : AH} {R : AEnd → AH → Prop} (h : s_impl_FirstApart a0 a1 σ R) : acall TP fn_impl_FirstApart [a0, a1] σ R :=
  acall_okF (ρ := [a1, a0]) TT_ok Try.func22 rfl x22 x22_ok rfl h

/-- loop.example/g00349/laws.eqIntResult -/
def s_laws_eqIntResult (a0 a1 : AV) (σ : AH) (R : AEnd → AH → Prop) : Prop :=
  abox a0 σ fun v2 σ =>
  abox a1 σ fun v3 σ =>
  og (fldA 0 v2) fun v5 =>
  og (lod v5 σ) fun v6 =>
  og (fldA 0 v3) fun v7 =>
  og (lod v7 σ) fun v8 =>
  og (ibin .neq v6 v8) fun v9 =>
  apick v9 (
    aret (.val (.bool false)) σ R) (
    og (fldA 1 v2) fun v10 =>
    og (lod v10 σ) fun v11 =>
    og (fldA 1 v3) fun v12 =>
    og (lod v12 σ) fun v13 =>
    og (ibin .neq v11 v13) fun v14 =>
    apick v14 (
      aret (.val (.bool false)) σ R) (
      aret (.val (.bool true)) σ R))
def x23 : Sx := .box (.var 1) (.box (.var 1) (.og (.fldA 0 (.var 1)) (.og (.lod (.var 0)) (.og (.fldA 0 (.var 2)) (.og (.lod (.var 0)) (.og (.ibin .neq (.var 2) (.var 0)) (.apick (.var 0) (.ret (.lit (.val (.bool false)))) (.og (.fldA 1 (.var 6)) (.og (.lod (.var 0)) (.og (.fldA 1 (.var 7)) (.og (.lod (.var 0)) (.og (.ibin .neq (.var 2) (.var 0)) (.apick (.var 0) (.ret (.lit (.val (.bool false)))) (.ret (.lit (.val (.bool true)))))))))))))))))
set_option maxRecDepth 1000000 in
theorem x23_ok : okF TT Try.f23 2 x23 = true := by decide +kernel
set_option maxRecDepth 1000000 in
theorem s_laws_eqIntResult_ok {a0 a1 : AV} {σ : AH} {R : AEnd → AH → Prop} (h : s_laws_eqIntResult a0 a1 σ R) : acall TP fn_laws_eqIntResult [a0, a1] σ R :=
  acall_okF (ρ := [a1, a0]) TT_ok Try.func23 rfl x23 x23_ok rfl h

/-- loop.example/g00349/laws.eqStringS -/
def s_laws_eqStringS (a0 a1 : AV) (σ : AH) (R : AEnd → AH → Prop) : Prop :=
  og (lenS a0) fun v7 =>
  og (lenS a1) fun v9 =>
  og (ibin .neq v7 v9) fun v10 =>
  apick v10 (
    aret (.val (.bool false)) σ R) (
    lp (X := Tup [0, 1, 5]) (fun R1 y1 σ =>
      og (lenS y1.1) fun v13 =>
      og (ibin .lss y1.2.2.1 v13) fun v14 =>
      apick v14 (
        og (idx 1 y1.1 y1.2.2.1 σ) fun v19 =>
        og (lod v19 σ) fun v20 =>
        og (idx 1 y1.2.1 y1.2.2.1 σ) fun v23 =>
        og (lod v23 σ) fun v24 =>
        og (sbin .neq v20 v24) fun v25 =>
        apick v25 (
          aret (.val (.bool false)) σ R) (
          og (ibin .add y1.2.2.1 (.val (.int .i64 1))) fun v16 =>
          R1 (y1.1, y1.2.1, v16, ()) σ)) (
        aret (.val (.bool true)) σ R)) (a0, a1, (.val (.int .i64 0)), ()) σ)
def x24 : Sx := .og (.lenS (.var 1)) (.og (.lenS (.var 1)) (.og (.ibin .neq (.var 1) (.var 0)) (.apick (.var 0) (.ret (.lit (.val (.bool false)))) (.lp [0, 1, 5] (.og (.lenS (.var 0)) (.og (.ibin .lss (.var 3) (.var 0)) (.apick (.var 0) (.ord [0, 1, 2, 3, 4, 5, 6, 7, 8] [0, 0, 3, 7, 0, 0, 48, 112, 255] (.og (.idx 1 (.var 2) (.var 4)) (.og (.lod (.var 0)) (.og (.idx 1 (.var 5) (.var 6)) (.og (.lod (.var 0)) (.og (.sbin .neq (.var 2) (.var 0)) (.apick (.var 0) (.ret (.lit (.val (.bool false)))) (.og (.ibin .add (.var 9) (.lit (.val (.int .i64 1)))) (.jump 0 [(.var 8), (.var 9), (.var 0)]))))))))) (.ret (.lit (.val (.bool true))))))) [(.var 4), (.var 3), (.lit (.val (.int .i64 0)))]))))
set_option maxRecDepth 1000000 in
theorem x24_ok : okF TT Try.f24 2 x24 = true := by decide +kernel
set_option maxRecDepth 1000000 in
theorem s_laws_eqStringS_ok {a0 a1 : AV} {σ : AH} {R : AEnd → AH → Prop} (h : s_laws_eqStringS a0 a1 σ R) : acall TP fn_laws_eqStringS [a0, a1] σ R :=
  acall_okF (ρ := [a1, a0]) TT_ok Try.func24 rfl x24 x24_ok rfl h

/-- loop.example/g00349/spec.ErrorsIn -/
def s_spec_ErrorsIn (a0 : AV) (σ : AH) (R : AEnd → AH → Prop) : Prop :=
  new [(.val (.int .i64 0)), (.val (.int .i64 0))] σ fun v2 σ =>
  og (lenS a0) fun v6 =>
  og (ibin .gtr v6 (.val (.int .i64 12))) fun v7 =>
  apick v7 (
    og (bld [(.val (.int .i64 0)), (.val (.int .i64 0))] [(0, 1), (1, 1)] [(0, (.val (.int .i64 2)))]) fun v8 =>
    sto 2 v2 v8 σ fun σ =>
    og (lodA 2 v2 σ) fun r2 =>
    aret r2 σ R) (
    lp (X := Tup [0, 2, 3, 4]) (fun R1 y1 σ =>
      og (lenS y1.1) fun v11 =>
      og (ibin .lss y1.2.2.2.1 v11) fun v12 =>
      apick v12 (
        jn (X := Tup [0, 2, 3, 4]) (fun x2 σ =>
            og (ibin .add x2.2.2.2.1 (.val (.int .i64 1))) fun v14 =>
            R1 (x2.1, x2.2.1, x2.2.2.1, v14, ()) σ) fun k2 =>
          og (idx 1 y1.1 y1.2.2.2.1 σ) fun v17 =>
          og (lod v17 σ) fun v18 =>
          og (lenStr v18) fun v19 =>
          og (ibin .gtr v19 (.val (.int .i64 1))) fun v20 =>
          og (gval v20 true false (some y1.1)) fun v22 =>
          og (gval v20 true false (some y1.2.2.2.1)) fun v23 =>
          og (gval v20 true false (idx 1 v22 v23 σ)) fun v24 =>
          og (gval v20 true false (lod v24 σ)) fun v25 =>
          og (gval v20 true false (slcStr v25 none (some (.val (.int .i64 2))))) fun v26 =>
          og (gval v20 true false (sbin .eql v26 (.val (.string ⟨#[33, 32]⟩)))) fun v27 =>
          og (pickV v20 v27 (.val (.bool false))) fun v28 =>
          apick v28 (
            og (ibin .add y1.2.2.1 (.val (.int .i64 1))) fun v30 =>
            k2 (y1.1, y1.2.1, v30, y1.2.2.2.1, ()) σ) (
            k2 (y1.1, y1.2.1, y1.2.2.1, y1.2.2.2.1, ()) σ)) (
        og (bld [(.val (.int .i64 0)), (.val (.int .i64 0))] [(0, 1), (1, 1)] [(1, y1.2.2.1)]) fun v32 =>
        sto 2 y1.2.1 v32 σ fun σ =>
        og (lodA 2 y1.2.1 σ) fun r2 =>
        aret r2 σ R)) (a0, v2, (.val (.int .i64 0)), (.val (.int .i64 0)), ()) σ)
def x25 : Sx := .new [(.val (.int .i64 0)), (.val (.int .i64 0))] (.og (.lenS (.var 1)) (.og (.ibin .gtr (.var 0) (.lit (.val (.int .i64 12)))) (.apick (.var 0) (.og (.bld [(.val (.int .i64 0)), (.val (.int .i64 0))] [(0, 1), (1, 1)] [(0, (.lit (.val (.int .i64 2))))]) (.sto 2 (.var 3) (.var 0) (.og (.lodA 2 (.var 3)) (.ret (.var 0))))) (.lp [0, 2, 3, 4] (.og (.lenS (.var 0)) (.og (.ibin .lss (.var 4) (.var 0)) (.apick (.var 0) (.jn 979 [0, 2, 3, 4] (.og (.ibin .add (.var 3) (.lit (.val (.int .i64 1)))) (.jump 0 [(.var 1), (.var 2), (.var 3), (.var 0)])) (.og (.idx 1 (.var 2) (.var 5)) (.og (.lod (.var 0)) (.og (.lenStr (.var 0)) (.og (.ibin .gtr (.var 0) (.lit (.val (.int .i64 1)))) (.gog (.var 0) true false (.ret (.var 6)) (.gog (.var 1) true false (.ret (.var 10)) (.gog (.var 2) true false (.idx 1 (.var 1) (.var 0)) (.gog (.var 3) true false (.lod (.var 0)) (.gog (.var 4) true false (.slcStr (.var 0) none (some (.lit (.val (.int .i64 2))))) (.gog (.var 5) true false (.sbin .eql (.var 0) (.lit (.val (.string ⟨#[33, 32]⟩)))) (.og (.pickV (.var 6) (.var 0) (.lit (.val (.bool false)))) (.apick (.var 0) (.og (.ibin .add (.var 15) (.lit (.val (.int .i64 1)))) (.jump 0 [(.var 14), (.var 15), (.var 0), (.var 17)])) (.jump 0 [(.var 13), (.var 14), (.var 15), (.var 16)])))))))))))))) (.og (.bld [(.val (.int .i64 0)), (.val (.int .i64 0))] [(0, 1), (1, 1)] [(1, (.var 4))]) (.sto 2 (.var 4) (.var 0) (.og (.lodA 2 (.var 4)) (.ret (.var 0)))))))) [(.var 3), (.var 2), (.lit (.val (.int .i64 0))), (.lit (.val (.int .i64 0)))]))))
set_option maxRecDepth 1000000 in
theorem x25_ok : okF TT Try.f25 1 x25 = true := by decide +kernel
set_option maxRecDepth 1000000 in
theorem s_spec_ErrorsIn_ok {a0 : AV} {σ : AH} {R : AEnd → AH → Prop} (h : s_spec_ErrorsIn a0 σ R) : acall TP fn_spec_ErrorsIn [a0] σ R :=
  acall_okF (ρ := [a0]) TT_ok Try.func25 rfl x25 x25_ok rfl h

/-- loop.example/g00349/impl.ErrorsIn -/
def s_impl_ErrorsIn (a0 : AV) (σ : AH) (R : AEnd → AH → Prop) : Prop :=
  new [(.val (.int .i64 0)), (.val (.int .i64 0))] σ fun v2 σ =>
  og (lenS a0) fun v7 =>
  og (ibin .gtr v7 (.val (.int .i64 12))) fun v8 =>
  apick v8 (
    og (bld [(.val (.int .i64 0)), (.val (.int .i64 0))] [(0, 1), (1, 1)] [(0, (.val (.int .i64 2)))]) fun v9 =>
    sto 2 v2 v9 σ fun σ =>
    og (lodA 2 v2 σ) fun r2 =>
    aret r2 σ R) (
    og (lenS a0) fun v11 =>
    lp (X := Tup [2, 3, 10, 11, 12]) (fun R1 y1 σ =>
      og (ibin .lss y1.2.2.2.2.1 y1.2.2.2.1) fun v13 =>
      apick v13 (
        jn (X := Tup [2, 3, 10, 11, 12]) (fun x2 σ =>
            og (ibin .add x2.2.2.2.2.1 (.val (.int .i64 1))) fun v20 =>
            R1 (x2.1, x2.2.1, x2.2.2.1, x2.2.2.2.1, v20, ()) σ) fun k2 =>
          og (idx 1 y1.2.2.1 y1.2.2.2.2.1 σ) fun v14 =>
          og (lod v14 σ) fun v15 =>
          acall TP fn_strings_HasPrefix [v15, (.val (.string ⟨#[33, 32]⟩))] σ (onr (fun v17 σ =>
          apick v17 (
            og (ibin .add y1.2.1 (.val (.int .i64 1))) fun v19 =>
            k2 (y1.1, v19, y1.2.2.1, y1.2.2.2.1, y1.2.2.2.2.1, ()) σ) (
            k2 (y1.1, y1.2.1, y1.2.2.1, y1.2.2.2.1, y1.2.2.2.2.1, ()) σ)) (fun v σ => apan v σ R))) (
        og (bld [(.val (.int .i64 0)), (.val (.int .i64 0))] [(0, 1), (1, 1)] [(1, y1.2.1)]) fun v22 =>
        sto 2 y1.1 v22 σ fun σ =>
        og (lodA 2 y1.1 σ) fun r2 =>
        aret r2 σ R)) (v2, (.val (.int .i64 0)), a0, v11, (.val (.int .i64 0)), ()) σ)
def x26 : Sx := .new [(.val (.int .i64 0)), (.val (.int .i64 0))] (.og (.lenS (.var 1)) (.og (.ibin .gtr (.var 0) (.lit (.val (.int .i64 12)))) (.apick (.var 0) (.og (.bld [(.val (.int .i64 0)), (.val (.int .i64 0))] [(0, 1), (1, 1)] [(0, (.lit (.val (.int .i64 2))))]) (.sto 2 (.var 3) (.var 0) (.og (.lodA 2 (.var 3)) (.ret (.var 0))))) (.og (.lenS (.var 3)) (.lp [2, 3, 10, 11, 12] (.og (.ibin .lss (.var 4) (.var 3)) (.apick (.var 0) (.jn 1959 [2, 3, 10, 11, 12] (.og (.ibin .add (.var 4) (.lit (.val (.int .i64 1)))) (.jump 0 [(.var 1), (.var 2), (.var 3), (.var 4), (.var 0)])) (.og (.idx 1 (.var 3) (.var 5)) (.og (.lod (.var 0)) (.call 64 [(.var 0), (.lit (.val (.string ⟨#[33, 32]⟩)))] (.apick (.var 0) (.og (.ibin .add (.var 5) (.lit (.val (.int .i64 1)))) (.jump 0 [(.var 5), (.var 0), (.var 7), (.var 8), (.var 9)])) (.jump 0 [(.var 4), (.var 5), (.var 6), (.var 7), (.var 8)])))))) (.og (.bld [(.val (.int .i64 0)), (.val (.int .i64 0))] [(0, 1), (1, 1)] [(1, (.var 2))]) (.sto 2 (.var 2) (.var 0) (.og (.lodA 2 (.var 2)) (.ret (.var 0))))))) [(.var 3), (.lit (.val (.int .i64 0))), (.var 4), (.var 0), (.lit (.val (.int .i64 0)))])))))
set_option maxRecDepth 1000000 in
theorem x26_ok : okF TT Try.f26 1 x26 = true := by decide +kernel
set_option maxRecDepth 1000000 in
theorem s_impl_ErrorsIn_ok {a0 : AV} {σ : AH} {R : AEnd → AH → Prop} (h : s_impl_ErrorsIn a0 σ R) : acall TP fn_impl_ErrorsIn [a0] σ R :=
  acall_okF (ρ := [a0]) TT_ok Try.func26 rfl x26 x26_ok rfl h

/-- loop.example/g00349/laws.szSegs -/
def s_laws_szSegs (a0 a1 : AV) (σ : AH) (R : AEnd → AH → Prop) : Prop :=
  abox a0 σ fun v2 σ =>
  og (fldA 1 v2) fun v5 =>
  og (lod v5 σ) fun v6 =>
  acall TP fn_laws_szSegPartS [v6, a1] σ (onr (fun v8 σ =>
  og (ibin .lss v8 (.val (.int .i64 0))) fun v10 =>
  apick v10 (
    aret (.val (.int .i64 (-1))) σ R) (
    aret v8 σ R)) (fun v σ => apan v σ R))
def x27 : Sx := .box (.var 1) (.og (.fldA 1 (.var 0)) (.og (.lod (.var 0)) (.call 65 [(.var 0), (.var 3)] (.og (.ibin .lss (.var 0) (.lit (.val (.int .i64 0)))) (.apick (.var 0) (.ret (.lit (.val (.int .i64 (-1))))) (.ret (.var 1)))))))
set_option maxRecDepth 1000000 in
theorem x27_ok : okF TT Try.f27 2 x27 = true := by decide +kernel
set_option maxRecDepth 1000000 in
theorem s_laws_szSegs_ok {a0 a1 : AV} {σ : AH} {R : AEnd → AH → Prop} (h : s_laws_szSegs a0 a1 σ R) : acall TP fn_laws_szSegs [a0, a1] σ R :=
  acall_okF (ρ := [a1, a0]) TT_ok Try.func27 rfl x27 x27_ok rfl h

/-- loop.example/g00349/spec.SegsFault -/
def s_spec_SegsFault (a0 : AV) (σ : AH) (R : AEnd → AH → Prop) : Prop :=
  abox a0 σ fun v1 σ =>
  acall TP fn_spec_l12Fault [v1] σ (onr (fun v3 σ =>
  aret v3 σ R) (fun v σ => apan v σ R))
def x28 : Sx := .box (.var 0) (.call 66 [(.var 0)] (.ret (.var 0)))
set_option maxRecDepth 1000000 in
theorem x28_ok : okF TT Try.f28 1 x28 = true := by decide +kernel
set_option maxRecDepth 1000000 in
theorem s_spec_SegsFault_ok {a0 : AV} {σ : AH} {R : AEnd → AH → Prop} (h : s_spec_SegsFault a0 σ R) : acall TP fn_spec_SegsFault [a0] σ R :=
  acall_okF (ρ := [a0]) TT_ok Try.func28 rfl x28 x28_ok rfl h

/-- loop.example/g00349/laws.toSegs -/
def s_laws_toSegs (a0 : AV) (σ : AH) (R : AEnd → AH → Prop) : Prop :=
  abox a0 σ fun v1 σ =>
  new [(.val (.int .i64 0)), (.val (.slice none 0 0))] σ fun v2 σ =>
  new [(.val (.int .i64 0)), (.val (.slice none 0 0))] σ fun v3 σ =>
  og (fldA 0 v1) fun v4 =>
  og (lod v4 σ) fun v5 =>
  og (fldA 0 v3) fun v6 =>
  sto 1 v6 v5 σ fun σ =>
  og (fldA 1 v1) fun v7 =>
  og (lod v7 σ) fun v8 =>
  acall TP fn_laws_toSegPartS [v8] σ (onr (fun v9 σ =>
  og (fldA 1 v3) fun v10 =>
  sto 1 v10 v9 σ fun σ =>
  og (lodA 2 v3 σ) fun v11 =>
  sto 2 v2 v11 σ fun σ =>
  og (lodA 2 v2 σ) fun r2 =>
  aret r2 σ R) (fun v σ => apan v σ R))
def x29 : Sx := .box (.var 0) (.new [(.val (.int .i64 0)), (.val (.slice none 0 0))] (.new [(.val (.int .i64 0)), (.val (.slice none 0 0))] (.og (.fldA 0 (.var 2)) (.og (.lod (.var 0)) (.og (.fldA 0 (.var 2)) (.sto 1 (.var 0) (.var 1) (.og (.fldA 1 (.var 5)) (.og (.lod (.var 0)) (.call 67 [(.var 0)] (.og (.fldA 1 (.var 6)) (.sto 1 (.var 0) (.var 1) (.og (.lodA 2 (.var 7)) (.sto 2 (.var 9) (.var 0) (.og (.lodA 2 (.var 9)) (.ret (.var 0))))))))))))))))
set_option maxRecDepth 1000000 in
theorem x29_ok : okF TT Try.f29 1 x29 = true := by decide +kernel
set_option maxRecDepth 1000000 in
theorem s_laws_toSegs_ok {a0 : AV} {σ : AH} {R : AEnd → AH → Prop} (h : s_laws_toSegs a0 σ R) : acall TP fn_laws_toSegs [a0] σ R :=
  acall_okF (ρ := [a0]) TT_ok Try.func29 rfl x29 x29_ok rfl h

/-- loop.example/g00349/impl.SegsFault -/
def s_impl_SegsFault (a0 : AV) (σ : AH) (R : AEnd → AH → Prop) : Prop :=
  abox a0 σ fun v1 σ =>
  og (fldA 0 v1) fun v8 =>
  og (lod v8 σ) fun v9 =>
  acall TP fn_impl_isSize [v9] σ (onr (fun v10 σ =>
  og (aun .not v10) fun v11 =>
  apick v11 (
    aret (.val (.int .i64 3)) σ R) (
    og (fldA 1 v1) fun v12 =>
    og (lod v12 σ) fun v13 =>
    og (lenS v13) fun v14 =>
    og (ibin .sub v14 (.val (.int .i64 1))) fun v15 =>
    og (fldA 1 v1) fun v16 =>
    og (lod v16 σ) fun v17 =>
    og (lenS v17) fun v18 =>
    lp (X := Tup [1, 3, 4, 17, 18, 19]) (fun R1 y1 σ =>
      og (ibin .lss y1.2.2.2.2.2.1 y1.2.2.2.2.1) fun v20 =>
      apick v20 (
        og (idx 1 y1.2.2.2.1 y1.2.2.2.2.2.1 σ) fun v22 =>
        og (lodA 1 v22 σ) fun v23 =>
        new [(.val (.slice none 0 0))] σ fun v6 σ =>
        sto 1 v6 v23 σ fun σ =>
        og (fldA 0 v6) fun v24 =>
        og (lod v24 σ) fun v25 =>
        og (lenS v25) fun v26 =>
        og (fldA 0 y1.1) fun v28 =>
        og (lod v28 σ) fun v29 =>
        acall TP fn_impl_in [v26, (.val (.int .i64 1)), v29] σ (onr (fun v30 σ =>
        og (aun .not v30) fun v31 =>
        og (gval v31 false false (some y1.2.2.2.2.2.1)) fun v33 =>
        og (gval v31 false false (some y1.2.2.1)) fun v34 =>
        og (gval v31 false false (ibin .lss v33 v34)) fun v35 =>
        og (gval v31 false false (some v35)) fun v36 =>
        og (gval v36 true true (some v26)) fun v37 =>
        og (gval v36 true true (fldA 0 y1.1)) fun v38 =>
        og (gval v36 true true (lod v38 σ)) fun v39 =>
        og (gval v36 true true (ibin .neq v37 v39)) fun v40 =>
        og (gval v31 false false (pickV v36 v40 (.val (.bool false)))) fun v41 =>
        og (pickV v31 (.val (.bool true)) v41) fun v42 =>
        apick v42 (
          aret (.val (.int .i64 1)) σ R) (
          og (fldA 0 v6) fun v44 =>
          og (lod v44 σ) fun v45 =>
          og (lenS v45) fun v46 =>
          og (ibin .add y1.2.1 v46) fun v47 =>
          og (ibin .add y1.2.2.2.2.2.1 (.val (.int .i64 1))) fun v48 =>
          R1 (y1.1, v47, y1.2.2.1, y1.2.2.2.1, y1.2.2.2.2.1, v48, ()) σ)) (fun v σ => apan v σ R))) (
        og (ibin .gtr y1.2.1 (.val (.int .i64 4000))) fun v50 =>
        apick v50 (
          aret (.val (.int .i64 2)) σ R) (
          aret (.val (.int .i64 0)) σ R))) (v1, (.val (.int .i64 0)), v15, v17, v18, (.val (.int .i64 0)), ()) σ)) (fun v σ => apan v σ R))
def x30 : Sx := .box (.var 0) (.og (.fldA 0 (.var 0)) (.og (.lod (.var 0)) (.call 62 [(.var 0)] (.og (.aun .not (.var 0)) (.apick (.var 0) (.ret (.lit (.val (.int .i64 3)))) (.ord [0, 1, 2, 3, 4, 5] [0, 1, 3, 7, 0, 31] (.og (.fldA 1 (.var 4)) (.og (.lod (.var 0)) (.og (.lenS (.var 0)) (.og (.ibin .sub (.var 0) (.lit (.val (.int .i64 1)))) (.og (.fldA 1 (.var 8)) (.og (.lod (.var 0)) (.og (.lenS (.var 0)) (.lp [1, 3, 4, 17, 18, 19] (.og (.ibin .lss (.var 5) (.var 4)) (.apick (.var 0) (.og (.idx 1 (.var 4) (.var 6)) (.og (.lodA 1 (.var 0)) (.new [(.val (.slice none 0 0))] (.sto 1 (.var 0) (.var 1) (.og (.fldA 0 (.var 0)) (.og (.lod (.var 0)) (.og (.lenS (.var 0)) (.og (.fldA 0 (.var 7)) (.og (.lod (.var 0)) (.call 60 [(.var 2), (.lit (.val (.int .i64 1))), (.var 0)] (.og (.aun .not (.var 0)) (.gog (.var 0) false false (.ret (.var 16)) (.gog (.var 1) false false (.ret (.var 14)) (.gog (.var 2) false false (.ibin .lss (.var 1) (.var 0)) (.gog (.var 3) false false (.ret (.var 0)) (.gog (.var 0) true true (.ret (.var 8)) (.gog (.var 1) true true (.fldA 0 (.var 16)) (.gog (.var 2) true true (.lod (.var 0)) (.gog (.var 3) true true (.ibin .neq (.var 2) (.var 0)) (.gog (.var 8) false false (.pickV (.var 4) (.var 0) (.lit (.val (.bool false)))) (.og (.pickV (.var 9) (.lit (.val (.bool true))) (.var 0)) (.apick (.var 0) (.ret (.lit (.val (.int .i64 1)))) (.og (.fldA 0 (.var 17)) (.og (.lod (.var 0)) (.og (.lenS (.var 0)) (.og (.ibin .add (.var 25) (.var 0)) (.og (.ibin .add (.var 30) (.lit (.val (.int .i64 1)))) (.jump 0 [(.var 26), (.var 1), (.var 28), (.var 29), (.var 30), (.var 0)])))))))))))))))))))))))))))) (.og (.ibin .gtr (.var 2) (.lit (.val (.int .i64 4000)))) (.apick (.var 0) (.ret (.lit (.val (.int .i64 2)))) (.ret (.lit (.val (.int .i64 0)))))))) [(.var 11), (.lit (.val (.int .i64 0))), (.var 3), (.var 1), (.var 0), (.lit (.val (.int .i64 0)))]))))))))))))))
set_option maxRecDepth 1000000 in
theorem x30_ok : okF TT Try.f30 1 x30 = true := by decide +kernel
set_option maxRecDepth 1000000 in
theorem s_impl_SegsFault_ok {a0 : AV} {σ : AH} {R : AEnd → AH → Prop} (h : s_impl_SegsFault a0 σ R) : acall TP fn_impl_SegsFault [a0] σ R :=
  acall_okF (ρ := [a0]) TT_ok Try.func30 rfl x30 x30_ok rfl h

/-- loop.example/g00349/laws.eqSegs -/
def s_laws_eqSegs (a0 a1 : AV) (σ : AH) (R : AEnd → AH → Prop) : Prop :=
  abox a0 σ fun v2 σ =>
  abox a1 σ fun v3 σ =>
  og (fldA 0 v2) fun v5 =>
  og (lod v5 σ) fun v6 =>
  og (fldA 0 v3) fun v7 =>
  og (lod v7 σ) fun v8 =>
  og (ibin .neq v6 v8) fun v9 =>
  apick v9 (
    aret (.val (.bool false)) σ R) (
    og (fldA 1 v2) fun v10 =>
    og (lod v10 σ) fun v11 =>
    og (fldA 1 v3) fun v12 =>
    og (lod v12 σ) fun v13 =>
    acall TP fn_laws_eqSegPartS [v11, v13] σ (onr (fun v14 σ =>
    og (aun .not v14) fun v15 =>
    apick v15 (
      aret (.val (.bool false)) σ R) (
      aret (.val (.bool true)) σ R)) (fun v σ => apan v σ R)))
def x31 : Sx := .box (.var 1) (.box (.var 1) (.og (.fldA 0 (.var 1)) (.og (.lod (.var 0)) (.og (.fldA 0 (.var 2)) (.og (.lod (.var 0)) (.og (.ibin .neq (.var 2) (.var 0)) (.apick (.var 0) (.ret (.lit (.val (.bool false)))) (.og (.fldA 1 (.var 6)) (.og (.lod (.var 0)) (.og (.fldA 1 (.var 7)) (.og (.lod (.var 0)) (.call 68 [(.var 2), (.var 0)] (.og (.aun .not (.var 0)) (.apick (.var 0) (.ret (.lit (.val (.bool false)))) (.ret (.lit (.val (.bool true))))))))))))))))))
set_option maxRecDepth 1000000 in
theorem x31_ok : okF TT Try.f31 2 x31 = true := by decide +kernel
set_option maxRecDepth 1000000 in
theorem s_laws_eqSegs_ok {a0 a1 : AV} {σ : AH} {R : AEnd → AH → Prop} (h : s_laws_eqSegs a0 a1 σ R) : acall TP fn_laws_eqSegs [a0, a1] σ R :=
  acall_okF (ρ := [a1, a0]) TT_ok Try.func31 rfl x31 x31_ok rfl h

/-- loop.example/g00349/laws.lwBig -/
def s_laws_lwBig (a0 : AV) (σ : AH) (R : AEnd → AH → Prop) : Prop :=
  og (lenS a0) fun v4 =>
  og (ibin .gtr v4 (.val (.int .i64 1048576))) fun v5 =>
  aret v5 σ R
def x32 : Sx := .og (.lenS (.var 0)) (.og (.ibin .gtr (.var 0) (.lit (.val (.int .i64 1048576)))) (.ret (.var 0)))
set_option maxRecDepth 1000000 in
theorem x32_ok : okF TT Try.f32 1 x32 = true := by decide +kernel
set_option maxRecDepth 1000000 in
theorem s_laws_lwBig_ok {a0 : AV} {σ : AH} {R : AEnd → AH → Prop} (h : s_laws_lwBig a0 σ R) : acall TP fn_laws_lwBig [a0] σ R :=
  acall_okF (ρ := [a0]) TT_ok Try.func32 rfl x32 x32_ok rfl h

/-- loop.example/g00349/spec.DrawFirstApart -/
def s_spec_DrawFirstApart (a0 : AV) (σ : AH) (R : AEnd → AH → Prop) : Prop :=
  acall TP fn_spec_l1Source [a0] σ (onr (fun v8 σ =>
  acall TP fn_spec_l8DrawLines [v8] σ (onr (fun v10 σ =>
  bsl 1 [(.val (.string ⟨#[]⟩))] 0 [] σ fun v11 σ =>
  app 1 v11 v10 σ fun v13 σ =>
  jn (X := Tup [5, 6]) (fun x1 σ =>
      aret (.tup [x1.1, x1.2.1]) σ R) fun k1 =>
    acall TP fn_spec_l1Next [v8, (.val (.int .i64 4))] σ (onr (fun v15 σ =>
    og (ibin .eql v15 (.val (.int .i64 0))) fun v17 =>
    apick v17 (
      bsl 1 [(.val (.string ⟨#[]⟩))] 1 [(0, (.val (.string ⟨#[120]⟩)))] σ fun v19 σ =>
      app 1 v13 v19 σ fun v20 σ =>
      k1 (v10, v20, ()) σ) (
      og (ibin .eql v15 (.val (.int .i64 1))) fun v22 =>
      apick v22 (
        og (lenS v13) fun v24 =>
        og (ibin .gtr v24 (.val (.int .i64 0))) fun v25 =>
        apick v25 (
          og (lenS v13) fun v29 =>
          acall TP fn_spec_l1Next [v8, v29] σ (onr (fun v30 σ =>
          og (idx 1 v13 v30 σ) fun v31 =>
          sto 1 v31 (.val (.string ⟨#[121]⟩)) σ fun σ =>
          k1 (v10, v13, ()) σ) (fun v σ => apan v σ R))) (
          k1 (v10, v13, ()) σ)) (
        k1 (v10, v13, ()) σ))) (fun v σ => apan v σ R))) (fun v σ => apan v σ R))) (fun v σ => apan v σ R))
def x33 : Sx := .call 69 [(.var 0)] (.call 70 [(.var 0)] (.bsl 1 [(.val (.string ⟨#[]⟩))] 0 [] (.app 1 (.var 0) (.var 1) (.jn 63 [5, 6] (.rets [(.var 0), (.var 1)]) (.call 71 [(.var 3), (.lit (.val (.int .i64 4)))] (.og (.ibin .eql (.var 0) (.lit (.val (.int .i64 0)))) (.apick (.var 0) (.bsl 1 [(.val (.string ⟨#[]⟩))] 1 [(0, (.lit (.val (.string ⟨#[120]⟩))))] (.app 1 (.var 3) (.var 0) (.jump 0 [(.var 6), (.var 0)]))) (.og (.ibin .eql (.var 1) (.lit (.val (.int .i64 1)))) (.apick (.var 0) (.og (.lenS (.var 3)) (.og (.ibin .gtr (.var 0) (.lit (.val (.int .i64 0)))) (.apick (.var 0) (.og (.lenS (.var 5)) (.call 71 [(.var 9), (.var 0)] (.og (.idx 1 (.var 7) (.var 0)) (.sto 1 (.var 0) (.lit (.val (.string ⟨#[121]⟩))) (.jump 0 [(.var 10), (.var 8)]))))) (.jump 0 [(.var 7), (.var 5)])))) (.jump 0 [(.var 5), (.var 3)]))))))))))
set_option maxRecDepth 1000000 in
theorem x33_ok : okF TT Try.f33 1 x33 = true := by decide +kernel
set_option maxRecDepth 1000000 in
theorem s_spec_DrawFirstApart_ok {a0 : AV} {σ : AH} {R : AEnd → AH → Prop} (h : s_spec_DrawFirstApart a0 σ R) : acall TP fn_spec_DrawFirstApart [a0] σ R :=
  acall_okF (ρ := [a0]) TT_ok Try.func33 rfl x33 x33_ok rfl h

/-- loop.example/g00349/laws.lwTexts -/
def s_laws_lwTexts (a0 a1 : AV) (σ : AH) (R : AEnd → AH → Prop) : Prop :=
  og (lenS a0) fun v7 =>
  og (lenS a1) fun v9 =>
  og (ibin .neq v7 v9) fun v10 =>
  apick v10 (
    aret (.val (.bool false)) σ R) (
    lp (X := Tup [0, 1, 5]) (fun R1 y1 σ =>
      og (lenS y1.1) fun v13 =>
      og (ibin .lss y1.2.2.1 v13) fun v14 =>
      apick v14 (
        og (idx 1 y1.1 y1.2.2.1 σ) fun v19 =>
        og (lod v19 σ) fun v20 =>
        og (idx 1 y1.2.1 y1.2.2.1 σ) fun v23 =>
        og (lod v23 σ) fun v24 =>
        og (sbin .neq v20 v24) fun v25 =>
        apick v25 (
          aret (.val (.bool false)) σ R) (
          og (ibin .add y1.2.2.1 (.val (.int .i64 1))) fun v16 =>
          R1 (y1.1, y1.2.1, v16, ()) σ)) (
        aret (.val (.bool true)) σ R)) (a0, a1, (.val (.int .i64 0)), ()) σ)
def x34 : Sx := .og (.lenS (.var 1)) (.og (.lenS (.var 1)) (.og (.ibin .neq (.var 1) (.var 0)) (.apick (.var 0) (.ret (.lit (.val (.bool false)))) (.lp [0, 1, 5] (.og (.lenS (.var 0)) (.og (.ibin .lss (.var 3) (.var 0)) (.apick (.var 0) (.ord [0, 1, 2, 3, 4, 5, 6, 7, 8] [0, 0, 3, 7, 0, 0, 48, 112, 255] (.og (.idx 1 (.var 2) (.var 4)) (.og (.lod (.var 0)) (.og (.idx 1 (.var 5) (.var 6)) (.og (.lod (.var 0)) (.og (.sbin .neq (.var 2) (.var 0)) (.apick (.var 0) (.ret (.lit (.val (.bool false)))) (.og (.ibin .add (.var 9) (.lit (.val (.int .i64 1)))) (.jump 0 [(.var 8), (.var 9), (.var 0)]))))))))) (.ret (.lit (.val (.bool true))))))) [(.var 4), (.var 3), (.lit (.val (.int .i64 0)))]))))
set_option maxRecDepth 1000000 in
theorem x34_ok : okF TT Try.f34 2 x34 = true := by decide +kernel
set_option maxRecDepth 1000000 in
theorem s_laws_lwTexts_ok {a0 a1 : AV} {σ : AH} {R : AEnd → AH → Prop} (h : s_laws_lwTexts a0 a1 σ R) : acall TP fn_laws_lwTexts [a0, a1] σ R :=
  acall_okF (ρ := [a1, a0]) TT_ok Try.func34 rfl x34 x34_ok rfl h

/-- loop.example/g00349/spec.DepthSegs -/
def s_spec_DepthSegs (a0 : AV) (σ : AH) (R : AEnd → AH → Prop) : Prop :=
  abox a0 σ fun v1 σ =>
  new [(.val (.int .i64 0)), (.val (.int .i64 0))] σ fun v2 σ =>
  acall TP fn_spec_l12Fault [v1] σ (onr (fun v4 σ =>
  og (ibin .neq v4 (.val (.int .i64 0))) fun v6 =>
  apick v6 (
    og (bld [(.val (.int .i64 0)), (.val (.int .i64 0))] [(0, 1), (1, 1)] [(0, v4)]) fun v8 =>
    sto 2 v2 v8 σ fun σ =>
    og (lodA 2 v2 σ) fun r2 =>
    aret r2 σ R) (
    acall TP fn_spec_l12Depth [v1] σ (onr (fun v9 σ =>
    og (bld [(.val (.int .i64 0)), (.val (.int .i64 0))] [(0, 1), (1, 1)] [(1, v9)]) fun v10 =>
    sto 2 v2 v10 σ fun σ =>
    og (lodA 2 v2 σ) fun r2 =>
    aret r2 σ R) (fun v σ => apan v σ R)))) (fun v σ => apan v σ R))
def x35 : Sx := .box (.var 0) (.new [(.val (.int .i64 0)), (.val (.int .i64 0))] (.call 66 [(.var 1)] (.og (.ibin .neq (.var 0) (.lit (.val (.int .i64 0)))) (.apick (.var 0) (.og (.bld [(.val (.int .i64 0)), (.val (.int .i64 0))] [(0, 1), (1, 1)] [(0, (.var 1))]) (.sto 2 (.var 3) (.var 0) (.og (.lodA 2 (.var 3)) (.ret (.var 0))))) (.call 72 [(.var 3)] (.og (.bld [(.val (.int .i64 0)), (.val (.int .i64 0))] [(0, 1), (1, 1)] [(1, (.var 0))]) (.sto 2 (.var 4) (.var 0) (.og (.lodA 2 (.var 4)) (.ret (.var 0))))))))))
set_option maxRecDepth 1000000 in
theorem x35_ok : okF TT Try.f35 1 x35 = true := by decide +kernel
set_option maxRecDepth 1000000 in
theorem s_spec_DepthSegs_ok {a0 : AV} {σ : AH} {R : AEnd → AH → Prop} (h : s_spec_DepthSegs a0 σ R) : acall TP fn_spec_DepthSegs [a0] σ R :=
  acall_okF (ρ := [a0]) TT_ok Try.func35 rfl x35 x35_ok rfl h

/-- loop.example/g00349/impl.DepthSegs -/
def s_impl_DepthSegs (a0 : AV) (σ : AH) (R : AEnd → AH → Prop) : Prop :=
  abox a0 σ fun v1 σ =>
  new [(.val (.int .i64 0)), (.val (.int .i64 0))] σ fun v2 σ =>
  og (lodA 2 v1 σ) fun v4 =>
  acall TP fn_impl_SegsFault [v4] σ (onr (fun v5 σ =>
  og (ibin .neq v5 (.val (.int .i64 0))) fun v7 =>
  apick v7 (
    og (bld [(.val (.int .i64 0)), (.val (.int .i64 0))] [(0, 1), (1, 1)] [(0, v5)]) fun v9 =>
    sto 2 v2 v9 σ fun σ =>
    og (lodA 2 v2 σ) fun r2 =>
    aret r2 σ R) (
    og (lodA 2 v1 σ) fun v10 =>
    acall TP fn_impl_Segs_items [v10] σ (onr (fun v11 σ =>
    og (lenS v11) fun v12 =>
    og (bld [(.val (.int .i64 0)), (.val (.int .i64 0))] [(0, 1), (1, 1)] [(1, v12)]) fun v13 =>
    sto 2 v2 v13 σ fun σ =>
    og (lodA 2 v2 σ) fun r2 =>
    aret r2 σ R) (fun v σ => apan v σ R)))) (fun v σ => apan v σ R))
def x36 : Sx := .box (.var 0) (.new [(.val (.int .i64 0)), (.val (.int .i64 0))] (.og (.lodA 2 (.var 1)) (.call 30 [(.var 0)] (.og (.ibin .neq (.var 0) (.lit (.val (.int .i64 0)))) (.apick (.var 0) (.og (.bld [(.val (.int .i64 0)), (.val (.int .i64 0))] [(0, 1), (1, 1)] [(0, (.var 1))]) (.sto 2 (.var 4) (.var 0) (.og (.lodA 2 (.var 4)) (.ret (.var 0))))) (.og (.lodA 2 (.var 4)) (.call 73 [(.var 0)] (.og (.lenS (.var 0)) (.og (.bld [(.val (.int .i64 0)), (.val (.int .i64 0))] [(0, 1), (1, 1)] [(1, (.var 0))]) (.sto 2 (.var 7) (.var 0) (.og (.lodA 2 (.var 7)) (.ret (.var 0)))))))))))))
set_option maxRecDepth 1000000 in
theorem x36_ok : okF TT Try.f36 1 x36 = true := by decide +kernel
set_option maxRecDepth 1000000 in
theorem s_impl_DepthSegs_ok {a0 : AV} {σ : AH} {R : AEnd → AH → Prop} (h : s_impl_DepthSegs a0 σ R) : acall TP fn_impl_DepthSegs [a0] σ R :=
  acall_okF (ρ := [a0]) TT_ok Try.func36 rfl x36 x36_ok rfl h

/-- loop.example/g00349/spec.OpenSegs -/
def s_spec_OpenSegs (a0 a1 : AV) (σ : AH) (R : AEnd → AH → Prop) : Prop :=
  new [(.val (.int .i64 0)), (.val (.int .i64 0)), (.val (.int .i64 0)), (.val (.slice none 0 0))] σ fun v4 σ =>
  acall TP fn_spec_l12Size [a0] σ (onr (fun v6 σ =>
  og (aun .not v6) fun v7 =>
  apick v7 (
    og (bld [(.val (.int .i64 0)), (.val (.int .i64 0)), (.val (.int .i64 0)), (.val (.slice none 0 0))] [(0, 1), (1, 1), (2, 2)] [(0, (.val (.int .i64 3)))]) fun v8 =>
    sto 4 v4 v8 σ fun σ =>
    og (lodA 4 v4 σ) fun r4 =>
    aret r4 σ R) (
    og (lenS a1) fun v10 =>
    og (ibin .gtr v10 (.val (.int .i64 4000))) fun v11 =>
    apick v11 (
      og (bld [(.val (.int .i64 0)), (.val (.int .i64 0)), (.val (.int .i64 0)), (.val (.slice none 0 0))] [(0, 1), (1, 1), (2, 2)] [(0, (.val (.int .i64 2)))]) fun v12 =>
      sto 4 v4 v12 σ fun σ =>
      og (lodA 4 v4 σ) fun r4 =>
      aret r4 σ R) (
      acall TP fn_spec_l12Open [a0, a1] σ (onr (fun v15 σ =>
      og (bld [(.val (.int .i64 0)), (.val (.int .i64 0)), (.val (.int .i64 0)), (.val (.slice none 0 0))] [(0, 1), (1, 1), (2, 2)] [(2, v15)]) fun v16 =>
      sto 4 v4 v16 σ fun σ =>
      og (lodA 4 v4 σ) fun r4 =>
      aret r4 σ R) (fun v σ => apan v σ R))))) (fun v σ => apan v σ R))
def x37 : Sx := .new [(.val (.int .i64 0)), (.val (.int .i64 0)), (.val (.int .i64 0)), (.val (.slice none 0 0))] (.call 74 [(.var 2)] (.og (.aun .not (.var 0)) (.apick (.var 0) (.og (.bld [(.val (.int .i64 0)), (.val (.int .i64 0)), (.val (.int .i64 0)), (.val (.slice none 0 0))] [(0, 1), (1, 1), (2, 2)] [(0, (.lit (.val (.int .i64 3))))]) (.sto 4 (.var 3) (.var 0) (.og (.lodA 4 (.var 3)) (.ret (.var 0))))) (.og (.lenS (.var 3)) (.og (.ibin .gtr (.var 0) (.lit (.val (.int .i64 4000)))) (.apick (.var 0) (.og (.bld [(.val (.int .i64 0)), (.val (.int .i64 0)), (.val (.int .i64 0)), (.val (.slice none 0 0))] [(0, 1), (1, 1), (2, 2)] [(0, (.lit (.val (.int .i64 2))))]) (.sto 4 (.var 5) (.var 0) (.og (.lodA 4 (.var 5)) (.ret (.var 0))))) (.call 75 [(.var 6), (.var 5)] (.og (.bld [(.val (.int .i64 0)), (.val (.int .i64 0)), (.val (.int .i64 0)), (.val (.slice none 0 0))] [(0, 1), (1, 1), (2, 2)] [(2, (.var 0))]) (.sto 4 (.var 6) (.var 0) (.og (.lodA 4 (.var 6)) (.ret (.var 0))))))))))))
set_option maxRecDepth 1000000 in
theorem x37_ok : okF TT Try.f37 2 x37 = true := by decide +kernel
set_option maxRecDepth 1000000 in
theorem s_spec_OpenSegs_ok {a0 a1 : AV} {σ : AH} {R : AEnd → AH → Prop} (h : s_spec_OpenSegs a0 a1 σ R) : acall TP fn_spec_OpenSegs [a0, a1] σ R :=
  acall_okF (ρ := [a1, a0]) TT_ok Try.func37 rfl x37 x37_ok rfl h

/-- loop.example/g00349/laws.toInt64S -/
def s_laws_toInt64S (a0 : AV) (σ : AH) (R : AEnd → AH → Prop) : Prop :=
  og (lenS a0) fun v6 =>
  amake TT ty_Li v6 v6 σ fun v7 σ =>
  lp (X := Tup [0, 3, 4]) (fun R1 y1 σ =>
    og (lenS y1.1) fun v10 =>
    og (ibin .lss y1.2.2.1 v10) fun v11 =>
    apick v11 (
      og (idx 1 y1.1 y1.2.2.1 σ) fun v18 =>
      og (lod v18 σ) fun v19 =>
      og (idx 1 y1.2.1 y1.2.2.1 σ) fun v20 =>
      sto 1 v20 v19 σ fun σ =>
      og (ibin .add y1.2.2.1 (.val (.int .i64 1))) fun v13 =>
      R1 (y1.1, y1.2.1, v13, ()) σ) (
      aret y1.2.1 σ R)) (a0, v7, (.val (.int .i64 0)), ()) σ
def x38 : Sx := .og (.lenS (.var 0)) (.mks 56 (.var 0) (.var 0) (.lp [0, 3, 4] (.og (.lenS (.var 0)) (.og (.ibin .lss (.var 3) (.var 0)) (.apick (.var 0) (.og (.idx 1 (.var 2) (.var 4)) (.og (.lod (.var 0)) (.og (.idx 1 (.var 5) (.var 6)) (.sto 1 (.var 0) (.var 1) (.og (.ibin .add (.var 7) (.lit (.val (.int .i64 1)))) (.jump 0 [(.var 6), (.var 7), (.var 0)])))))) (.ret (.var 3))))) [(.var 2), (.var 0), (.lit (.val (.int .i64 0)))]))
set_option maxRecDepth 1000000 in
theorem x38_ok : okF TT Try.f38 1 x38 = true := by decide +kernel
set_option maxRecDepth 1000000 in
theorem s_laws_toInt64S_ok {a0 : AV} {σ : AH} {R : AEnd → AH → Prop} (h : s_laws_toInt64S a0 σ R) : acall TP fn_laws_toInt64S [a0] σ R :=
  acall_okF (ρ := [a0]) TT_ok Try.func38 rfl x38 x38_ok rfl h

/-- loop.example/g00349/impl.OpenSegs -/
def s_impl_OpenSegs (a0 a1 : AV) (σ : AH) (R : AEnd → AH → Prop) : Prop :=
  new [(.val (.int .i64 0)), (.val (.int .i64 0)), (.val (.int .i64 0)), (.val (.slice none 0 0))] σ fun v4 σ =>
  acall TP fn_impl_isSize [a0] σ (onr (fun v7 σ =>
  og (aun .not v7) fun v8 =>
  apick v8 (
    og (bld [(.val (.int .i64 0)), (.val (.int .i64 0)), (.val (.int .i64 0)), (.val (.slice none 0 0))] [(0, 1), (1, 1), (2, 2)] [(0, (.val (.int .i64 3)))]) fun v9 =>
    sto 4 v4 v9 σ fun σ =>
    og (lodA 4 v4 σ) fun r4 =>
    aret r4 σ R) (
    og (lenS a1) fun v12 =>
    og (ibin .gtr v12 (.val (.int .i64 4000))) fun v13 =>
    apick v13 (
      og (bld [(.val (.int .i64 0)), (.val (.int .i64 0)), (.val (.int .i64 0)), (.val (.slice none 0 0))] [(0, 1), (1, 1), (2, 2)] [(0, (.val (.int .i64 2)))]) fun v14 =>
      sto 4 v4 v14 σ fun σ =>
      og (lodA 4 v4 σ) fun r4 =>
      aret r4 σ R) (
      acall TP fn_impl_segsOf [a0, a1] σ (onr (fun v17 σ =>
      og (bld [(.val (.int .i64 0)), (.val (.int .i64 0)), (.val (.int .i64 0)), (.val (.slice none 0 0))] [(0, 1), (1, 1), (2, 2)] [(2, v17)]) fun v18 =>
      sto 4 v4 v18 σ fun σ =>
      og (lodA 4 v4 σ) fun r4 =>
      aret r4 σ R) (fun v σ => apan v σ R))))) (fun v σ => apan v σ R))
def x39 : Sx := .new [(.val (.int .i64 0)), (.val (.int .i64 0)), (.val (.int .i64 0)), (.val (.slice none 0 0))] (.call 62 [(.var 2)] (.og (.aun .not (.var 0)) (.apick (.var 0) (.og (.bld [(.val (.int .i64 0)), (.val (.int .i64 0)), (.val (.int .i64 0)), (.val (.slice none 0 0))] [(0, 1), (1, 1), (2, 2)] [(0, (.lit (.val (.int .i64 3))))]) (.sto 4 (.var 3) (.var 0) (.og (.lodA 4 (.var 3)) (.ret (.var 0))))) (.og (.lenS (.var 3)) (.og (.ibin .gtr (.var 0) (.lit (.val (.int .i64 4000)))) (.apick (.var 0) (.og (.bld [(.val (.int .i64 0)), (.val (.int .i64 0)), (.val (.int .i64 0)), (.val (.slice none 0 0))] [(0, 1), (1, 1), (2, 2)] [(0, (.lit (.val (.int .i64 2))))]) (.sto 4 (.var 5) (.var 0) (.og (.lodA 4 (.var 5)) (.ret (.var 0))))) (.call 76 [(.var 6), (.var 5)] (.og (.bld [(.val (.int .i64 0)), (.val (.int .i64 0)), (.val (.int .i64 0)), (.val (.slice none 0 0))] [(0, 1), (1, 1), (2, 2)] [(2, (.var 0))]) (.sto 4 (.var 6) (.var 0) (.og (.lodA 4 (.var 6)) (.ret (.var 0))))))))))))
set_option maxRecDepth 1000000 in
theorem x39_ok : okF TT Try.f39 2 x39 = true := by decide +kernel
set_option maxRecDepth 1000000 in
theorem s_impl_OpenSegs_ok {a0 a1 : AV} {σ : AH} {R : AEnd → AH → Prop} (h : s_impl_OpenSegs a0 a1 σ R) : acall TP fn_impl_OpenSegs [a0, a1] σ R :=
  acall_okF (ρ := [a1, a0]) TT_ok Try.func39 rfl x39 x39_ok rfl h

/-- loop.example/g00349/laws.eqSegsResult -/
def s_laws_eqSegsResult (a0 a1 : AV) (σ : AH) (R : AEnd → AH → Prop) : Prop :=
  abox a0 σ fun v2 σ =>
  abox a1 σ fun v3 σ =>
  og (fldA 0 v2) fun v5 =>
  og (lod v5 σ) fun v6 =>
  og (fldA 0 v3) fun v7 =>
  og (lod v7 σ) fun v8 =>
  og (ibin .neq v6 v8) fun v9 =>
  apick v9 (
    aret (.val (.bool false)) σ R) (
    og (fldA 1 v2) fun v10 =>
    og (lod v10 σ) fun v11 =>
    og (fldA 1 v3) fun v12 =>
    og (lod v12 σ) fun v13 =>
    og (ibin .neq v11 v13) fun v14 =>
    apick v14 (
      aret (.val (.bool false)) σ R) (
      og (fldA 2 v2) fun v15 =>
      og (lodA 2 v15 σ) fun v16 =>
      og (fldA 2 v3) fun v17 =>
      og (lodA 2 v17 σ) fun v18 =>
      acall TP fn_laws_eqSegs [v16, v18] σ (onr (fun v19 σ =>
      og (aun .not v19) fun v20 =>
      apick v20 (
        aret (.val (.bool false)) σ R) (
        aret (.val (.bool true)) σ R)) (fun v σ => apan v σ R))))
def x40 : Sx := .box (.var 1) (.box (.var 1) (.og (.fldA 0 (.var 1)) (.og (.lod (.var 0)) (.og (.fldA 0 (.var 2)) (.og (.lod (.var 0)) (.og (.ibin .neq (.var 2) (.var 0)) (.apick (.var 0) (.ret (.lit (.val (.bool false)))) (.og (.fldA 1 (.var 6)) (.og (.lod (.var 0)) (.og (.fldA 1 (.var 7)) (.og (.lod (.var 0)) (.og (.ibin .neq (.var 2) (.var 0)) (.apick (.var 0) (.ret (.lit (.val (.bool false)))) (.og (.fldA 2 (.var 11)) (.og (.lodA 2 (.var 0)) (.og (.fldA 2 (.var 12)) (.og (.lodA 2 (.var 0)) (.call 31 [(.var 2), (.var 0)] (.og (.aun .not (.var 0)) (.apick (.var 0) (.ret (.lit (.val (.bool false)))) (.ret (.lit (.val (.bool true))))))))))))))))))))))))
set_option maxRecDepth 1000000 in
theorem x40_ok : okF TT Try.f40 2 x40 = true := by decide +kernel
set_option maxRecDepth 1000000 in
theorem s_laws_eqSegsResult_ok {a0 a1 : AV} {σ : AH} {R : AEnd → AH → Prop} (h : s_laws_eqSegsResult a0 a1 σ R) : acall TP fn_laws_eqSegsResult [a0, a1] σ R :=
  acall_okF (ρ := [a1, a0]) TT_ok Try.func40 rfl x40 x40_ok rfl h

/-- loop.example/g00349/laws.eqInt64S -/
def s_laws_eqInt64S (a0 a1 : AV) (σ : AH) (R : AEnd → AH → Prop) : Prop :=
  og (lenS a0) fun v7 =>
  og (lenS a1) fun v9 =>
  og (ibin .neq v7 v9) fun v10 =>
  apick v10 (
    aret (.val (.bool false)) σ R) (
    lp (X := Tup [0, 1, 5]) (fun R1 y1 σ =>
      og (lenS y1.1) fun v13 =>
      og (ibin .lss y1.2.2.1 v13) fun v14 =>
      apick v14 (
        og (idx 1 y1.1 y1.2.2.1 σ) fun v19 =>
        og (lod v19 σ) fun v20 =>
        og (idx 1 y1.2.1 y1.2.2.1 σ) fun v23 =>
        og (lod v23 σ) fun v24 =>
        og (ibin .neq v20 v24) fun v25 =>
        apick v25 (
          aret (.val (.bool false)) σ R) (
          og (ibin .add y1.2.2.1 (.val (.int .i64 1))) fun v16 =>
          R1 (y1.1, y1.2.1, v16, ()) σ)) (
        aret (.val (.bool true)) σ R)) (a0, a1, (.val (.int .i64 0)), ()) σ)
def x41 : Sx := .og (.lenS (.var 1)) (.og (.lenS (.var 1)) (.og (.ibin .neq (.var 1) (.var 0)) (.apick (.var 0) (.ret (.lit (.val (.bool false)))) (.lp [0, 1, 5] (.og (.lenS (.var 0)) (.og (.ibin .lss (.var 3) (.var 0)) (.apick (.var 0) (.ord [0, 1, 2, 3, 4, 5, 6, 7, 8] [0, 0, 3, 7, 0, 0, 48, 112, 255] (.og (.idx 1 (.var 2) (.var 4)) (.og (.lod (.var 0)) (.og (.idx 1 (.var 5) (.var 6)) (.og (.lod (.var 0)) (.og (.ibin .neq (.var 2) (.var 0)) (.apick (.var 0) (.ret (.lit (.val (.bool false)))) (.og (.ibin .add (.var 9) (.lit (.val (.int .i64 1)))) (.jump 0 [(.var 8), (.var 9), (.var 0)]))))))))) (.ret (.lit (.val (.bool true))))))) [(.var 4), (.var 3), (.lit (.val (.int .i64 0)))]))))
set_option maxRecDepth 1000000 in
theorem x41_ok : okF TT Try.f41 2 x41 = true := by decide +kernel
set_option maxRecDepth 1000000 in
theorem s_laws_eqInt64S_ok {a0 a1 : AV} {σ : AH} {R : AEnd → AH → Prop} (h : s_laws_eqInt64S a0 a1 σ R) : acall TP fn_laws_eqInt64S [a0, a1] σ R :=
  acall_okF (ρ := [a1, a0]) TT_ok Try.func41 rfl x41 x41_ok rfl h

/-- loop.example/g00349/laws.markInt64S -/
def s_laws_markInt64S (a0 a1 : AV) (σ : AH) (R : AEnd → AH → Prop) : Prop :=
  lp (X := Tup [0, 1, 5]) (fun R1 y1 σ =>
    og (lenS y1.1) fun v8 =>
    og (ibin .lss y1.2.2.1 v8) fun v9 =>
    apick v9 (
      og (idx 1 y1.1 y1.2.2.1 σ) fun v15 =>
      sto 1 v15 y1.2.1 σ fun σ =>
      og (ibin .add y1.2.1 (.val (.int .i64 1))) fun v17 =>
      og (ibin .add y1.2.2.1 (.val (.int .i64 1))) fun v11 =>
      R1 (y1.1, v17, v11, ()) σ) (
      aret y1.2.1 σ R)) (a0, a1, (.val (.int .i64 0)), ()) σ
def x42 : Sx := .lp [0, 1, 5] (.og (.lenS (.var 0)) (.og (.ibin .lss (.var 3) (.var 0)) (.apick (.var 0) (.og (.idx 1 (.var 2) (.var 4)) (.sto 1 (.var 0) (.var 4) (.og (.ibin .add (.var 4) (.lit (.val (.int .i64 1)))) (.og (.ibin .add (.var 6) (.lit (.val (.int .i64 1)))) (.jump 0 [(.var 5), (.var 1), (.var 0)]))))) (.ret (.var 3))))) [(.var 1), (.var 0), (.lit (.val (.int .i64 0)))]
set_option maxRecDepth 1000000 in
theorem x42_ok : okF TT Try.f42 2 x42 = true := by decide +kernel
set_option maxRecDepth 1000000 in
theorem s_laws_markInt64S_ok {a0 a1 : AV} {σ : AH} {R : AEnd → AH → Prop} (h : s_laws_markInt64S a0 a1 σ R) : acall TP fn_laws_markInt64S [a0, a1] σ R :=
  acall_okF (ρ := [a1, a0]) TT_ok Try.func42 rfl x42 x42_ok rfl h

/-- loop.example/g00349/laws.markSegsResult -/
def s_laws_markSegsResult (a0 a1 : AV) (σ : AH) (R : AEnd → AH → Prop) : Prop :=
  abox a0 σ fun v2 σ =>
  og (fldA 2 v2) fun v5 =>
  og (lodA 2 v5 σ) fun v6 =>
  acall TP fn_laws_markSegs [v6, a1] σ (onr (fun v8 σ =>
  aret v8 σ R) (fun v σ => apan v σ R))
def x43 : Sx := .box (.var 1) (.og (.fldA 2 (.var 0)) (.og (.lodA 2 (.var 0)) (.call 48 [(.var 0), (.var 3)] (.ret (.var 0)))))
set_option maxRecDepth 1000000 in
theorem x43_ok : okF TT Try.f43 2 x43 = true := by decide +kernel
set_option maxRecDepth 1000000 in
theorem s_laws_markSegsResult_ok {a0 a1 : AV} {σ : AH} {R : AEnd → AH → Prop} (h : s_laws_markSegsResult a0 a1 σ R) : acall TP fn_laws_markSegsResult [a0, a1] σ R :=
  acall_okF (ρ := [a1, a0]) TT_ok Try.func43 rfl x43 x43_ok rfl h

/-- loop.example/g00349/laws.heldSegsResult -/
def s_laws_heldSegsResult (a0 a1 : AV) (σ : AH) (R : AEnd → AH → Prop) : Prop :=
  abox a0 σ fun v2 σ =>
  og (fldA 2 v2) fun v5 =>
  og (lodA 2 v5 σ) fun v6 =>
  acall TP fn_laws_heldSegs [v6, a1] σ (onr (fun v8 σ =>
  og (ibin .lss v8 (.val (.int .i64 0))) fun v10 =>
  apick v10 (
    aret (.val (.int .i64 (-1))) σ R) (
    aret v8 σ R)) (fun v σ => apan v σ R))
def x44 : Sx := .box (.var 1) (.og (.fldA 2 (.var 0)) (.og (.lodA 2 (.var 0)) (.call 77 [(.var 0), (.var 3)] (.og (.ibin .lss (.var 0) (.lit (.val (.int .i64 0)))) (.apick (.var 0) (.ret (.lit (.val (.int .i64 (-1))))) (.ret (.var 1)))))))
set_option maxRecDepth 1000000 in
theorem x44_ok : okF TT Try.f44 2 x44 = true := by decide +kernel
set_option maxRecDepth 1000000 in
theorem s_laws_heldSegsResult_ok {a0 a1 : AV} {σ : AH} {R : AEnd → AH → Prop} (h : s_laws_heldSegsResult a0 a1 σ R) : acall TP fn_laws_heldSegsResult [a0, a1] σ R :=
  acall_okF (ρ := [a1, a0]) TT_ok Try.func44 rfl x44 x44_ok rfl h

/-- loop.example/g00349/spec.ListSegs -/
def s_spec_ListSegs (a0 : AV) (σ : AH) (R : AEnd → AH → Prop) : Prop :=
  abox a0 σ fun v1 σ =>
  new [(.val (.int .i64 0)), (.val (.slice none 0 0))] σ fun v2 σ =>
  acall TP fn_spec_l12Fault [v1] σ (onr (fun v4 σ =>
  og (ibin .neq v4 (.val (.int .i64 0))) fun v6 =>
  apick v6 (
    og (bld [(.val (.int .i64 0)), (.val (.slice none 0 0))] [(0, 1), (1, 1)] [(0, v4)]) fun v8 =>
    sto 2 v2 v8 σ fun σ =>
    og (lodA 2 v2 σ) fun r2 =>
    aret r2 σ R) (
    acall TP fn_spec_l12List [v1] σ (onr (fun v9 σ =>
    og (bld [(.val (.int .i64 0)), (.val (.slice none 0 0))] [(0, 1), (1, 1)] [(1, v9)]) fun v10 =>
    sto 2 v2 v10 σ fun σ =>
    og (lodA 2 v2 σ) fun r2 =>
    aret r2 σ R) (fun v σ => apan v σ R)))) (fun v σ => apan v σ R))
def x45 : Sx := .box (.var 0) (.new [(.val (.int .i64 0)), (.val (.slice none 0 0))] (.call 66 [(.var 1)] (.og (.ibin .neq (.var 0) (.lit (.val (.int .i64 0)))) (.apick (.var 0) (.og (.bld [(.val (.int .i64 0)), (.val (.slice none 0 0))] [(0, 1), (1, 1)] [(0, (.var 1))]) (.sto 2 (.var 3) (.var 0) (.og (.lodA 2 (.var 3)) (.ret (.var 0))))) (.call 78 [(.var 3)] (.og (.bld [(.val (.int .i64 0)), (.val (.slice none 0 0))] [(0, 1), (1, 1)] [(1, (.var 0))]) (.sto 2 (.var 4) (.var 0) (.og (.lodA 2 (.var 4)) (.ret (.var 0))))))))))
set_option maxRecDepth 1000000 in
theorem x45_ok : okF TT Try.f45 1 x45 = true := by decide +kernel
set_option maxRecDepth 1000000 in
theorem s_spec_ListSegs_ok {a0 : AV} {σ : AH} {R : AEnd → AH → Prop} (h : s_spec_ListSegs a0 σ R) : acall TP fn_spec_ListSegs [a0] σ R :=
  acall_okF (ρ := [a0]) TT_ok Try.func45 rfl x45 x45_ok rfl h

/-- loop.example/g00349/impl.ListSegs -/
def s_impl_ListSegs (a0 : AV) (σ : AH) (R : AEnd → AH → Prop) : Prop :=
  abox a0 σ fun v1 σ =>
  new [(.val (.int .i64 0)), (.val (.slice none 0 0))] σ fun v2 σ =>
  og (lodA 2 v1 σ) fun v4 =>
  acall TP fn_impl_SegsFault [v4] σ (onr (fun v5 σ =>
  og (ibin .neq v5 (.val (.int .i64 0))) fun v7 =>
  apick v7 (
    og (bld [(.val (.int .i64 0)), (.val (.slice none 0 0))] [(0, 1), (1, 1)] [(0, v5)]) fun v9 =>
    sto 2 v2 v9 σ fun σ =>
    og (lodA 2 v2 σ) fun r2 =>
    aret r2 σ R) (
    og (lodA 2 v1 σ) fun v10 =>
    acall TP fn_impl_Segs_items [v10] σ (onr (fun v11 σ =>
    og (bld [(.val (.int .i64 0)), (.val (.slice none 0 0))] [(0, 1), (1, 1)] [(1, v11)]) fun v12 =>
    sto 2 v2 v12 σ fun σ =>
    og (lodA 2 v2 σ) fun r2 =>
    aret r2 σ R) (fun v σ => apan v σ R)))) (fun v σ => apan v σ R))
def x46 : Sx := .box (.var 0) (.new [(.val (.int .i64 0)), (.val (.slice none 0 0))] (.og (.lodA 2 (.var 1)) (.call 30 [(.var 0)] (.og (.ibin .neq (.var 0) (.lit (.val (.int .i64 0)))) (.apick (.var 0) (.og (.bld [(.val (.int .i64 0)), (.val (.slice none 0 0))] [(0, 1), (1, 1)] [(0, (.var 1))]) (.sto 2 (.var 4) (.var 0) (.og (.lodA 2 (.var 4)) (.ret (.var 0))))) (.og (.lodA 2 (.var 4)) (.call 73 [(.var 0)] (.og (.bld [(.val (.int .i64 0)), (.val (.slice none 0 0))] [(0, 1), (1, 1)] [(1, (.var 0))]) (.sto 2 (.var 6) (.var 0) (.og (.lodA 2 (.var 6)) (.ret (.var 0))))))))))))
set_option maxRecDepth 1000000 in
theorem x46_ok : okF TT Try.f46 1 x46 = true := by decide +kernel
set_option maxRecDepth 1000000 in
theorem s_impl_ListSegs_ok {a0 : AV} {σ : AH} {R : AEnd → AH → Prop} (h : s_impl_ListSegs a0 σ R) : acall TP fn_impl_ListSegs [a0] σ R :=
  acall_okF (ρ := [a0]) TT_ok Try.func46 rfl x46 x46_ok rfl h

/-- loop.example/g00349/laws.eqIntsResult -/
def s_laws_eqIntsResult (a0 a1 : AV) (σ : AH) (R : AEnd → AH → Prop) : Prop :=
  abox a0 σ fun v2 σ =>
  abox a1 σ fun v3 σ =>
  og (fldA 0 v2) fun v5 =>
  og (lod v5 σ) fun v6 =>
  og (fldA 0 v3) fun v7 =>
  og (lod v7 σ) fun v8 =>
  og (ibin .neq v6 v8) fun v9 =>
  apick v9 (
    aret (.val (.bool false)) σ R) (
    og (fldA 1 v2) fun v10 =>
    og (lod v10 σ) fun v11 =>
    og (fldA 1 v3) fun v12 =>
    og (lod v12 σ) fun v13 =>
    acall TP fn_laws_eqInt64S [v11, v13] σ (onr (fun v14 σ =>
    og (aun .not v14) fun v15 =>
    apick v15 (
      aret (.val (.bool false)) σ R) (
      aret (.val (.bool true)) σ R)) (fun v σ => apan v σ R)))
def x47 : Sx := .box (.var 1) (.box (.var 1) (.og (.fldA 0 (.var 1)) (.og (.lod (.var 0)) (.og (.fldA 0 (.var 2)) (.og (.lod (.var 0)) (.og (.ibin .neq (.var 2) (.var 0)) (.apick (.var 0) (.ret (.lit (.val (.bool false)))) (.og (.fldA 1 (.var 6)) (.og (.lod (.var 0)) (.og (.fldA 1 (.var 7)) (.og (.lod (.var 0)) (.call 41 [(.var 2), (.var 0)] (.og (.aun .not (.var 0)) (.apick (.var 0) (.ret (.lit (.val (.bool false)))) (.ret (.lit (.val (.bool true))))))))))))))))))
set_option maxRecDepth 1000000 in
theorem x47_ok : okF TT Try.f47 2 x47 = true := by decide +kernel
set_option maxRecDepth 1000000 in
theorem s_laws_eqIntsResult_ok {a0 a1 : AV} {σ : AH} {R : AEnd → AH → Prop} (h : s_laws_eqIntsResult a0 a1 σ R) : acall TP fn_laws_eqIntsResult [a0, a1] σ R :=
  acall_okF (ρ := [a1, a0]) TT_ok Try.func47 rfl x47 x47_ok rfl h

/-- loop.example/g00349/laws.markSegs -/
def s_laws_markSegs (a0 a1 : AV) (σ : AH) (R : AEnd → AH → Prop) : Prop :=
  abox a0 σ fun v2 σ =>
  og (fldA 1 v2) fun v5 =>
  og (lod v5 σ) fun v6 =>
  acall TP fn_laws_markSegPartS [v6, a1] σ (onr (fun v8 σ =>
  aret v8 σ R) (fun v σ => apan v σ R))
def x48 : Sx := .box (.var 1) (.og (.fldA 1 (.var 0)) (.og (.lod (.var 0)) (.call 79 [(.var 0), (.var 3)] (.ret (.var 0)))))
set_option maxRecDepth 1000000 in
theorem x48_ok : okF TT Try.f48 2 x48 = true := by decide +kernel
set_option maxRecDepth 1000000 in
theorem s_laws_markSegs_ok {a0 a1 : AV} {σ : AH} {R : AEnd → AH → Prop} (h : s_laws_markSegs a0 a1 σ R) : acall TP fn_laws_markSegs [a0, a1] σ R :=
  acall_okF (ρ := [a1, a0]) TT_ok Try.func48 rfl x48 x48_ok rfl h

/-- loop.example/g00349/laws.markIntsResult -/
def s_laws_markIntsResult (a0 a1 : AV) (σ : AH) (R : AEnd → AH → Prop) : Prop :=
  abox a0 σ fun v2 σ =>
  og (fldA 1 v2) fun v5 =>
  og (lod v5 σ) fun v6 =>
  acall TP fn_laws_markInt64S [v6, a1] σ (onr (fun v8 σ =>
  aret v8 σ R) (fun v σ => apan v σ R))
def x49 : Sx := .box (.var 1) (.og (.fldA 1 (.var 0)) (.og (.lod (.var 0)) (.call 42 [(.var 0), (.var 3)] (.ret (.var 0)))))
set_option maxRecDepth 1000000 in
theorem x49_ok : okF TT Try.f49 2 x49 = true := by decide +kernel
set_option maxRecDepth 1000000 in
theorem s_laws_markIntsResult_ok {a0 a1 : AV} {σ : AH} {R : AEnd → AH → Prop} (h : s_laws_markIntsResult a0 a1 σ R) : acall TP fn_laws_markIntsResult [a0, a1] σ R :=
  acall_okF (ρ := [a1, a0]) TT_ok Try.func49 rfl x49 x49_ok rfl h

/-- loop.example/g00349/laws.heldIntsResult -/
def s_laws_heldIntsResult (a0 a1 : AV) (σ : AH) (R : AEnd → AH → Prop) : Prop :=
  abox a0 σ fun v2 σ =>
  og (fldA 1 v2) fun v5 =>
  og (lod v5 σ) fun v6 =>
  acall TP fn_laws_heldInt64S [v6, a1] σ (onr (fun v8 σ =>
  og (ibin .lss v8 (.val (.int .i64 0))) fun v10 =>
  apick v10 (
    aret (.val (.int .i64 (-1))) σ R) (
    aret v8 σ R)) (fun v σ => apan v σ R))
def x50 : Sx := .box (.var 1) (.og (.fldA 1 (.var 0)) (.og (.lod (.var 0)) (.call 80 [(.var 0), (.var 3)] (.og (.ibin .lss (.var 0) (.lit (.val (.int .i64 0)))) (.apick (.var 0) (.ret (.lit (.val (.int .i64 (-1))))) (.ret (.var 1)))))))
set_option maxRecDepth 1000000 in
theorem x50_ok : okF TT Try.f50 2 x50 = true := by decide +kernel
set_option maxRecDepth 1000000 in
theorem s_laws_heldIntsResult_ok {a0 a1 : AV} {σ : AH} {R : AEnd → AH → Prop} (h : s_laws_heldIntsResult a0 a1 σ R) : acall TP fn_laws_heldIntsResult [a0, a1] σ R :=
  acall_okF (ρ := [a1, a0]) TT_ok Try.func50 rfl x50 x50_ok rfl h

/-- loop.example/g00349/spec.DrawResizeSegs -/
def s_spec_DrawResizeSegs (a0 : AV) (σ : AH) (R : AEnd → AH → Prop) : Prop :=
  new [(.val (.int .i64 0)), (.val (.slice none 0 0))] σ fun v2 σ =>
  acall TP fn_spec_l1Source [a0] σ (onr (fun v6 σ =>
  acall TP fn_spec_l12Bent [v6] σ (onr (fun v8 σ =>
  bsl 1 [(.val (.int .i64 0))] 6 [(0, (.val (.int .i64 1))), (1, (.val (.int .i64 2))), (2, (.val (.int .i64 7))), (3, (.val (.int .i64 64))), (4, (.val (.int .i64 65))), (5, (.val (.int .i64 0)))] σ fun v10 σ =>
  acall TP fn_spec_l1Pick [v6, v10] σ (onr (fun v11 σ =>
  sto 2 v2 v8 σ fun σ =>
  og (lodA 2 v2 σ) fun r2 =>
  aret (.tup [r2, v11]) σ R) (fun v σ => apan v σ R))) (fun v σ => apan v σ R))) (fun v σ => apan v σ R))
def x51 : Sx := .new [(.val (.int .i64 0)), (.val (.slice none 0 0))] (.call 69 [(.var 1)] (.call 81 [(.var 0)] (.bsl 1 [(.val (.int .i64 0))] 6 [(0, (.lit (.val (.int .i64 1)))), (1, (.lit (.val (.int .i64 2)))), (2, (.lit (.val (.int .i64 7)))), (3, (.lit (.val (.int .i64 64)))), (4, (.lit (.val (.int .i64 65)))), (5, (.lit (.val (.int .i64 0))))] (.call 82 [(.var 2), (.var 0)] (.sto 2 (.var 4) (.var 2) (.og (.lodA 2 (.var 4)) (.rets [(.var 0), (.var 1)])))))))
set_option maxRecDepth 1000000 in
theorem x51_ok : okF TT Try.f51 1 x51 = true := by decide +kernel
set_option maxRecDepth 1000000 in
theorem s_spec_DrawResizeSegs_ok {a0 : AV} {σ : AH} {R : AEnd → AH → Prop} (h : s_spec_DrawResizeSegs a0 σ R) : acall TP fn_spec_DrawResizeSegs [a0] σ R :=
  acall_okF (ρ := [a0]) TT_ok Try.func51 rfl x51 x51_ok rfl h

/-- loop.example/g00349/impl.ResizeSegs -/
def s_impl_ResizeSegs (a0 a1 : AV) (σ : AH) (R : AEnd → AH → Prop) : Prop :=
  abox a0 σ fun v2 σ =>
  new [(.val (.int .i64 0)), (.val (.int .i64 0)), (.val (.int .i64 0)), (.val (.slice none 0 0))] σ fun v4 σ =>
  og (lodA 2 v2 σ) fun v6 =>
  acall TP fn_impl_SegsFault [v6] σ (onr (fun v7 σ =>
  og (ibin .neq v7 (.val (.int .i64 0))) fun v9 =>
  apick v9 (
    og (bld [(.val (.int .i64 0)), (.val (.int .i64 0)), (.val (.int .i64 0)), (.val (.slice none 0 0))] [(0, 1), (1, 1), (2, 2)] [(0, v7)]) fun v11 =>
    sto 4 v4 v11 σ fun σ =>
    og (lodA 4 v4 σ) fun r4 =>
    aret r4 σ R) (
    og (lodA 2 v2 σ) fun v13 =>
    acall TP fn_impl_Segs_items [v13] σ (onr (fun v14 σ =>
    acall TP fn_impl_OpenSegs [a1, v14] σ (onr (fun v15 σ =>
    sto 4 v4 v15 σ fun σ =>
    og (lodA 4 v4 σ) fun r4 =>
    aret r4 σ R) (fun v σ => apan v σ R))) (fun v σ => apan v σ R)))) (fun v σ => apan v σ R))
def x52 : Sx := .box (.var 1) (.new [(.val (.int .i64 0)), (.val (.int .i64 0)), (.val (.int .i64 0)), (.val (.slice none 0 0))] (.og (.lodA 2 (.var 1)) (.call 30 [(.var 0)] (.og (.ibin .neq (.var 0) (.lit (.val (.int .i64 0)))) (.apick (.var 0) (.og (.bld [(.val (.int .i64 0)), (.val (.int .i64 0)), (.val (.int .i64 0)), (.val (.slice none 0 0))] [(0, 1), (1, 1), (2, 2)] [(0, (.var 1))]) (.sto 4 (.var 4) (.var 0) (.og (.lodA 4 (.var 4)) (.ret (.var 0))))) (.og (.lodA 2 (.var 4)) (.call 73 [(.var 0)] (.call 39 [(.var 7), (.var 0)] (.sto 4 (.var 6) (.var 0) (.og (.lodA 4 (.var 6)) (.ret (.var 0))))))))))))
set_option maxRecDepth 1000000 in
theorem x52_ok : okF TT Try.f52 2 x52 = true := by decide +kernel
set_option maxRecDepth 1000000 in
theorem s_impl_ResizeSegs_ok {a0 a1 : AV} {σ : AH} {R : AEnd → AH → Prop} (h : s_impl_ResizeSegs a0 a1 σ R) : acall TP fn_impl_ResizeSegs [a0, a1] σ R :=
  acall_okF (ρ := [a1, a0]) TT_ok Try.func52 rfl x52 x52_ok rfl h

/-- loop.example/g00349/spec.ResizeSegs -/
def s_spec_ResizeSegs (a0 a1 : AV) (σ : AH) (R : AEnd → AH → Prop) : Prop :=
  abox a0 σ fun v2 σ =>
  new [(.val (.int .i64 0)), (.val (.int .i64 0)), (.val (.int .i64 0)), (.val (.slice none 0 0))] σ fun v4 σ =>
  acall TP fn_spec_l12Fault [v2] σ (onr (fun v6 σ =>
  og (ibin .neq v6 (.val (.int .i64 0))) fun v8 =>
  apick v8 (
    og (bld [(.val (.int .i64 0)), (.val (.int .i64 0)), (.val (.int .i64 0)), (.val (.slice none 0 0))] [(0, 1), (1, 1), (2, 2)] [(0, v6)]) fun v10 =>
    sto 4 v4 v10 σ fun σ =>
    og (lodA 4 v4 σ) fun r4 =>
    aret r4 σ R) (
    acall TP fn_spec_l12List [v2] σ (onr (fun v12 σ =>
    acall TP fn_spec_OpenSegs [a1, v12] σ (onr (fun v13 σ =>
    sto 4 v4 v13 σ fun σ =>
    og (lodA 4 v4 σ) fun r4 =>
    aret r4 σ R) (fun v σ => apan v σ R))) (fun v σ => apan v σ R)))) (fun v σ => apan v σ R))
def x53 : Sx := .box (.var 1) (.new [(.val (.int .i64 0)), (.val (.int .i64 0)), (.val (.int .i64 0)), (.val (.slice none 0 0))] (.call 66 [(.var 1)] (.og (.ibin .neq (.var 0) (.lit (.val (.int .i64 0)))) (.apick (.var 0) (.og (.bld [(.val (.int .i64 0)), (.val (.int .i64 0)), (.val (.int .i64 0)), (.val (.slice none 0 0))] [(0, 1), (1, 1), (2, 2)] [(0, (.var 1))]) (.sto 4 (.var 3) (.var 0) (.og (.lodA 4 (.var 3)) (.ret (.var 0))))) (.call 78 [(.var 3)] (.call 37 [(.var 5), (.var 0)] (.sto 4 (.var 4) (.var 0) (.og (.lodA 4 (.var 4)) (.ret (.var 0))))))))))
set_option maxRecDepth 1000000 in
theorem x53_ok : okF TT Try.f53 2 x53 = true := by decide +kernel
set_option maxRecDepth 1000000 in
theorem s_spec_ResizeSegs_ok {a0 a1 : AV} {σ : AH} {R : AEnd → AH → Prop} (h : s_spec_ResizeSegs a0 a1 σ R) : acall TP fn_spec_ResizeSegs [a0, a1] σ R :=
  acall_okF (ρ := [a1, a0]) TT_ok Try.func53 rfl x53 x53_ok rfl h

/-- loop.example/g00349/laws.lwNums -/
def s_laws_lwNums (a0 a1 : AV) (σ : AH) (R : AEnd → AH → Prop) : Prop :=
  og (lenS a0) fun v7 =>
  og (lenS a1) fun v9 =>
  og (ibin .neq v7 v9) fun v10 =>
  apick v10 (
    aret (.val (.bool false)) σ R) (
    lp (X := Tup [0, 1, 5]) (fun R1 y1 σ =>
      og (lenS y1.1) fun v13 =>
      og (ibin .lss y1.2.2.1 v13) fun v14 =>
      apick v14 (
        og (idx 1 y1.1 y1.2.2.1 σ) fun v19 =>
        og (lod v19 σ) fun v20 =>
        og (idx 1 y1.2.1 y1.2.2.1 σ) fun v23 =>
        og (lod v23 σ) fun v24 =>
        og (ibin .neq v20 v24) fun v25 =>
        apick v25 (
          aret (.val (.bool false)) σ R) (
          og (ibin .add y1.2.2.1 (.val (.int .i64 1))) fun v16 =>
          R1 (y1.1, y1.2.1, v16, ()) σ)) (
        aret (.val (.bool true)) σ R)) (a0, a1, (.val (.int .i64 0)), ()) σ)
def x54 : Sx := .og (.lenS (.var 1)) (.og (.lenS (.var 1)) (.og (.ibin .neq (.var 1) (.var 0)) (.apick (.var 0) (.ret (.lit (.val (.bool false)))) (.lp [0, 1, 5] (.og (.lenS (.var 0)) (.og (.ibin .lss (.var 3) (.var 0)) (.apick (.var 0) (.ord [0, 1, 2, 3, 4, 5, 6, 7, 8] [0, 0, 3, 7, 0, 0, 48, 112, 255] (.og (.idx 1 (.var 2) (.var 4)) (.og (.lod (.var 0)) (.og (.idx 1 (.var 5) (.var 6)) (.og (.lod (.var 0)) (.og (.ibin .neq (.var 2) (.var 0)) (.apick (.var 0) (.ret (.lit (.val (.bool false)))) (.og (.ibin .add (.var 9) (.lit (.val (.int .i64 1)))) (.jump 0 [(.var 8), (.var 9), (.var 0)]))))))))) (.ret (.lit (.val (.bool true))))))) [(.var 4), (.var 3), (.lit (.val (.int .i64 0)))]))))
set_option maxRecDepth 1000000 in
theorem x54_ok : okF TT Try.f54 2 x54 = true := by decide +kernel
set_option maxRecDepth 1000000 in
theorem s_laws_lwNums_ok {a0 a1 : AV} {σ : AH} {R : AEnd → AH → Prop} (h : s_laws_lwNums a0 a1 σ R) : acall TP fn_laws_lwNums [a0, a1] σ R :=
  acall_okF (ρ := [a1, a0]) TT_ok Try.func54 rfl x54 x54_ok rfl h

/-- loop.example/g00349/impl.PopSegs -/
def s_impl_PopSegs (a0 : AV) (σ : AH) (R : AEnd → AH → Prop) : Prop :=
  abox a0 σ fun v1 σ =>
  new [(.val (.int .i64 0)), (.val (.int .i64 0)), (.val (.int .i64 0)), (.val (.slice none 0 0))] σ fun v2 σ =>
  og (lodA 2 v1 σ) fun v6 =>
  acall TP fn_impl_SegsFault [v6] σ (onr (fun v7 σ =>
  og (ibin .neq v7 (.val (.int .i64 0))) fun v9 =>
  apick v9 (
    og (bld [(.val (.int .i64 0)), (.val (.int .i64 0)), (.val (.int .i64 0)), (.val (.slice none 0 0))] [(0, 1), (1, 1), (2, 2)] [(0, v7)]) fun v11 =>
    sto 4 v2 v11 σ fun σ =>
    og (lodA 4 v2 σ) fun r2 =>
    aret r2 σ R) (
    og (lodA 2 v1 σ) fun v12 =>
    acall TP fn_impl_Segs_items [v12] σ (onr (fun v13 σ =>
    og (lenS v13) fun v15 =>
    og (ibin .sub v15 (.val (.int .i64 1))) fun v16 =>
    og (ibin .lss v16 (.val (.int .i64 0))) fun v18 =>
    apick v18 (
      og (bld [(.val (.int .i64 0)), (.val (.int .i64 0)), (.val (.int .i64 0)), (.val (.slice none 0 0))] [(0, 1), (1, 1), (2, 2)] [(0, (.val (.int .i64 4)))]) fun v19 =>
      sto 4 v2 v19 σ fun σ =>
      og (lodA 4 v2 σ) fun r2 =>
      aret r2 σ R) (
      og (idx 1 v13 v16 σ) fun v22 =>
      og (lod v22 σ) fun v23 =>
      og (fldA 0 v1) fun v24 =>
      og (lod v24 σ) fun v25 =>
      og (slc 1 v13 none (some v16) none σ) fun v28 =>
      acall TP fn_impl_segsOf [v25, v28] σ (onr (fun v29 σ =>
      (lod v22 σ = some v23 ∧ idx 1 v13 v16 σ = some v22 ∧ True) ∧
      og (bld [(.val (.int .i64 0)), (.val (.int .i64 0)), (.val (.int .i64 0)), (.val (.slice none 0 0))] [(0, 1), (1, 1), (2, 2)] [(1, v23), (2, v29)]) fun v30 =>
      sto 4 v2 v30 σ fun σ =>
      (True) ∧
      og (lodA 4 v2 σ) fun r2 =>
      aret r2 σ R) (fun v σ => apan v σ R)))) (fun v σ => apan v σ R)))) (fun v σ => apan v σ R))
def x55 : Sx := .box (.var 0) (.new [(.val (.int .i64 0)), (.val (.int .i64 0)), (.val (.int .i64 0)), (.val (.slice none 0 0))] (.og (.lodA 2 (.var 1)) (.call 30 [(.var 0)] (.og (.ibin .neq (.var 0) (.lit (.val (.int .i64 0)))) (.apick (.var 0) (.og (.bld [(.val (.int .i64 0)), (.val (.int .i64 0)), (.val (.int .i64 0)), (.val (.slice none 0 0))] [(0, 1), (1, 1), (2, 2)] [(0, (.var 1))]) (.sto 4 (.var 4) (.var 0) (.og (.lodA 4 (.var 4)) (.ret (.var 0))))) (.og (.lodA 2 (.var 4)) (.call 73 [(.var 0)] (.og (.lenS (.var 0)) (.og (.ibin .sub (.var 0) (.lit (.val (.int .i64 1)))) (.og (.ibin .lss (.var 0) (.lit (.val (.int .i64 0)))) (.apick (.var 0) (.og (.bld [(.val (.int .i64 0)), (.val (.int .i64 0)), (.val (.int .i64 0)), (.val (.slice none 0 0))] [(0, 1), (1, 1), (2, 2)] [(0, (.lit (.val (.int .i64 4))))]) (.sto 4 (.var 9) (.var 0) (.og (.lodA 4 (.var 9)) (.ret (.var 0))))) (.ord [0, 1, 2, 3, 4, 5, 6, 7, 8, 9, 10, 11] [0, 0, 3, 7, 0, 16, 0, 0, 192, 496, 1023, 2047] (.og (.idx 1 (.var 3) (.var 1)) (.og (.lod (.var 0)) (.og (.fldA 0 (.var 11)) (.og (.lod (.var 0)) (.og (.slc 1 (.var 7) none (some (.var 5)) none) (.call 76 [(.var 1), (.var 0)] (.wat [⟨none, (.lod (.var 5)), (.var 4)⟩, ⟨none, (.idx 1 (.var 9) (.var 7)), (.var 5)⟩] (.og (.bld [(.val (.int .i64 0)), (.val (.int .i64 0)), (.val (.int .i64 0)), (.val (.slice none 0 0))] [(0, 1), (1, 1), (2, 2)] [(1, (.var 4)), (2, (.var 0))]) (.sto 4 (.var 15) (.var 0) (.wat [] (.og (.lodA 4 (.var 15)) (.ret (.var 0)))))))))))))))))))))))))
set_option maxRecDepth 1000000 in
theorem x55_ok : okF TT Try.f55 1 x55 = true := by decide +kernel
set_option maxRecDepth 1000000 in
theorem s_impl_PopSegs_ok {a0 : AV} {σ : AH} {R : AEnd → AH → Prop} (h : s_impl_PopSegs a0 σ R) : acall TP fn_impl_PopSegs [a0] σ R :=
  acall_okF (ρ := [a0]) TT_ok Try.func55 rfl x55 x55_ok rfl h

/-- loop.example/g00349/spec.DrawPushSegs -/
def s_spec_DrawPushSegs (a0 : AV) (σ : AH) (R : AEnd → AH → Prop) : Prop :=
  new [(.val (.int .i64 0)), (.val (.slice none 0 0))] σ fun v2 σ =>
  acall TP fn_spec_l1Source [a0] σ (onr (fun v6 σ =>
  acall TP fn_spec_l12Bent [v6] σ (onr (fun v8 σ =>
  acall TP fn_spec_l1Next [v6, (.val (.int .i64 99))] σ (onr (fun v10 σ =>
  sto 2 v2 v8 σ fun σ =>
  og (lodA 2 v2 σ) fun r2 =>
  aret (.tup [r2, v10]) σ R) (fun v σ => apan v σ R))) (fun v σ => apan v σ R))) (fun v σ => apan v σ R))
def x56 : Sx := .new [(.val (.int .i64 0)), (.val (.slice none 0 0))] (.call 69 [(.var 1)] (.call 81 [(.var 0)] (.call 71 [(.var 1), (.lit (.val (.int .i64 99)))] (.sto 2 (.var 3) (.var 1) (.og (.lodA 2 (.var 3)) (.rets [(.var 0), (.var 1)]))))))
set_option maxRecDepth 1000000 in
theorem x56_ok : okF TT Try.f56 1 x56 = true := by decide +kernel
set_option maxRecDepth 1000000 in
theorem s_spec_DrawPushSegs_ok {a0 : AV} {σ : AH} {R : AEnd → AH → Prop} (h : s_spec_DrawPushSegs a0 σ R) : acall TP fn_spec_DrawPushSegs [a0] σ R :=
  acall_okF (ρ := [a0]) TT_ok Try.func56 rfl x56 x56_ok rfl h

/-- loop.example/g00349/impl.PushSegs -/
def s_impl_PushSegs (a0 a1 : AV) (σ : AH) (R : AEnd → AH → Prop) : Prop :=
  abox a0 σ fun v2 σ =>
  new [(.val (.int .i64 0)), (.val (.int .i64 0)), (.val (.int .i64 0)), (.val (.slice none 0 0))] σ fun v4 σ =>
  og (lodA 2 v2 σ) fun v6 =>
  acall TP fn_impl_SegsFault [v6] σ (onr (fun v7 σ =>
  og (ibin .neq v7 (.val (.int .i64 0))) fun v9 =>
  apick v9 (
    og (bld [(.val (.int .i64 0)), (.val (.int .i64 0)), (.val (.int .i64 0)), (.val (.slice none 0 0))] [(0, 1), (1, 1), (2, 2)] [(0, v7)]) fun v11 =>
    sto 4 v4 v11 σ fun σ =>
    og (lodA 4 v4 σ) fun r4 =>
    aret r4 σ R) (
    og (fldA 0 v2) fun v12 =>
    og (lod v12 σ) fun v13 =>
    og (lodA 2 v2 σ) fun v14 =>
    og (bslR 1 [(.val (.int .i64 0))] 1 [(0, a1)]) fun v17 =>
    acall TP fn_impl_Segs_items [v14] σ (onr (fun v15 σ =>
    (lod v12 σ = some v13 ∧ True) ∧
    app 1 v15 v17 σ fun v18 σ =>
    (lod v12 σ = some v13 ∧ True) ∧
    acall TP fn_impl_OpenSegs [v13, v18] σ (onr (fun v19 σ =>
    (True) ∧
    sto 4 v4 v19 σ fun σ =>
    (True) ∧
    og (lodA 4 v4 σ) fun r4 =>
    aret r4 σ R) (fun v σ => apan v σ R))) (fun v σ => apan v σ R)))) (fun v σ => apan v σ R))
def x57 : Sx := .box (.var 1) (.new [(.val (.int .i64 0)), (.val (.int .i64 0)), (.val (.int .i64 0)), (.val (.slice none 0 0))] (.og (.lodA 2 (.var 1)) (.call 30 [(.var 0)] (.og (.ibin .neq (.var 0) (.lit (.val (.int .i64 0)))) (.apick (.var 0) (.og (.bld [(.val (.int .i64 0)), (.val (.int .i64 0)), (.val (.int .i64 0)), (.val (.slice none 0 0))] [(0, 1), (1, 1), (2, 2)] [(0, (.var 1))]) (.sto 4 (.var 4) (.var 0) (.og (.lodA 4 (.var 4)) (.ret (.var 0))))) (.ord [0, 1, 2, 4, 5, 3, 6, 7, 8] [0, 1, 0, 4, 0, 16, 60, 127, 255] (.og (.fldA 0 (.var 4)) (.og (.lod (.var 0)) (.og (.lodA 2 (.var 6)) (.og (.bslR 1 [(.val (.int .i64 0))] 1 [(0, (.var 8))]) (.call 73 [(.var 1)] (.wat [⟨none, (.lod (.var 4)), (.var 3)⟩] (.app 1 (.var 0) (.var 1) (.wat [⟨none, (.lod (.var 5)), (.var 4)⟩] (.call 39 [(.var 4), (.var 0)] (.wat [] (.sto 4 (.var 10) (.var 0) (.wat [] (.og (.lodA 4 (.var 10)) (.ret (.var 0)))))))))))))))))))))
set_option maxRecDepth 1000000 in
theorem x57_ok : okF TT Try.f57 2 x57 = true := by decide +kernel
set_option maxRecDepth 1000000 in
theorem s_impl_PushSegs_ok {a0 a1 : AV} {σ : AH} {R : AEnd → AH → Prop} (h : s_impl_PushSegs a0 a1 σ R) : acall TP fn_impl_PushSegs [a0, a1] σ R :=
  acall_okF (ρ := [a1, a0]) TT_ok Try.func57 rfl x57 x57_ok rfl h

/-- loop.example/g00349/spec.PushSegs -/
def s_spec_PushSegs (a0 a1 : AV) (σ : AH) (R : AEnd → AH → Prop) : Prop :=
  abox a0 σ fun v2 σ =>
  new [(.val (.int .i64 0)), (.val (.int .i64 0)), (.val (.int .i64 0)), (.val (.slice none 0 0))] σ fun v4 σ =>
  acall TP fn_spec_l12Fault [v2] σ (onr (fun v7 σ =>
  og (ibin .neq v7 (.val (.int .i64 0))) fun v9 =>
  apick v9 (
    og (bld [(.val (.int .i64 0)), (.val (.int .i64 0)), (.val (.int .i64 0)), (.val (.slice none 0 0))] [(0, 1), (1, 1), (2, 2)] [(0, v7)]) fun v11 =>
    sto 4 v4 v11 σ fun σ =>
    og (lodA 4 v4 σ) fun r4 =>
    aret r4 σ R) (
    acall TP fn_spec_l12Depth [v2] σ (onr (fun v12 σ =>
    og (ibin .geq v12 (.val (.int .i64 4000))) fun v13 =>
    apick v13 (
      og (bld [(.val (.int .i64 0)), (.val (.int .i64 0)), (.val (.int .i64 0)), (.val (.slice none 0 0))] [(0, 1), (1, 1), (2, 2)] [(0, (.val (.int .i64 2)))]) fun v14 =>
      sto 4 v4 v14 σ fun σ =>
      og (lodA 4 v4 σ) fun r4 =>
      aret r4 σ R) (
      og (fldA 0 v2) fun v15 =>
      og (lod v15 σ) fun v16 =>
      acall TP fn_spec_l12List [v2] σ (onr (fun v17 σ =>
      (lod v15 σ = some v16 ∧ True) ∧
      acall TP fn_spec_l12Open [v16, v17] σ (onr (fun v18 σ =>
      (True) ∧
      new [(.val (.int .i64 0)), (.val (.slice none 0 0))] σ fun v6 σ =>
      (True) ∧
      sto 2 v6 v18 σ fun σ =>
      (True) ∧
      acall TP fn_spec_l12Push [v6, a1] σ (onr (fun v20 σ =>
      og (lodA 2 v6 σ) fun v21 =>
      og (bld [(.val (.int .i64 0)), (.val (.int .i64 0)), (.val (.int .i64 0)), (.val (.slice none 0 0))] [(0, 1), (1, 1), (2, 2)] [(2, v21)]) fun v22 =>
      sto 4 v4 v22 σ fun σ =>
      og (lodA 4 v4 σ) fun r4 =>
      aret r4 σ R) (fun v σ => apan v σ R))) (fun v σ => apan v σ R))) (fun v σ => apan v σ R)))) (fun v σ => apan v σ R)))) (fun v σ => apan v σ R))
def x58 : Sx := .box (.var 1) (.new [(.val (.int .i64 0)), (.val (.int .i64 0)), (.val (.int .i64 0)), (.val (.slice none 0 0))] (.call 66 [(.var 1)] (.og (.ibin .neq (.var 0) (.lit (.val (.int .i64 0)))) (.apick (.var 0) (.og (.bld [(.val (.int .i64 0)), (.val (.int .i64 0)), (.val (.int .i64 0)), (.val (.slice none 0 0))] [(0, 1), (1, 1), (2, 2)] [(0, (.var 1))]) (.sto 4 (.var 3) (.var 0) (.og (.lodA 4 (.var 3)) (.ret (.var 0))))) (.call 72 [(.var 3)] (.og (.ibin .geq (.var 0) (.lit (.val (.int .i64 4000)))) (.apick (.var 0) (.og (.bld [(.val (.int .i64 0)), (.val (.int .i64 0)), (.val (.int .i64 0)), (.val (.slice none 0 0))] [(0, 1), (1, 1), (2, 2)] [(0, (.lit (.val (.int .i64 2))))]) (.sto 4 (.var 5) (.var 0) (.og (.lodA 4 (.var 5)) (.ret (.var 0))))) (.ord [0, 1, 2, 3, 4, 5] [0, 1, 0, 7, 0, 31] (.og (.fldA 0 (.var 5)) (.og (.lod (.var 0)) (.call 78 [(.var 7)] (.wat [⟨none, (.lod (.var 2)), (.var 1)⟩] (.call 75 [(.var 1), (.var 0)] (.wat [] (.new [(.val (.int .i64 0)), (.val (.slice none 0 0))] (.wat [] (.sto 2 (.var 0) (.var 1) (.wat [] (.call 83 [(.var 0), (.var 11)] (.og (.lodA 2 (.var 1)) (.og (.bld [(.val (.int .i64 0)), (.val (.int .i64 0)), (.val (.int .i64 0)), (.val (.slice none 0 0))] [(0, 1), (1, 1), (2, 2)] [(2, (.var 0))]) (.sto 4 (.var 12) (.var 0) (.og (.lodA 4 (.var 12)) (.ret (.var 0)))))))))))))))))))))))))
set_option maxRecDepth 1000000 in
theorem x58_ok : okF TT Try.f58 2 x58 = true := by decide +kernel
set_option maxRecDepth 1000000 in
theorem s_spec_PushSegs_ok {a0 a1 : AV} {σ : AH} {R : AEnd → AH → Prop} (h : s_spec_PushSegs a0 a1 σ R) : acall TP fn_spec_PushSegs [a0, a1] σ R :=
  acall_okF (ρ := [a1, a0]) TT_ok Try.func58 rfl x58 x58_ok rfl h

/-- loop.example/g00349/spec.l11Table -/
def s_spec_l11Table (a0 : AV) (σ : AH) (R : AEnd → AH → Prop) : Prop :=
  acall TP fn_spec_l1In [a0, (.val (.int .i64 0)), (.val (.int .i64 15))] σ (onr (fun v4 σ =>
  aret v4 σ R) (fun v σ => apan v σ R))
def x59 : Sx := .call 84 [(.var 0), (.lit (.val (.int .i64 0))), (.lit (.val (.int .i64 15)))] (.ret (.var 0))
set_option maxRecDepth 1000000 in
theorem x59_ok : okF TT Try.f59 1 x59 = true := by decide +kernel
set_option maxRecDepth 1000000 in
theorem s_spec_l11Table_ok {a0 : AV} {σ : AH} {R : AEnd → AH → Prop} (h : s_spec_l11Table a0 σ R) : acall TP fn_spec_l11Table [a0] σ R :=
  acall_okF (ρ := [a0]) TT_ok Try.func59 rfl x59 x59_ok rfl h

/-- loop.example/g00349/impl.in -/
def s_impl_in (a0 a1 a2 : AV) (σ : AH) (R : AEnd → AH → Prop) : Prop :=
  og (ibin .leq a1 a0) fun v9 =>
  og (gval v9 true false (some a0)) fun v11 =>
  og (gval v9 true false (some a2)) fun v12 =>
  og (gval v9 true false (ibin .leq v11 v12)) fun v13 =>
  og (pickV v9 v13 (.val (.bool false))) fun v14 =>
  aret v14 σ R
def x60 : Sx := .og (.ibin .leq (.var 1) (.var 2)) (.gog (.var 0) true false (.ret (.var 3)) (.gog (.var 1) true false (.ret (.var 2)) (.gog (.var 2) true false (.ibin .leq (.var 1) (.var 0)) (.og (.pickV (.var 3) (.var 0) (.lit (.val (.bool false)))) (.ret (.var 0))))))
set_option maxRecDepth 1000000 in
theorem x60_ok : okF TT Try.f60 3 x60 = true := by decide +kernel
set_option maxRecDepth 1000000 in
theorem s_impl_in_ok {a0 a1 a2 : AV} {σ : AH} {R : AEnd → AH → Prop} (h : s_impl_in a0 a1 a2 σ R) : acall TP fn_impl_in [a0, a1, a2] σ R :=
  acall_okF (ρ := [a2, a1, a0]) TT_ok Try.func60 rfl x60 x60_ok rfl h

/-- loop.example/g00349/spec.l13Fault -/
def s_spec_l13Fault (a0 : AV) (σ : AH) (R : AEnd → AH → Prop) : Prop :=
  jn (X := Tup [16]) (fun x1 σ =>
      apick x1.1 (
        aret (.val (.int .i64 3)) σ R) (
        aret (.val (.int .i64 0)) σ R)) fun k1 =>
    og (anil a0) fun v4 =>
    og (fldA 0 v4) fun v5 =>
    og (lod v5 σ) fun v6 =>
    acall TP fn_spec_l12Size [v6] σ (onr (fun v7 σ =>
    og (aun .not v7) fun v8 =>
    og (gval v8 false false (some a0)) fun v10 =>
    og (gval v8 false false (anil v10)) fun v11 =>
    og (gval v8 false false (fldA 1 v11)) fun v12 =>
    og (gval v8 false false (lod v12 σ)) fun v13 =>
    gpick v8 (
      og (pickV (.val (.bool true)) (.val (.bool true)) (.tup [])) fun v16 =>
      k1 (v16, ()) σ) (
      acall TP fn_spec_l11Table [v13] σ (onr (fun v14 σ =>
      og (aun .not v14) fun v15 =>
      og (pickV (.val (.bool false)) (.val (.bool true)) v15) fun v16 =>
      k1 (v16, ()) σ) (fun v σ => apan v σ R))) (False)) (fun v σ => apan v σ R))
def x61 : Sx := .jn 13 [16] (.apick (.var 0) (.ret (.lit (.val (.int .i64 3)))) (.ret (.lit (.val (.int .i64 0))))) (.og (.anil (.var 0)) (.og (.fldA 0 (.var 0)) (.og (.lod (.var 0)) (.call 74 [(.var 0)] (.og (.aun .not (.var 0)) (.gog (.var 0) false false (.ret (.var 5)) (.gog (.var 1) false false (.anil (.var 0)) (.gog (.var 2) false false (.fldA 1 (.var 0)) (.gog (.var 3) false false (.lod (.var 0)) (.gpick (.var 4) (.og (.pickV (.lit (.val (.bool true))) (.lit (.val (.bool true))) (.lit (.tup []))) (.jump 0 [(.var 0)])) (.call 59 [(.var 0)] (.og (.aun .not (.var 0)) (.og (.pickV (.lit (.val (.bool false))) (.lit (.val (.bool true))) (.var 0)) (.jump 0 [(.var 0)])))) (.no)))))))))))
set_option maxRecDepth 1000000 in
theorem x61_ok : okF TT Try.f61 1 x61 = true := by decide +kernel
set_option maxRecDepth 1000000 in
theorem s_spec_l13Fault_ok {a0 : AV} {σ : AH} {R : AEnd → AH → Prop} (h : s_spec_l13Fault a0 σ R) : acall TP fn_spec_l13Fault [a0] σ R :=
  acall_okF (ρ := [a0]) TT_ok Try.func61 rfl x61 x61_ok rfl h

/-- loop.example/g00349/impl.isSize -/
def s_impl_isSize (a0 : AV) (σ : AH) (R : AEnd → AH → Prop) : Prop :=
  acall TP fn_impl_in [a0, (.val (.int .i64 1)), (.val (.int .i64 64))] σ (onr (fun v4 σ =>
  aret v4 σ R) (fun v σ => apan v σ R))
def x62 : Sx := .call 60 [(.var 0), (.lit (.val (.int .i64 1))), (.lit (.val (.int .i64 64)))] (.ret (.var 0))
set_option maxRecDepth 1000000 in
theorem x62_ok : okF TT Try.f62 1 x62 = true := by decide +kernel
set_option maxRecDepth 1000000 in
theorem s_impl_isSize_ok {a0 : AV} {σ : AH} {R : AEnd → AH → Prop} (h : s_impl_isSize a0 σ R) : acall TP fn_impl_isSize [a0] σ R :=
  acall_okF (ρ := [a0]) TT_ok Try.func62 rfl x62 x62_ok rfl h

/-- loop.example/g00349/spec.l16Apart -/
def s_spec_l16Apart (a0 a1 : AV) (σ : AH) (R : AEnd → AH → Prop) : Prop :=
  lp (X := Tup [0, 1, 5]) (fun R1 y1 σ =>
    og (lenS y1.1) fun v8 =>
    og (ibin .lss y1.2.2.1 v8) fun v9 =>
    og (gval v9 false false (some y1.2.2.1)) fun v11 =>
    og (gval v9 false false (some y1.2.1)) fun v12 =>
    og (gval v9 false false (lenS v12)) fun v13 =>
    og (gval v9 false false (ibin .lss v11 v13)) fun v14 =>
    og (pickV v9 (.val (.bool true)) v14) fun v15 =>
    apick v15 (
      og (lenS y1.1) fun v20 =>
      og (ibin .geq y1.2.2.1 v20) fun v21 =>
      og (gval v21 false false (some y1.2.2.1)) fun v23 =>
      og (gval v21 false false (some y1.2.1)) fun v24 =>
      og (gval v21 false false (lenS v24)) fun v25 =>
      og (gval v21 false false (ibin .geq v23 v25)) fun v26 =>
      og (pickV v21 (.val (.bool true)) v26) fun v27 =>
      og (gval v27 false false (some y1.1)) fun v29 =>
      og (gval v27 false false (some y1.2.2.1)) fun v30 =>
      og (gval v27 false false (idx 1 v29 v30 σ)) fun v31 =>
      og (gval v27 false false (lod v31 σ)) fun v32 =>
      og (gval v27 false false (some y1.2.1)) fun v33 =>
      og (gval v27 false false (some y1.2.2.1)) fun v34 =>
      og (gval v27 false false (idx 1 v33 v34 σ)) fun v35 =>
      og (gval v27 false false (lod v35 σ)) fun v36 =>
      og (gval v27 false false (sbin .neq v32 v36)) fun v37 =>
      og (pickV v27 (.val (.bool true)) v37) fun v38 =>
      apick v38 (
        aret y1.2.2.1 σ R) (
        og (ibin .add y1.2.2.1 (.val (.int .i64 1))) fun v17 =>
        R1 (y1.1, y1.2.1, v17, ()) σ)) (
      aret (.val (.int .i64 (-1))) σ R)) (a0, a1, (.val (.int .i64 0)), ()) σ
def x63 : Sx := .lp [0, 1, 5] (.og (.lenS (.var 0)) (.og (.ibin .lss (.var 3) (.var 0)) (.gog (.var 0) false false (.ret (.var 4)) (.gog (.var 1) false false (.ret (.var 4)) (.gog (.var 2) false false (.lenS (.var 0)) (.gog (.var 3) false false (.ibin .lss (.var 2) (.var 0)) (.og (.pickV (.var 4) (.lit (.val (.bool true))) (.var 0)) (.apick (.var 0) (.ord [0, 1, 2, 3, 4, 5, 6, 7, 8, 9, 10, 11, 12, 13, 14, 15, 16, 17, 18, 19, 20] [0, 0, 2, 7, 15, 31, 31, 95, 255, 511, 1023, 2047, 2047, 8191, 16383, 2047, 2047, 100351, 231423, 524287, 1048575] (.og (.lenS (.var 7)) (.og (.ibin .geq (.var 10) (.var 0)) (.gog (.var 0) false false (.ret (.var 11)) (.gog (.var 1) false false (.ret (.var 11)) (.gog (.var 2) false false (.lenS (.var 0)) (.gog (.var 3) false false (.ibin .geq (.var 2) (.var 0)) (.og (.pickV (.var 4) (.lit (.val (.bool true))) (.var 0)) (.gog (.var 0) false false (.ret (.var 14)) (.gog (.var 1) false false (.ret (.var 17)) (.gog (.var 2) false false (.idx 1 (.var 1) (.var 0)) (.gog (.var 3) false false (.lod (.var 0)) (.gog (.var 4) false false (.ret (.var 19)) (.gog (.var 5) false false (.ret (.var 21)) (.gog (.var 6) false false (.idx 1 (.var 1) (.var 0)) (.gog (.var 7) false false (.lod (.var 0)) (.gog (.var 8) false false (.sbin .neq (.var 4) (.var 0)) (.og (.pickV (.var 9) (.lit (.val (.bool true))) (.var 0)) (.apick (.var 0) (.ret (.var 26)) (.og (.ibin .add (.var 26) (.lit (.val (.int .i64 1)))) (.jump 0 [(.var 25), (.var 26), (.var 0)]))))))))))))))))))))) (.ret (.lit (.val (.int .i64 (-1))))))))))))) [(.var 1), (.var 0), (.lit (.val (.int .i64 0)))]
set_option maxRecDepth 1000000 in
theorem x63_ok : okF TT Try.f63 2 x63 = true := by decide +kernel
set_option maxRecDepth 1000000 in
theorem s_spec_l16Apart_ok {a0 a1 : AV} {σ : AH} {R : AEnd → AH → Prop} (h : s_spec_l16Apart a0 a1 σ R) : acall TP fn_spec_l16Apart [a0, a1] σ R :=
  acall_okF (ρ := [a1, a0]) TT_ok Try.func63 rfl x63 x63_ok rfl h

/-- strings.HasPrefix -/
def s_strings_HasPrefix (a0 a1 : AV) (σ : AH) (R : AEnd → AH → Prop) : Prop :=
  acall TP fn_internal_stringslite_HasPrefix [a0, a1] σ (onr (fun v7 σ =>
  aret v7 σ R) (fun v σ => apan v σ R))
def x64 : Sx := .call 85 [(.var 1), (.var 0)] (.ret (.var 0))
set_option maxRecDepth 1000000 in
theorem x64_ok : okF TT Try.f64 2 x64 = true := by decide +kernel
set_option maxRecDepth 1000000 in
theorem s_strings_HasPrefix_ok {a0 a1 : AV} {σ : AH} {R : AEnd → AH → Prop} (h : s_strings_HasPrefix a0 a1 σ R) : acall TP fn_strings_HasPrefix [a0, a1] σ R :=
  acall_okF (ρ := [a1, a0]) TT_ok Try.func64 rfl x64 x64_ok rfl h

/-- loop.example/g00349/laws.szSegPartS -/
def s_laws_szSegPartS (a0 a1 : AV) (σ : AH) (R : AEnd → AH → Prop) : Prop :=
  og (lenS a0) fun v8 =>
  og (ibin .sub a1 v8) fun v9 =>
  og (ibin .lss v9 (.val (.int .i64 0))) fun v11 =>
  apick v11 (
    aret (.val (.int .i64 (-1))) σ R) (
    lp (X := Tup [0, 1, 5]) (fun R1 y1 σ =>
      og (lenS y1.1) fun v14 =>
      og (ibin .lss y1.2.2.1 v14) fun v15 =>
      apick v15 (
        og (idx 1 y1.1 y1.2.2.1 σ) fun v20 =>
        og (lodA 1 v20 σ) fun v21 =>
        acall TP fn_laws_szSegPart [v21, y1.2.1] σ (onr (fun v23 σ =>
        og (ibin .lss v23 (.val (.int .i64 0))) fun v25 =>
        apick v25 (
          aret (.val (.int .i64 (-1))) σ R) (
          og (ibin .add y1.2.2.1 (.val (.int .i64 1))) fun v17 =>
          R1 (y1.1, v23, v17, ()) σ)) (fun v σ => apan v σ R))) (
        aret y1.2.1 σ R)) (a0, v9, (.val (.int .i64 0)), ()) σ)
def x65 : Sx := .og (.lenS (.var 1)) (.og (.ibin .sub (.var 1) (.var 0)) (.og (.ibin .lss (.var 0) (.lit (.val (.int .i64 0)))) (.apick (.var 0) (.ret (.lit (.val (.int .i64 (-1))))) (.lp [0, 1, 5] (.og (.lenS (.var 0)) (.og (.ibin .lss (.var 3) (.var 0)) (.apick (.var 0) (.og (.idx 1 (.var 2) (.var 4)) (.og (.lodA 1 (.var 0)) (.call 86 [(.var 0), (.var 5)] (.og (.ibin .lss (.var 0) (.lit (.val (.int .i64 0)))) (.apick (.var 0) (.ret (.lit (.val (.int .i64 (-1))))) (.og (.ibin .add (.var 8) (.lit (.val (.int .i64 1)))) (.jump 0 [(.var 7), (.var 2), (.var 0)]))))))) (.ret (.var 3))))) [(.var 4), (.var 1), (.lit (.val (.int .i64 0)))]))))
set_option maxRecDepth 1000000 in
theorem x65_ok : okF TT Try.f65 2 x65 = true := by decide +kernel
set_option maxRecDepth 1000000 in
theorem s_laws_szSegPartS_ok {a0 a1 : AV} {σ : AH} {R : AEnd → AH → Prop} (h : s_laws_szSegPartS a0 a1 σ R) : acall TP fn_laws_szSegPartS [a0, a1] σ R :=
  acall_okF (ρ := [a1, a0]) TT_ok Try.func65 rfl x65 x65_ok rfl h

/-- loop.example/g00349/spec.l12Fault -/
def s_spec_l12Fault (a0 : AV) (σ : AH) (R : AEnd → AH → Prop) : Prop :=
  og (anil a0) fun v7 =>
  og (fldA 0 v7) fun v8 =>
  og (lod v8 σ) fun v9 =>
  acall TP fn_spec_l12Size [v9] σ (onr (fun v10 σ =>
  og (aun .not v10) fun v11 =>
  apick v11 (
    aret (.val (.int .i64 3)) σ R) (
    lp (X := Tup [0, 3, 4]) (fun R1 y1 σ =>
      og (anil y1.1) fun v14 =>
      og (fldA 1 v14) fun v15 =>
      og (lod v15 σ) fun v16 =>
      og (lenS v16) fun v17 =>
      og (ibin .lss y1.2.2.1 v17) fun v18 =>
      apick v18 (
        og (anil y1.1) fun v22 =>
        og (fldA 1 v22) fun v23 =>
        og (lod v23 σ) fun v24 =>
        og (idx 1 v24 y1.2.2.1 σ) fun v26 =>
        og (fldA 0 v26) fun v27 =>
        og (lod v27 σ) fun v28 =>
        og (lenS v28) fun v29 =>
        og (ibin .lss v29 (.val (.int .i64 1))) fun v31 =>
        og (gval v31 false false (some v29)) fun v33 =>
        og (gval v31 false false (some y1.1)) fun v34 =>
        og (gval v31 false false (anil v34)) fun v35 =>
        og (gval v31 false false (fldA 0 v35)) fun v36 =>
        og (gval v31 false false (lod v36 σ)) fun v37 =>
        og (gval v31 false false (ibin .gtr v33 v37)) fun v38 =>
        og (pickV v31 (.val (.bool true)) v38) fun v39 =>
        og (gval v39 false false (some y1.2.2.1)) fun v41 =>
        og (gval v39 false false (ibin .add v41 (.val (.int .i64 1)))) fun v42 =>
        og (gval v39 false false (some y1.1)) fun v43 =>
        og (gval v39 false false (anil v43)) fun v44 =>
        og (gval v39 false false (fldA 1 v44)) fun v45 =>
        og (gval v39 false false (lod v45 σ)) fun v46 =>
        og (gval v39 false false (lenS v46)) fun v47 =>
        og (gval v39 false false (ibin .lss v42 v47)) fun v48 =>
        og (gval v39 false false (some v48)) fun v49 =>
        og (gval v49 true true (some v29)) fun v50 =>
        og (gval v49 true true (some y1.1)) fun v51 =>
        og (gval v49 true true (anil v51)) fun v52 =>
        og (gval v49 true true (fldA 0 v52)) fun v53 =>
        og (gval v49 true true (lod v53 σ)) fun v54 =>
        og (gval v49 true true (ibin .neq v50 v54)) fun v55 =>
        og (gval v39 false false (pickV v49 v55 (.val (.bool false)))) fun v56 =>
        og (pickV v39 (.val (.bool true)) v56) fun v57 =>
        apick v57 (
          aret (.val (.int .i64 1)) σ R) (
          og (anil y1.1) fun v60 =>
          og (fldA 1 v60) fun v61 =>
          og (lod v61 σ) fun v62 =>
          og (idx 1 v62 y1.2.2.1 σ) fun v64 =>
          og (fldA 0 v64) fun v65 =>
          og (lod v65 σ) fun v66 =>
          og (lenS v66) fun v67 =>
          og (ibin .add y1.2.1 v67) fun v68 =>
          og (ibin .add y1.2.2.1 (.val (.int .i64 1))) fun v20 =>
          R1 (y1.1, v68, v20, ()) σ)) (
        og (ibin .gtr y1.2.1 (.val (.int .i64 4000))) fun v70 =>
        apick v70 (
          aret (.val (.int .i64 2)) σ R) (
          aret (.val (.int .i64 0)) σ R))) (a0, (.val (.int .i64 0)), (.val (.int .i64 0)), ()) σ)) (fun v σ => apan v σ R))
def x66 : Sx := .og (.anil (.var 0)) (.og (.fldA 0 (.var 0)) (.og (.lod (.var 0)) (.call 74 [(.var 0)] (.og (.aun .not (.var 0)) (.apick (.var 0) (.ret (.lit (.val (.int .i64 3)))) (.lp [0, 3, 4] (.og (.anil (.var 0)) (.og (.fldA 1 (.var 0)) (.og (.lod (.var 0)) (.og (.lenS (.var 0)) (.og (.ibin .lss (.var 6) (.var 0)) (.apick (.var 0) (.og (.anil (.var 5)) (.og (.fldA 1 (.var 0)) (.og (.lod (.var 0)) (.og (.idx 1 (.var 0) (.var 10)) (.og (.fldA 0 (.var 0)) (.og (.lod (.var 0)) (.og (.lenS (.var 0)) (.og (.ibin .lss (.var 0) (.lit (.val (.int .i64 1)))) (.gog (.var 0) false false (.ret (.var 1)) (.gog (.var 1) false false (.ret (.var 14)) (.gog (.var 2) false false (.anil (.var 0)) (.gog (.var 3) false false (.fldA 0 (.var 0)) (.gog (.var 4) false false (.lod (.var 0)) (.gog (.var 5) false false (.ibin .gtr (.var 4) (.var 0)) (.og (.pickV (.var 6) (.lit (.val (.bool true))) (.var 0)) (.gog (.var 0) false false (.ret (.var 22)) (.gog (.var 1) false false (.ibin .add (.var 0) (.lit (.val (.int .i64 1)))) (.gog (.var 2) false false (.ret (.var 22)) (.gog (.var 3) false false (.anil (.var 0)) (.gog (.var 4) false false (.fldA 1 (.var 0)) (.gog (.var 5) false false (.lod (.var 0)) (.gog (.var 6) false false (.lenS (.var 0)) (.gog (.var 7) false false (.ibin .lss (.var 5) (.var 0)) (.gog (.var 8) false false (.ret (.var 0)) (.gog (.var 0) true true (.ret (.var 17)) (.gog (.var 1) true true (.ret (.var 30)) (.gog (.var 2) true true (.anil (.var 0)) (.gog (.var 3) true true (.fldA 0 (.var 0)) (.gog (.var 4) true true (.lod (.var 0)) (.gog (.var 5) true true (.ibin .neq (.var 4) (.var 0)) (.gog (.var 15) false false (.pickV (.var 6) (.var 0) (.lit (.val (.bool false)))) (.og (.pickV (.var 16) (.lit (.val (.bool true))) (.var 0)) (.apick (.var 0) (.ret (.lit (.val (.int .i64 1)))) (.og (.anil (.var 37)) (.og (.fldA 1 (.var 0)) (.og (.lod (.var 0)) (.og (.idx 1 (.var 0) (.var 42)) (.og (.fldA 0 (.var 0)) (.og (.lod (.var 0)) (.og (.lenS (.var 0)) (.og (.ibin .add (.var 45) (.var 0)) (.og (.ibin .add (.var 47) (.lit (.val (.int .i64 1)))) (.jump 0 [(.var 46), (.var 1), (.var 0)]))))))))))))))))))))))))))))))))))))))))))) (.og (.ibin .gtr (.var 6) (.lit (.val (.int .i64 4000)))) (.apick (.var 0) (.ret (.lit (.val (.int .i64 2)))) (.ret (.lit (.val (.int .i64 0)))))))))))) [(.var 5), (.lit (.val (.int .i64 0))), (.lit (.val (.int .i64 0)))]))))))
set_option maxRecDepth 1000000 in
theorem x66_ok : okF TT Try.f66 1 x66 = true := by decide +kernel
set_option maxRecDepth 1000000 in
theorem s_spec_l12Fault_ok {a0 : AV} {σ : AH} {R : AEnd → AH → Prop} (h : s_spec_l12Fault a0 σ R) : acall TP fn_spec_l12Fault [a0] σ R :=
  acall_okF (ρ := [a0]) TT_ok Try.func66 rfl x66 x66_ok rfl h

/-- loop.example/g00349/laws.toSegPartS -/
def s_laws_toSegPartS (a0 : AV) (σ : AH) (R : AEnd → AH → Prop) : Prop :=
  og (lenS a0) fun v6 =>
  amake TT ty_LRLiE v6 v6 σ fun v7 σ =>
  lp (X := Tup [0, 3, 4]) (fun R1 y1 σ =>
    og (lenS y1.1) fun v10 =>
    og (ibin .lss y1.2.2.1 v10) fun v11 =>
    apick v11 (
      og (idx 1 y1.1 y1.2.2.1 σ) fun v18 =>
      og (lodA 1 v18 σ) fun v19 =>
      acall TP fn_laws_toSegPart [v19] σ (onr (fun v20 σ =>
      og (idx 1 y1.2.1 y1.2.2.1 σ) fun v21 =>
      sto 1 v21 v20 σ fun σ =>
      og (ibin .add y1.2.2.1 (.val (.int .i64 1))) fun v13 =>
      R1 (y1.1, y1.2.1, v13, ()) σ) (fun v σ => apan v σ R))) (
      aret y1.2.1 σ R)) (a0, v7, (.val (.int .i64 0)), ()) σ
def x67 : Sx := .og (.lenS (.var 0)) (.mks 45 (.var 0) (.var 0) (.lp [0, 3, 4] (.og (.lenS (.var 0)) (.og (.ibin .lss (.var 3) (.var 0)) (.apick (.var 0) (.og (.idx 1 (.var 2) (.var 4)) (.og (.lodA 1 (.var 0)) (.call 87 [(.var 0)] (.og (.idx 1 (.var 6) (.var 7)) (.sto 1 (.var 0) (.var 1) (.og (.ibin .add (.var 8) (.lit (.val (.int .i64 1)))) (.jump 0 [(.var 7), (.var 8), (.var 0)]))))))) (.ret (.var 3))))) [(.var 2), (.var 0), (.lit (.val (.int .i64 0)))]))
set_option maxRecDepth 1000000 in
theorem x67_ok : okF TT Try.f67 1 x67 = true := by decide +kernel
set_option maxRecDepth 1000000 in
theorem s_laws_toSegPartS_ok {a0 : AV} {σ : AH} {R : AEnd → AH → Prop} (h : s_laws_toSegPartS a0 σ R) : acall TP fn_laws_toSegPartS [a0] σ R :=
  acall_okF (ρ := [a0]) TT_ok Try.func67 rfl x67 x67_ok rfl h

/-- loop.example/g00349/laws.eqSegPartS -/
def s_laws_eqSegPartS (a0 a1 : AV) (σ : AH) (R : AEnd → AH → Prop) : Prop :=
  og (lenS a0) fun v7 =>
  og (lenS a1) fun v9 =>
  og (ibin .neq v7 v9) fun v10 =>
  apick v10 (
    aret (.val (.bool false)) σ R) (
    lp (X := Tup [0, 1, 5]) (fun R1 y1 σ =>
      og (lenS y1.1) fun v13 =>
      og (ibin .lss y1.2.2.1 v13) fun v14 =>
      apick v14 (
        og (idx 1 y1.1 y1.2.2.1 σ) fun v19 =>
        og (lodA 1 v19 σ) fun v20 =>
        og (idx 1 y1.2.1 y1.2.2.1 σ) fun v23 =>
        og (lodA 1 v23 σ) fun v24 =>
        acall TP fn_laws_eqSegPart [v20, v24] σ (onr (fun v25 σ =>
        (True) ∧
        og (aun .not v25) fun v26 =>
        apick v26 (
          aret (.val (.bool false)) σ R) (
          og (ibin .add y1.2.2.1 (.val (.int .i64 1))) fun v16 =>
          R1 (y1.1, y1.2.1, v16, ()) σ)) (fun v σ => apan v σ R))) (
        aret (.val (.bool true)) σ R)) (a0, a1, (.val (.int .i64 0)), ()) σ)
def x68 : Sx := .og (.lenS (.var 1)) (.og (.lenS (.var 1)) (.og (.ibin .neq (.var 1) (.var 0)) (.apick (.var 0) (.ret (.lit (.val (.bool false)))) (.lp [0, 1, 5] (.og (.lenS (.var 0)) (.og (.ibin .lss (.var 3) (.var 0)) (.apick (.var 0) (.ord [0, 1, 2, 3, 4, 5, 6, 7, 8, 9] [0, 0, 3, 7, 0, 0, 48, 112, 255, 511] (.og (.idx 1 (.var 2) (.var 4)) (.og (.lodA 1 (.var 0)) (.og (.idx 1 (.var 5) (.var 6)) (.og (.lodA 1 (.var 0)) (.call 88 [(.var 2), (.var 0)] (.wat [] (.og (.aun .not (.var 0)) (.apick (.var 0) (.ret (.lit (.val (.bool false)))) (.og (.ibin .add (.var 10) (.lit (.val (.int .i64 1)))) (.jump 0 [(.var 9), (.var 10), (.var 0)]))))))))))) (.ret (.lit (.val (.bool true))))))) [(.var 4), (.var 3), (.lit (.val (.int .i64 0)))]))))
set_option maxRecDepth 1000000 in
theorem x68_ok : okF TT Try.f68 2 x68 = true := by decide +kernel
set_option maxRecDepth 1000000 in
theorem s_laws_eqSegPartS_ok {a0 a1 : AV} {σ : AH} {R : AEnd → AH → Prop} (h : s_laws_eqSegPartS a0 a1 σ R) : acall TP fn_laws_eqSegPartS [a0, a1] σ R :=
  acall_okF (ρ := [a1, a0]) TT_ok Try.func68 rfl x68 x68_ok rfl h

/-- loop.example/g00349/spec.l1Source -/
def s_spec_l1Source (a0 : AV) (σ : AH) (R : AEnd → AH → Prop) : Prop :=
  og (bld [(.val (.slice none 0 0)), (.val (.int .i64 0))] [(0, 1), (1, 1)] [(0, a0)]) fun v4 =>
  abox v4 σ fun v5 σ =>
  aret v5 σ R
def x69 : Sx := .og (.bld [(.val (.slice none 0 0)), (.val (.int .i64 0))] [(0, 1), (1, 1)] [(0, (.var 0))]) (.box (.var 0) (.ret (.var 0)))
set_option maxRecDepth 1000000 in
theorem x69_ok : okF TT Try.f69 1 x69 = true := by decide +kernel
set_option maxRecDepth 1000000 in
theorem s_spec_l1Source_ok {a0 : AV} {σ : AH} {R : AEnd → AH → Prop} (h : s_spec_l1Source a0 σ R) : acall TP fn_spec_l1Source [a0] σ R :=
  acall_okF (ρ := [a0]) TT_ok Try.func69 rfl x69 x69_ok rfl h

/-- loop.example/g00349/spec.l8DrawLines -/
def s_spec_l8DrawLines (a0 : AV) (σ : AH) (R : AEnd → AH → Prop) : Prop :=
  bsl 1 [(.val (.string ⟨#[]⟩))] 0 [] σ fun v5 σ =>
  acall TP fn_spec_l1Next [a0, (.val (.int .i64 8))] σ (onr (fun v7 σ =>
  lp (X := Tup [0, 3, 4]) (fun R1 y1 σ =>
    og (ibin .gtr y1.2.2.1 (.val (.int .i64 0))) fun v9 =>
    apick v9 (
      acall TP fn_spec_l8Line [y1.1] σ (onr (fun v14 σ =>
      bsl 1 [(.val (.string ⟨#[]⟩))] 1 [(0, v14)] σ fun v15 σ =>
      app 1 y1.2.1 v15 σ fun v16 σ =>
      og (ibin .sub y1.2.2.1 (.val (.int .i64 1))) fun v11 =>
      R1 (y1.1, v16, v11, ()) σ) (fun v σ => apan v σ R))) (
      jn (X := Tup [3]) (fun x2 σ =>
          aret x2.1 σ R) fun k2 =>
        acall TP fn_spec_l1Next [y1.1, (.val (.int .i64 14))] σ (onr (fun v18 σ =>
        og (ibin .eql v18 (.val (.int .i64 0))) fun v20 =>
        apick v20 (
          bsl 1 [(.val (.string ⟨#[]⟩))] 6 [(0, (.val (.string ⟨#[40]⟩))), (1, (.val (.string ⟨#[65]⟩))), (2, (.val (.string ⟨#[40, 41]⟩))), (3, (.val (.string ⟨#[105, 102]⟩))), (4, (.val (.string ⟨#[40, 99, 97, 114, 32, 49, 41]⟩))), (5, (.val (.string ⟨#[40, 113, 117, 111, 32, 49, 32, 48, 41]⟩)))] σ fun v22 σ =>
          acall TP fn_spec_l1Next [y1.1, (.val (.int .i64 6))] σ (onr (fun v24 σ =>
          og (idx 1 v22 v24 σ) fun v25 =>
          og (lod v25 σ) fun v26 =>
          bsl 1 [(.val (.string ⟨#[]⟩))] 1 [(0, v26)] σ fun v27 σ =>
          app 1 y1.2.1 v27 σ fun v28 σ =>
          k2 (v28, ()) σ) (fun v σ => apan v σ R))) (
          og (ibin .eql v18 (.val (.int .i64 1))) fun v30 =>
          apick v30 (
            amake TT ty_Ls (.val (.int .i64 13)) (.val (.int .i64 13)) σ fun v31 σ =>
            k2 (v31, ()) σ) (
            og (ibin .eql v18 (.val (.int .i64 2))) fun v33 =>
            apick v33 (
              amake TT ty_Lb (.val (.int .i64 401)) (.val (.int .i64 401)) σ fun v35 σ =>
              aconv TT ty_Lb ty_s v35 σ fun v36 σ =>
              bsl 1 [(.val (.string ⟨#[]⟩))] 1 [(0, v36)] σ fun v37 σ =>
              app 1 y1.2.1 v37 σ fun v38 σ =>
              k2 (v38, ()) σ) (
              k2 (y1.2.1, ()) σ)))) (fun v σ => apan v σ R)))) (a0, v5, v7, ()) σ) (fun v σ => apan v σ R))
def x70 : Sx := .bsl 1 [(.val (.string ⟨#[]⟩))] 0 [] (.call 71 [(.var 1), (.lit (.val (.int .i64 8)))] (.lp [0, 3, 4] (.og (.ibin .gtr (.var 2) (.lit (.val (.int .i64 0)))) (.apick (.var 0) (.call 89 [(.var 1)] (.bsl 1 [(.val (.string ⟨#[]⟩))] 1 [(0, (.var 0))] (.app 1 (.var 4) (.var 0) (.og (.ibin .sub (.var 6) (.lit (.val (.int .i64 1)))) (.jump 0 [(.var 5), (.var 1), (.var 0)]))))) (.jn 31 [3] (.ret (.var 0)) (.call 71 [(.var 1), (.lit (.val (.int .i64 14)))] (.og (.ibin .eql (.var 0) (.lit (.val (.int .i64 0)))) (.apick (.var 0) (.bsl 1 [(.val (.string ⟨#[]⟩))] 6 [(0, (.lit (.val (.string ⟨#[40]⟩)))), (1, (.lit (.val (.string ⟨#[65]⟩)))), (2, (.lit (.val (.string ⟨#[40, 41]⟩)))), (3, (.lit (.val (.string ⟨#[105, 102]⟩)))), (4, (.lit (.val (.string ⟨#[40, 99, 97, 114, 32, 49, 41]⟩)))), (5, (.lit (.val (.string ⟨#[40, 113, 117, 111, 32, 49, 32, 48, 41]⟩))))] (.call 71 [(.var 4), (.lit (.val (.int .i64 6)))] (.og (.idx 1 (.var 1) (.var 0)) (.og (.lod (.var 0)) (.bsl 1 [(.val (.string ⟨#[]⟩))] 1 [(0, (.var 0))] (.app 1 (.var 9) (.var 0) (.jump 0 [(.var 0)]))))))) (.og (.ibin .eql (.var 1) (.lit (.val (.int .i64 1)))) (.apick (.var 0) (.mks 30 (.lit (.val (.int .i64 13))) (.lit (.val (.int .i64 13))) (.jump 0 [(.var 0)])) (.og (.ibin .eql (.var 2) (.lit (.val (.int .i64 2)))) (.apick (.var 0) (.mks 51 (.lit (.val (.int .i64 401))) (.lit (.val (.int .i64 401))) (.cnv 51 9 (.var 0) (.bsl 1 [(.val (.string ⟨#[]⟩))] 1 [(0, (.var 0))] (.app 1 (.var 9) (.var 0) (.jump 0 [(.var 0)]))))) (.jump 0 [(.var 6)]))))))))))) [(.var 2), (.var 1), (.var 0)]))
set_option maxRecDepth 1000000 in
theorem x70_ok : okF TT Try.f70 1 x70 = true := by decide +kernel
set_option maxRecDepth 1000000 in
theorem s_spec_l8DrawLines_ok {a0 : AV} {σ : AH} {R : AEnd → AH → Prop} (h : s_spec_l8DrawLines a0 σ R) : acall TP fn_spec_l8DrawLines [a0] σ R :=
  acall_okF (ρ := [a0]) TT_ok Try.func70 rfl x70 x70_ok rfl h

/-- loop.example/g00349/spec.l1Next -/
def s_spec_l1Next (a0 a1 : AV) (σ : AH) (R : AEnd → AH → Prop) : Prop :=
  og (anil a0) fun v10 =>
  og (fldA 1 v10) fun v11 =>
  og (lod v11 σ) fun v12 =>
  og (ibin .add v12 (.val (.int .i64 1))) fun v13 =>
  og (anil a0) fun v14 =>
  og (fldA 1 v14) fun v15 =>
  sto 1 v15 v13 σ fun σ =>
  og (ibin .lss a1 (.val (.int .i64 1))) fun v17 =>
  apick v17 (
    aret (.val (.int .i64 0)) σ R) (
    og (anil a0) fun v19 =>
    og (fldA 1 v19) fun v20 =>
    og (lod v20 σ) fun v21 =>
    og (ibin .sub v21 (.val (.int .i64 1))) fun v22 =>
    og (anil a0) fun v24 =>
    og (fldA 0 v24) fun v25 =>
    og (lod v25 σ) fun v26 =>
    og (lenS v26) fun v27 =>
    og (ibin .eql v27 (.val (.int .i64 0))) fun v29 =>
    apick v29 (
      og (ibin .mul v22 (.val (.int .i64 7))) fun v31 =>
      og (ibin .rem v31 a1) fun v33 =>
      aret v33 σ R) (
      og (anil a0) fun v35 =>
      og (fldA 0 v35) fun v36 =>
      og (lod v36 σ) fun v37 =>
      og (ibin .rem v22 v27) fun v40 =>
      og (idx 1 v37 v40 σ) fun v41 =>
      og (lod v41 σ) fun v42 =>
      og (convI .i64 v42) fun v43 =>
      og (ibin .quo v22 v27) fun v46 =>
      og (ibin .mul v46 (.val (.int .i64 37))) fun v47 =>
      og (ibin .add v43 v47) fun v48 =>
      jn (X := Tup [1, 7]) (fun x1 σ =>
          og (ibin .rem x1.2.1 x1.1) fun v70 =>
          aret v70 σ R) fun k1 =>
        og (ibin .gtr a1 (.val (.int .i64 200))) fun v50 =>
        apick v50 (
          og (ibin .mul v48 (.val (.int .i64 251))) fun v52 =>
          og (anil a0) fun v54 =>
          og (fldA 0 v54) fun v55 =>
          og (lod v55 σ) fun v56 =>
          og (ibin .add v22 (.val (.int .i64 1))) fun v58 =>
          og (ibin .rem v58 v27) fun v60 =>
          og (idx 1 v56 v60 σ) fun v61 =>
          og (lod v61 σ) fun v62 =>
          og (convI .i64 v62) fun v63 =>
          og (ibin .mul v63 (.val (.int .i64 13))) fun v64 =>
          og (ibin .add v52 v64) fun v65 =>
          og (ibin .add v65 v22) fun v67 =>
          k1 (a1, v67, ()) σ) (
          k1 (a1, v48, ()) σ)))
def x71 : Sx := .og (.anil (.var 1)) (.og (.fldA 1 (.var 0)) (.og (.lod (.var 0)) (.og (.ibin .add (.var 0) (.lit (.val (.int .i64 1)))) (.og (.anil (.var 5)) (.og (.fldA 1 (.var 0)) (.sto 1 (.var 0) (.var 2) (.og (.ibin .lss (.var 6) (.lit (.val (.int .i64 1)))) (.apick (.var 0) (.ret (.lit (.val (.int .i64 0)))) (.og (.anil (.var 8)) (.og (.fldA 1 (.var 0)) (.og (.lod (.var 0)) (.og (.ibin .sub (.var 0) (.lit (.val (.int .i64 1)))) (.og (.anil (.var 12)) (.og (.fldA 0 (.var 0)) (.og (.lod (.var 0)) (.og (.lenS (.var 0)) (.og (.ibin .eql (.var 0) (.lit (.val (.int .i64 0)))) (.apick (.var 0) (.og (.ibin .mul (.var 5) (.lit (.val (.int .i64 7)))) (.og (.ibin .rem (.var 0) (.var 17)) (.ret (.var 0)))) (.ord [0, 1, 2, 3, 4, 5, 6, 7, 8, 9, 10, 11, 12, 13, 14, 15] [0, 1, 3, 7, 0, 0, 48, 127, 255, 511, 0, 0, 3072, 7168, 16383, 32767] (.og (.anil (.var 17)) (.og (.fldA 0 (.var 0)) (.og (.lod (.var 0)) (.og (.ibin .rem (.var 8) (.var 4)) (.og (.idx 1 (.var 1) (.var 0)) (.og (.lod (.var 0)) (.og (.conv .i64 (.var 0)) (.og (.ibin .quo (.var 12) (.var 8)) (.og (.ibin .mul (.var 0) (.lit (.val (.int .i64 37)))) (.og (.ibin .add (.var 2) (.var 0)) (.jn 511 [1, 7] (.og (.ibin .rem (.var 1) (.var 0)) (.ret (.var 0))) (.og (.ibin .gtr (.var 26) (.lit (.val (.int .i64 200)))) (.apick (.var 0) (.ord [0, 1, 2, 3, 4, 5, 6, 7, 8, 9, 10, 11, 12, 13, 14, 15, 16, 17] [0, 1, 0, 4, 12, 28, 0, 64, 0, 448, 1020, 2044, 4092, 8188, 16383, 0, 65535, 131071] (.og (.ibin .mul (.var 1) (.lit (.val (.int .i64 251)))) (.og (.anil (.var 29)) (.og (.fldA 0 (.var 0)) (.og (.lod (.var 0)) (.og (.ibin .add (.var 20) (.lit (.val (.int .i64 1)))) (.og (.ibin .rem (.var 0) (.var 17)) (.og (.idx 1 (.var 2) (.var 0)) (.og (.lod (.var 0)) (.og (.conv .i64 (.var 0)) (.og (.ibin .mul (.var 0) (.lit (.val (.int .i64 13)))) (.og (.ibin .add (.var 9) (.var 0)) (.og (.ibin .add (.var 0) (.var 27)) (.jump 0 [(.var 39), (.var 0)])))))))))))))) (.jump 0 [(.var 27), (.var 1)])))))))))))))))))))))))))))))))))
set_option maxRecDepth 1000000 in
theorem x71_ok : okF TT Try.f71 2 x71 = true := by decide +kernel
set_option maxRecDepth 1000000 in
theorem s_spec_l1Next_ok {a0 a1 : AV} {σ : AH} {R : AEnd → AH → Prop} (h : s_spec_l1Next a0 a1 σ R) : acall TP fn_spec_l1Next [a0, a1] σ R :=
  acall_okF (ρ := [a1, a0]) TT_ok Try.func71 rfl x71 x71_ok rfl h

/-- loop.example/g00349/spec.l12Depth -/
def s_spec_l12Depth (a0 : AV) (σ : AH) (R : AEnd → AH → Prop) : Prop :=
  og (anil a0) fun v5 =>
  og (fldA 1 v5) fun v6 =>
  og (lod v6 σ) fun v7 =>
  og (lenS v7) fun v8 =>
  og (ibin .eql v8 (.val (.int .i64 0))) fun v10 =>
  apick v10 (
    aret (.val (.int .i64 0)) σ R) (
    og (ibin .sub v8 (.val (.int .i64 1))) fun v12 =>
    og (anil a0) fun v14 =>
    og (fldA 0 v14) fun v15 =>
    og (lod v15 σ) fun v16 =>
    og (ibin .mul v12 v16) fun v17 =>
    og (anil a0) fun v19 =>
    og (fldA 1 v19) fun v20 =>
    og (lod v20 σ) fun v21 =>
    og (ibin .sub v8 (.val (.int .i64 1))) fun v23 =>
    og (idx 1 v21 v23 σ) fun v24 =>
    og (fldA 0 v24) fun v25 =>
    og (lod v25 σ) fun v26 =>
    og (lenS v26) fun v27 =>
    og (ibin .add v17 v27) fun v28 =>
    aret v28 σ R)
def x72 : Sx := .og (.anil (.var 0)) (.og (.fldA 1 (.var 0)) (.og (.lod (.var 0)) (.og (.lenS (.var 0)) (.og (.ibin .eql (.var 0) (.lit (.val (.int .i64 0)))) (.apick (.var 0) (.ret (.lit (.val (.int .i64 0)))) (.ord [0, 1, 2, 3, 4, 5, 6, 7, 8, 9, 10, 11, 12, 13, 14, 15, 16, 17, 18] [0, 1, 0, 4, 12, 28, 63, 0, 128, 384, 896, 0, 2048, 8064, 16256, 32640, 65408, 131071, 262143] (.og (.ibin .sub (.var 1) (.lit (.val (.int .i64 1)))) (.og (.anil (.var 6)) (.og (.fldA 0 (.var 0)) (.og (.lod (.var 0)) (.og (.ibin .mul (.var 3) (.var 0)) (.og (.anil (.var 10)) (.og (.fldA 1 (.var 0)) (.og (.lod (.var 0)) (.og (.ibin .sub (.var 9) (.lit (.val (.int .i64 1)))) (.og (.idx 1 (.var 1) (.var 0)) (.og (.fldA 0 (.var 0)) (.og (.lod (.var 0)) (.og (.lenS (.var 0)) (.og (.ibin .add (.var 8) (.var 0)) (.ret (.var 0))))))))))))))))))))))
set_option maxRecDepth 1000000 in
theorem x72_ok : okF TT Try.f72 1 x72 = true := by decide +kernel
set_option maxRecDepth 1000000 in
theorem s_spec_l12Depth_ok {a0 : AV} {σ : AH} {R : AEnd → AH → Prop} (h : s_spec_l12Depth a0 σ R) : acall TP fn_spec_l12Depth [a0] σ R :=
  acall_okF (ρ := [a0]) TT_ok Try.func72 rfl x72 x72_ok rfl h

/-- (loop.example/g00349/impl.Segs).items -/
def s_impl_Segs_items (a0 : AV) (σ : AH) (R : AEnd → AH → Prop) : Prop :=
  abox a0 σ fun v1 σ =>
  bsl 1 [(.val (.int .i64 0))] 0 [] σ fun v6 σ =>
  og (fldA 1 v1) fun v7 =>
  og (lod v7 σ) fun v8 =>
  og (lenS v8) fun v9 =>
  lp (X := Tup [3, 8, 9, 10]) (fun R1 y1 σ =>
    og (ibin .lss y1.2.2.2.1 y1.2.2.1) fun v11 =>
    apick v11 (
      og (idx 1 y1.2.1 y1.2.2.2.1 σ) fun v12 =>
      og (lodA 1 v12 σ) fun v13 =>
      new [(.val (.slice none 0 0))] σ fun v5 σ =>
      sto 1 v5 v13 σ fun σ =>
      og (fldA 0 v5) fun v15 =>
      og (lod v15 σ) fun v16 =>
      app 1 y1.1 v16 σ fun v17 σ =>
      og (ibin .add y1.2.2.2.1 (.val (.int .i64 1))) fun v18 =>
      R1 (v17, y1.2.1, y1.2.2.1, v18, ()) σ) (
      aret y1.1 σ R)) (v6, v8, v9, (.val (.int .i64 0)), ()) σ
def x73 : Sx := .box (.var 0) (.bsl 1 [(.val (.int .i64 0))] 0 [] (.og (.fldA 1 (.var 1)) (.og (.lod (.var 0)) (.og (.lenS (.var 0)) (.lp [3, 8, 9, 10] (.og (.ibin .lss (.var 3) (.var 2)) (.apick (.var 0) (.og (.idx 1 (.var 2) (.var 4)) (.og (.lodA 1 (.var 0)) (.new [(.val (.slice none 0 0))] (.sto 1 (.var 0) (.var 1) (.og (.fldA 0 (.var 0)) (.og (.lod (.var 0)) (.app 1 (.var 6) (.var 0) (.og (.ibin .add (.var 10) (.lit (.val (.int .i64 1)))) (.jump 0 [(.var 1), (.var 9), (.var 10), (.var 0)]))))))))) (.ret (.var 1)))) [(.var 3), (.var 1), (.var 0), (.lit (.val (.int .i64 0)))])))))
set_option maxRecDepth 1000000 in
theorem x73_ok : okF TT Try.f73 1 x73 = true := by decide +kernel
set_option maxRecDepth 1000000 in
theorem s_impl_Segs_items_ok {a0 : AV} {σ : AH} {R : AEnd → AH → Prop} (h : s_impl_Segs_items a0 σ R) : acall TP fn_impl_Segs_items [a0] σ R :=
  acall_okF (ρ := [a0]) TT_ok Try.func73 rfl x73 x73_ok rfl h

/-- loop.example/g00349/spec.l12Size -/
def s_spec_l12Size (a0 : AV) (σ : AH) (R : AEnd → AH → Prop) : Prop :=
  acall TP fn_spec_l1In [a0, (.val (.int .i64 1)), (.val (.int .i64 64))] σ (onr (fun v4 σ =>
  aret v4 σ R) (fun v σ => apan v σ R))
def x74 : Sx := .call 84 [(.var 0), (.lit (.val (.int .i64 1))), (.lit (.val (.int .i64 64)))] (.ret (.var 0))
set_option maxRecDepth 1000000 in
theorem x74_ok : okF TT Try.f74 1 x74 = true := by decide +kernel
set_option maxRecDepth 1000000 in
theorem s_spec_l12Size_ok {a0 : AV} {σ : AH} {R : AEnd → AH → Prop} (h : s_spec_l12Size a0 σ R) : acall TP fn_spec_l12Size [a0] σ R :=
  acall_okF (ρ := [a0]) TT_ok Try.func74 rfl x74 x74_ok rfl h

/-- loop.example/g00349/spec.l12Open -/
def s_spec_l12Open (a0 a1 : AV) (σ : AH) (R : AEnd → AH → Prop) : Prop :=
  new [(.val (.int .i64 0)), (.val (.slice none 0 0))] σ fun v4 σ =>
  og (bld [(.val (.int .i64 0)), (.val (.slice none 0 0))] [(0, 1), (1, 1)] [(0, a0)]) fun v8 =>
  new [(.val (.int .i64 0)), (.val (.slice none 0 0))] σ fun v5 σ =>
  sto 2 v5 v8 σ fun σ =>
  lp (X := Tup [1, 4, 5, 6]) (fun R1 y1 σ =>
    og (lenS y1.1) fun v11 =>
    og (ibin .lss y1.2.2.2.1 v11) fun v12 =>
    apick v12 (
      og (idx 1 y1.1 y1.2.2.2.1 σ) fun v17 =>
      og (lod v17 σ) fun v18 =>
      acall TP fn_spec_l12Push [y1.2.2.1, v18] σ (onr (fun v19 σ =>
      og (ibin .add y1.2.2.2.1 (.val (.int .i64 1))) fun v14 =>
      R1 (y1.1, y1.2.1, y1.2.2.1, v14, ()) σ) (fun v σ => apan v σ R))) (
      og (lodA 2 y1.2.2.1 σ) fun v20 =>
      sto 2 y1.2.1 v20 σ fun σ =>
      og (lodA 2 y1.2.1 σ) fun r4 =>
      aret r4 σ R)) (a1, v4, v5, (.val (.int .i64 0)), ()) σ
def x75 : Sx := .new [(.val (.int .i64 0)), (.val (.slice none 0 0))] (.og (.bld [(.val (.int .i64 0)), (.val (.slice none 0 0))] [(0, 1), (1, 1)] [(0, (.var 2))]) (.new [(.val (.int .i64 0)), (.val (.slice none 0 0))] (.sto 2 (.var 0) (.var 1) (.lp [1, 4, 5, 6] (.og (.lenS (.var 0)) (.og (.ibin .lss (.var 4) (.var 0)) (.apick (.var 0) (.og (.idx 1 (.var 2) (.var 5)) (.og (.lod (.var 0)) (.call 83 [(.var 6), (.var 0)] (.og (.ibin .add (.var 8) (.lit (.val (.int .i64 1)))) (.jump 0 [(.var 6), (.var 7), (.var 8), (.var 0)]))))) (.og (.lodA 2 (.var 4)) (.sto 2 (.var 4) (.var 0) (.og (.lodA 2 (.var 4)) (.ret (.var 0)))))))) [(.var 3), (.var 2), (.var 0), (.lit (.val (.int .i64 0)))]))))
set_option maxRecDepth 1000000 in
theorem x75_ok : okF TT Try.f75 2 x75 = true := by decide +kernel
set_option maxRecDepth 1000000 in
theorem s_spec_l12Open_ok {a0 a1 : AV} {σ : AH} {R : AEnd → AH → Prop} (h : s_spec_l12Open a0 a1 σ R) : acall TP fn_spec_l12Open [a0, a1] σ R :=
  acall_okF (ρ := [a1, a0]) TT_ok Try.func75 rfl x75 x75_ok rfl h

/-- loop.example/g00349/impl.segsOf -/
def s_impl_segsOf (a0 a1 : AV) (σ : AH) (R : AEnd → AH → Prop) : Prop :=
  new [(.val (.int .i64 0)), (.val (.slice none 0 0))] σ fun v4 σ =>
  og (bld [(.val (.int .i64 0)), (.val (.slice none 0 0))] [(0, 1), (1, 1)] [(0, a0)]) fun v8 =>
  new [(.val (.int .i64 0)), (.val (.slice none 0 0))] σ fun v5 σ =>
  sto 2 v5 v8 σ fun σ =>
  acall TP fn_slices_Chunk [a1, a0] σ (onr (fun v11 σ =>
  arange TP v11 (fun v12 σ N1 =>
      og (fldA 1 v5) fun v13 =>
      og (lod v13 σ) fun v14 =>
      acall TP fn_slices_Clone [v12] σ (onr (fun v16 σ =>
      (lod v13 σ = some v14 ∧ True) ∧
      og (bld [(.val (.slice none 0 0))] [(0, 1)] [(0, v16)]) fun v17 =>
      og (bslR 1 [(.val (.slice none 0 0))] 1 [(0, v17)]) fun v18 =>
      app 1 v14 v18 σ fun v19 σ =>
      (True) ∧
      og (fldA 1 v5) fun v20 =>
      sto 1 v20 v19 σ fun σ =>
      (True) ∧
      N1 σ) (fun v σ => apan v σ (fun _ _ => False)))) σ (fun σ =>
    og (lodA 2 v5 σ) fun v21 =>
    sto 2 v4 v21 σ fun σ =>
    og (lodA 2 v4 σ) fun r4 =>
    aret r4 σ R) (fun v σ => apan v σ R)) (fun v σ => apan v σ R))
def x76 : Sx := .new [(.val (.int .i64 0)), (.val (.slice none 0 0))] (.og (.bld [(.val (.int .i64 0)), (.val (.slice none 0 0))] [(0, 1), (1, 1)] [(0, (.var 2))]) (.new [(.val (.int .i64 0)), (.val (.slice none 0 0))] (.sto 2 (.var 0) (.var 1) (.call 90 [(.var 3), (.var 4)] (.rng (.var 0) (.ord [0, 1, 2, 3, 4, 5, 6, 7, 8] [0, 1, 0, 4, 12, 28, 63, 127, 255] (.og (.fldA 1 (.var 2)) (.og (.lod (.var 0)) (.call 91 [(.var 2)] (.wat [⟨none, (.lod (.var 2)), (.var 1)⟩] (.og (.bld [(.val (.slice none 0 0))] [(0, 1)] [(0, (.var 0))]) (.og (.bslR 1 [(.val (.slice none 0 0))] 1 [(0, (.var 0))]) (.app 1 (.var 3) (.var 0) (.wat [] (.og (.fldA 1 (.var 8)) (.sto 1 (.var 0) (.var 1) (.wat [] (.jump 0 []))))))))))))) (.og (.lodA 2 (.var 1)) (.sto 2 (.var 4) (.var 0) (.og (.lodA 2 (.var 4)) (.ret (.var 0))))))))))
set_option maxRecDepth 1000000 in
theorem x76_ok : okF TT Try.f76 2 x76 = true := by decide +kernel
set_option maxRecDepth 1000000 in
theorem s_impl_segsOf_ok {a0 a1 : AV} {σ : AH} {R : AEnd → AH → Prop} (h : s_impl_segsOf a0 a1 σ R) : acall TP fn_impl_segsOf [a0, a1] σ R :=
  acall_okF (ρ := [a1, a0]) TT_ok Try.func76 rfl x76 x76_ok rfl h

/-- loop.example/g00349/laws.heldSegs -/
def s_laws_heldSegs (a0 a1 : AV) (σ : AH) (R : AEnd → AH → Prop) : Prop :=
  abox a0 σ fun v2 σ =>
  og (fldA 1 v2) fun v5 =>
  og (lod v5 σ) fun v6 =>
  acall TP fn_laws_heldSegPartS [v6, a1] σ (onr (fun v8 σ =>
  og (ibin .lss v8 (.val (.int .i64 0))) fun v10 =>
  apick v10 (
    aret (.val (.int .i64 (-1))) σ R) (
    aret v8 σ R)) (fun v σ => apan v σ R))
def x77 : Sx := .box (.var 1) (.og (.fldA 1 (.var 0)) (.og (.lod (.var 0)) (.call 92 [(.var 0), (.var 3)] (.og (.ibin .lss (.var 0) (.lit (.val (.int .i64 0)))) (.apick (.var 0) (.ret (.lit (.val (.int .i64 (-1))))) (.ret (.var 1)))))))
set_option maxRecDepth 1000000 in
theorem x77_ok : okF TT Try.f77 2 x77 = true := by decide +kernel
set_option maxRecDepth 1000000 in
theorem s_laws_heldSegs_ok {a0 a1 : AV} {σ : AH} {R : AEnd → AH → Prop} (h : s_laws_heldSegs a0 a1 σ R) : acall TP fn_laws_heldSegs [a0, a1] σ R :=
  acall_okF (ρ := [a1, a0]) TT_ok Try.func77 rfl x77 x77_ok rfl h

/-- loop.example/g00349/spec.l12List -/
def s_spec_l12List (a0 : AV) (σ : AH) (R : AEnd → AH → Prop) : Prop :=
  bsl 1 [(.val (.int .i64 0))] 0 [] σ fun v5 σ =>
  lp (X := Tup [0, 3, 4]) (fun R1 y1 σ =>
    og (anil y1.1) fun v8 =>
    og (fldA 1 v8) fun v9 =>
    og (lod v9 σ) fun v10 =>
    og (lenS v10) fun v11 =>
    og (ibin .lss y1.2.2.1 v11) fun v12 =>
    apick v12 (
      og (anil y1.1) fun v17 =>
      og (fldA 1 v17) fun v18 =>
      og (lod v18 σ) fun v19 =>
      og (idx 1 v19 y1.2.2.1 σ) fun v21 =>
      og (fldA 0 v21) fun v22 =>
      og (lod v22 σ) fun v23 =>
      app 1 y1.2.1 v23 σ fun v24 σ =>
      og (ibin .add y1.2.2.1 (.val (.int .i64 1))) fun v14 =>
      R1 (y1.1, v24, v14, ()) σ) (
      aret y1.2.1 σ R)) (a0, v5, (.val (.int .i64 0)), ()) σ
def x78 : Sx := .bsl 1 [(.val (.int .i64 0))] 0 [] (.lp [0, 3, 4] (.og (.anil (.var 0)) (.og (.fldA 1 (.var 0)) (.og (.lod (.var 0)) (.og (.lenS (.var 0)) (.og (.ibin .lss (.var 6) (.var 0)) (.apick (.var 0) (.og (.anil (.var 5)) (.og (.fldA 1 (.var 0)) (.og (.lod (.var 0)) (.og (.idx 1 (.var 0) (.var 10)) (.og (.fldA 0 (.var 0)) (.og (.lod (.var 0)) (.app 1 (.var 12) (.var 0) (.og (.ibin .add (.var 14) (.lit (.val (.int .i64 1)))) (.jump 0 [(.var 13), (.var 1), (.var 0)]))))))))) (.ret (.var 6)))))))) [(.var 1), (.var 0), (.lit (.val (.int .i64 0)))])
set_option maxRecDepth 1000000 in
theorem x78_ok : okF TT Try.f78 1 x78 = true := by decide +kernel
set_option maxRecDepth 1000000 in
theorem s_spec_l12List_ok {a0 : AV} {σ : AH} {R : AEnd → AH → Prop} (h : s_spec_l12List a0 σ R) : acall TP fn_spec_l12List [a0] σ R :=
  acall_okF (ρ := [a0]) TT_ok Try.func78 rfl x78 x78_ok rfl h

/-- loop.example/g00349/laws.markSegPartS -/
def s_laws_markSegPartS (a0 a1 : AV) (σ : AH) (R : AEnd → AH → Prop) : Prop :=
  lp (X := Tup [0, 1, 5]) (fun R1 y1 σ =>
    og (lenS y1.1) fun v8 =>
    og (ibin .lss y1.2.2.1 v8) fun v9 =>
    apick v9 (
      og (idx 1 y1.1 y1.2.2.1 σ) fun v14 =>
      og (fldA 0 v14) fun v15 =>
      og (lod v15 σ) fun v16 =>
      acall TP fn_laws_markInt64S [v16, y1.2.1] σ (onr (fun v18 σ =>
      og (ibin .add y1.2.2.1 (.val (.int .i64 1))) fun v11 =>
      R1 (y1.1, v18, v11, ()) σ) (fun v σ => apan v σ R))) (
      aret y1.2.1 σ R)) (a0, a1, (.val (.int .i64 0)), ()) σ
def x79 : Sx := .lp [0, 1, 5] (.og (.lenS (.var 0)) (.og (.ibin .lss (.var 3) (.var 0)) (.apick (.var 0) (.og (.idx 1 (.var 2) (.var 4)) (.og (.fldA 0 (.var 0)) (.og (.lod (.var 0)) (.call 42 [(.var 0), (.var 6)] (.og (.ibin .add (.var 8) (.lit (.val (.int .i64 1)))) (.jump 0 [(.var 7), (.var 1), (.var 0)])))))) (.ret (.var 3))))) [(.var 1), (.var 0), (.lit (.val (.int .i64 0)))]
set_option maxRecDepth 1000000 in
theorem x79_ok : okF TT Try.f79 2 x79 = true := by decide +kernel
set_option maxRecDepth 1000000 in
theorem s_laws_markSegPartS_ok {a0 a1 : AV} {σ : AH} {R : AEnd → AH → Prop} (h : s_laws_markSegPartS a0 a1 σ R) : acall TP fn_laws_markSegPartS [a0, a1] σ R :=
  acall_okF (ρ := [a1, a0]) TT_ok Try.func79 rfl x79 x79_ok rfl h

/-- loop.example/g00349/laws.heldInt64S -/
def s_laws_heldInt64S (a0 a1 : AV) (σ : AH) (R : AEnd → AH → Prop) : Prop :=
  lp (X := Tup [0, 1, 5]) (fun R1 y1 σ =>
    og (lenS y1.1) fun v8 =>
    og (ibin .lss y1.2.2.1 v8) fun v9 =>
    apick v9 (
      og (idx 1 y1.1 y1.2.2.1 σ) fun v14 =>
      og (lod v14 σ) fun v15 =>
      og (ibin .neq v15 y1.2.1) fun v17 =>
      apick v17 (
        aret (.val (.int .i64 (-1))) σ R) (
        og (ibin .add y1.2.1 (.val (.int .i64 1))) fun v19 =>
        og (ibin .add y1.2.2.1 (.val (.int .i64 1))) fun v11 =>
        R1 (y1.1, v19, v11, ()) σ)) (
      aret y1.2.1 σ R)) (a0, a1, (.val (.int .i64 0)), ()) σ
def x80 : Sx := .lp [0, 1, 5] (.og (.lenS (.var 0)) (.og (.ibin .lss (.var 3) (.var 0)) (.apick (.var 0) (.og (.idx 1 (.var 2) (.var 4)) (.og (.lod (.var 0)) (.og (.ibin .neq (.var 0) (.var 5)) (.apick (.var 0) (.ret (.lit (.val (.int .i64 (-1))))) (.og (.ibin .add (.var 6) (.lit (.val (.int .i64 1)))) (.og (.ibin .add (.var 8) (.lit (.val (.int .i64 1)))) (.jump 0 [(.var 7), (.var 1), (.var 0)]))))))) (.ret (.var 3))))) [(.var 1), (.var 0), (.lit (.val (.int .i64 0)))]
set_option maxRecDepth 1000000 in
theorem x80_ok : okF TT Try.f80 2 x80 = true := by decide +kernel
set_option maxRecDepth 1000000 in
theorem s_laws_heldInt64S_ok {a0 a1 : AV} {σ : AH} {R : AEnd → AH → Prop} (h : s_laws_heldInt64S a0 a1 σ R) : acall TP fn_laws_heldInt64S [a0, a1] σ R :=
  acall_okF (ρ := [a1, a0]) TT_ok Try.func80 rfl x80 x80_ok rfl h

/-- loop.example/g00349/spec.l12Bent -/
def s_spec_l12Bent (a0 : AV) (σ : AH) (R : AEnd → AH → Prop) : Prop :=
  new [(.val (.int .i64 0)), (.val (.slice none 0 0))] σ fun v2 σ =>
  acall TP fn_spec_l1Next [a0, (.val (.int .i64 5))] σ (onr (fun v5 σ =>
  og (ibin .add (.val (.int .i64 1)) v5) fun v6 =>
  acall TP fn_spec_l12DrawList [a0] σ (onr (fun v8 σ =>
  acall TP fn_spec_l12Open [v6, v8] σ (onr (fun v9 σ =>
  new [(.val (.int .i64 0)), (.val (.slice none 0 0))] σ fun v3 σ =>
  sto 2 v3 v9 σ fun σ =>
  jn (X := Tup [2, 3]) (fun x1 σ =>
      og (lodA 2 x1.2.1 σ) fun v35 =>
      sto 2 x1.1 v35 σ fun σ =>
      og (lodA 2 x1.1 σ) fun r2 =>
      aret r2 σ R) fun k1 =>
    acall TP fn_spec_l1Next [a0, (.val (.int .i64 12))] σ (onr (fun v11 σ =>
    og (ibin .eql v11 (.val (.int .i64 0))) fun v13 =>
    apick v13 (
      bsl 1 [(.val (.int .i64 0))] 4 [(0, (.val (.int .i64 0))), (1, (.val (.int .i64 1))), (2, (.val (.int .i64 64))), (3, (.val (.int .i64 65)))] σ fun v15 σ =>
      acall TP fn_spec_l1Pick [a0, v15] σ (onr (fun v16 σ =>
      og (fldA 0 v3) fun v17 =>
      sto 1 v17 v16 σ fun σ =>
      k1 (v2, v3, ()) σ) (fun v σ => apan v σ R))) (
      og (ibin .eql v11 (.val (.int .i64 1))) fun v19 =>
      apick v19 (
        og (fldA 1 v3) fun v20 =>
        og (lod v20 σ) fun v21 =>
        og (bld [(.val (.slice none 0 0))] [(0, 1)] []) fun v22 =>
        bsl 1 [(.val (.slice none 0 0))] 1 [(0, v22)] σ fun v23 σ =>
        app 1 v21 v23 σ fun v24 σ =>
        og (fldA 1 v3) fun v25 =>
        sto 1 v25 v24 σ fun σ =>
        k1 (v2, v3, ()) σ) (
        og (ibin .eql v11 (.val (.int .i64 2))) fun v27 =>
        apick v27 (
          og (fldA 1 v3) fun v28 =>
          og (lod v28 σ) fun v29 =>
          bsl 1 [(.val (.int .i64 0))] 1 [(0, (.val (.int .i64 1)))] σ fun v30 σ =>
          og (bld [(.val (.slice none 0 0))] [(0, 1)] [(0, v30)]) fun v31 =>
          bsl 1 [(.val (.slice none 0 0))] 1 [(0, v31)] σ fun v32 σ =>
          app 1 v29 v32 σ fun v33 σ =>
          og (fldA 1 v3) fun v34 =>
          sto 1 v34 v33 σ fun σ =>
          k1 (v2, v3, ()) σ) (
          k1 (v2, v3, ()) σ)))) (fun v σ => apan v σ R))) (fun v σ => apan v σ R))) (fun v σ => apan v σ R))) (fun v σ => apan v σ R))
def x81 : Sx := .new [(.val (.int .i64 0)), (.val (.slice none 0 0))] (.call 71 [(.var 1), (.lit (.val (.int .i64 5)))] (.og (.ibin .add (.lit (.val (.int .i64 1))) (.var 0)) (.call 93 [(.var 3)] (.call 75 [(.var 1), (.var 0)] (.new [(.val (.int .i64 0)), (.val (.slice none 0 0))] (.sto 2 (.var 0) (.var 1) (.jn 15 [2, 3] (.og (.lodA 2 (.var 1)) (.sto 2 (.var 1) (.var 0) (.og (.lodA 2 (.var 1)) (.ret (.var 0))))) (.call 71 [(.var 6), (.lit (.val (.int .i64 12)))] (.og (.ibin .eql (.var 0) (.lit (.val (.int .i64 0)))) (.apick (.var 0) (.bsl 1 [(.val (.int .i64 0))] 4 [(0, (.lit (.val (.int .i64 0)))), (1, (.lit (.val (.int .i64 1)))), (2, (.lit (.val (.int .i64 64)))), (3, (.lit (.val (.int .i64 65))))] (.call 82 [(.var 9), (.var 0)] (.og (.fldA 0 (.var 4)) (.sto 1 (.var 0) (.var 1) (.jump 0 [(.var 10), (.var 5)]))))) (.og (.ibin .eql (.var 1) (.lit (.val (.int .i64 1)))) (.apick (.var 0) (.og (.fldA 1 (.var 3)) (.og (.lod (.var 0)) (.og (.bld [(.val (.slice none 0 0))] [(0, 1)] []) (.bsl 1 [(.val (.slice none 0 0))] 1 [(0, (.var 0))] (.app 1 (.var 2) (.var 0) (.og (.fldA 1 (.var 8)) (.sto 1 (.var 0) (.var 1) (.jump 0 [(.var 14), (.var 9)])))))))) (.og (.ibin .eql (.var 2) (.lit (.val (.int .i64 2)))) (.apick (.var 0) (.og (.fldA 1 (.var 4)) (.og (.lod (.var 0)) (.bsl 1 [(.val (.int .i64 0))] 1 [(0, (.lit (.val (.int .i64 1))))] (.og (.bld [(.val (.slice none 0 0))] [(0, 1)] [(0, (.var 0))]) (.bsl 1 [(.val (.slice none 0 0))] 1 [(0, (.var 0))] (.app 1 (.var 3) (.var 0) (.og (.fldA 1 (.var 10)) (.sto 1 (.var 0) (.var 1) (.jump 0 [(.var 16), (.var 11)]))))))))) (.jump 0 [(.var 9), (.var 4)])))))))))))))))
set_option maxRecDepth 1000000 in
theorem x81_ok : okF TT Try.f81 1 x81 = true := by decide +kernel
set_option maxRecDepth 1000000 in
theorem s_spec_l12Bent_ok {a0 : AV} {σ : AH} {R : AEnd → AH → Prop} (h : s_spec_l12Bent a0 σ R) : acall TP fn_spec_l12Bent [a0] σ R :=
  acall_okF (ρ := [a0]) TT_ok Try.func81 rfl x81 x81_ok rfl h

/-- loop.example/g00349/spec.l1Pick -/
def s_spec_l1Pick (a0 a1 : AV) (σ : AH) (R : AEnd → AH → Prop) : Prop :=
  og (lenS a1) fun v8 =>
  acall TP fn_spec_l1Next [a0, v8] σ (onr (fun v9 σ =>
  og (idx 1 a1 v9 σ) fun v10 =>
  og (lod v10 σ) fun v11 =>
  aret v11 σ R) (fun v σ => apan v σ R))
def x82 : Sx := .og (.lenS (.var 0)) (.call 71 [(.var 2), (.var 0)] (.og (.idx 1 (.var 2) (.var 0)) (.og (.lod (.var 0)) (.ret (.var 0)))))
set_option maxRecDepth 1000000 in
theorem x82_ok : okF TT Try.f82 2 x82 = true := by decide +kernel
set_option maxRecDepth 1000000 in
theorem s_spec_l1Pick_ok {a0 a1 : AV} {σ : AH} {R : AEnd → AH → Prop} (h : s_spec_l1Pick a0 a1 σ R) : acall TP fn_spec_l1Pick [a0, a1] σ R :=
  acall_okF (ρ := [a1, a0]) TT_ok Try.func82 rfl x82 x82_ok rfl h

/-- loop.example/g00349/spec.l12Push -/
def s_spec_l12Push (a0 a1 : AV) (σ : AH) (R : AEnd → AH → Prop) : Prop :=
  og (anil a0) fun v6 =>
  og (fldA 1 v6) fun v7 =>
  og (lod v7 σ) fun v8 =>
  og (lenS v8) fun v9 =>
  jn (X := Tup [0, 1, 4]) (fun x1 σ =>
      og (anil x1.1) fun v42 =>
      og (fldA 1 v42) fun v43 =>
      og (lod v43 σ) fun v44 =>
      og (ibin .sub x1.2.2.1 (.val (.int .i64 1))) fun v46 =>
      og (anil x1.1) fun v48 =>
      og (fldA 1 v48) fun v49 =>
      og (lod v49 σ) fun v50 =>
      og (ibin .sub x1.2.2.1 (.val (.int .i64 1))) fun v52 =>
      og (idx 1 v50 v52 σ) fun v53 =>
      og (fldA 0 v53) fun v54 =>
      og (lod v54 σ) fun v55 =>
      og (bslR 1 [(.val (.int .i64 0))] 1 [(0, x1.2.1)]) fun v57 =>
      app 1 v55 v57 σ fun v58 σ =>
      (lod v43 σ = some v44 ∧ True) ∧
      og (idx 1 v44 v46 σ) fun v59 =>
      og (fldA 0 v59) fun v60 =>
      sto 1 v60 v58 σ fun σ =>
      (True) ∧
      aret (.tup []) σ R) fun k1 =>
    og (ibin .eql v9 (.val (.int .i64 0))) fun v11 =>
    og (gval v11 false false (some a0)) fun v13 =>
    og (gval v11 false false (anil v13)) fun v14 =>
    og (gval v11 false false (fldA 1 v14)) fun v15 =>
    og (gval v11 false false (lod v15 σ)) fun v16 =>
    og (gval v11 false false (some v9)) fun v17 =>
    og (gval v11 false false (ibin .sub v17 (.val (.int .i64 1)))) fun v18 =>
    og (gval v11 false false (idx 1 v16 v18 σ)) fun v19 =>
    og (gval v11 false false (fldA 0 v19)) fun v20 =>
    og (gval v11 false false (lod v20 σ)) fun v21 =>
    og (gval v11 false false (lenS v21)) fun v22 =>
    og (gval v11 false false (some a0)) fun v23 =>
    og (gval v11 false false (anil v23)) fun v24 =>
    og (gval v11 false false (fldA 0 v24)) fun v25 =>
    og (gval v11 false false (lod v25 σ)) fun v26 =>
    og (gval v11 false false (ibin .eql v22 v26)) fun v27 =>
    og (pickV v11 (.val (.bool true)) v27) fun v28 =>
    apick v28 (
      og (anil a0) fun v31 =>
      og (fldA 1 v31) fun v32 =>
      og (lod v32 σ) fun v33 =>
      og (bld [(.val (.slice none 0 0))] [(0, 1)] []) fun v34 =>
      bsl 1 [(.val (.slice none 0 0))] 1 [(0, v34)] σ fun v35 σ =>
      app 1 v33 v35 σ fun v36 σ =>
      og (anil a0) fun v37 =>
      og (fldA 1 v37) fun v38 =>
      sto 1 v38 v36 σ fun σ =>
      og (ibin .add v9 (.val (.int .i64 1))) fun v40 =>
      k1 (a0, a1, v40, ()) σ) (
      k1 (a0, a1, v9, ()) σ)
def x83 : Sx := .og (.anil (.var 1)) (.og (.fldA 1 (.var 0)) (.og (.lod (.var 0)) (.og (.lenS (.var 0)) (.jn 7 [0, 1, 4] (.ord [0, 1, 2, 3, 4, 5, 6, 7, 8, 9, 10, 11, 12, 13, 14, 15, 16, 17, 18, 19, 20] [0, 1, 3, 7, 0, 16, 0, 64, 192, 448, 0, 1024, 4032, 8128, 16320, 0, 32768, 131008, 262143, 524287, 1048575] (.og (.anil (.var 0)) (.og (.fldA 1 (.var 0)) (.og (.lod (.var 0)) (.og (.ibin .sub (.var 5) (.lit (.val (.int .i64 1)))) (.og (.anil (.var 4)) (.og (.fldA 1 (.var 0)) (.og (.lod (.var 0)) (.og (.ibin .sub (.var 9) (.lit (.val (.int .i64 1)))) (.og (.idx 1 (.var 1) (.var 0)) (.og (.fldA 0 (.var 0)) (.og (.lod (.var 0)) (.og (.bslR 1 [(.val (.int .i64 0))] 1 [(0, (.var 12))]) (.app 1 (.var 1) (.var 0) (.wat [⟨none, (.lod (.var 11)), (.var 10)⟩] (.og (.idx 1 (.var 10) (.var 9)) (.og (.fldA 0 (.var 0)) (.sto 1 (.var 0) (.var 2) (.wat [] (.rets [])))))))))))))))))))) (.ord [0, 1, 2, 3, 4, 5, 6, 7, 8, 9, 10, 11, 12, 13, 14, 15, 16, 17, 18] [0, 1, 3, 7, 15, 31, 63, 7, 135, 511, 1023, 2047, 4095, 7, 8199, 24583, 57351, 131071, 262143] (.og (.ibin .eql (.var 0) (.lit (.val (.int .i64 0)))) (.gog (.var 0) false false (.ret (.var 6)) (.gog (.var 1) false false (.anil (.var 0)) (.gog (.var 2) false false (.fldA 1 (.var 0)) (.gog (.var 3) false false (.lod (.var 0)) (.gog (.var 4) false false (.ret (.var 5)) (.gog (.var 5) false false (.ibin .sub (.var 0) (.lit (.val (.int .i64 1)))) (.gog (.var 6) false false (.idx 1 (.var 2) (.var 0)) (.gog (.var 7) false false (.fldA 0 (.var 0)) (.gog (.var 8) false false (.lod (.var 0)) (.gog (.var 9) false false (.lenS (.var 0)) (.gog (.var 10) false false (.ret (.var 16)) (.gog (.var 11) false false (.anil (.var 0)) (.gog (.var 12) false false (.fldA 0 (.var 0)) (.gog (.var 13) false false (.lod (.var 0)) (.gog (.var 14) false false (.ibin .eql (.var 4) (.var 0)) (.og (.pickV (.var 15) (.lit (.val (.bool true))) (.var 0)) (.apick (.var 0) (.og (.anil (.var 22)) (.og (.fldA 1 (.var 0)) (.og (.lod (.var 0)) (.og (.bld [(.val (.slice none 0 0))] [(0, 1)] []) (.bsl 1 [(.val (.slice none 0 0))] 1 [(0, (.var 0))] (.app 1 (.var 2) (.var 0) (.og (.anil (.var 28)) (.og (.fldA 1 (.var 0)) (.sto 1 (.var 0) (.var 2) (.og (.ibin .add (.var 25) (.lit (.val (.int .i64 1)))) (.jump 0 [(.var 31), (.var 30), (.var 0)]))))))))))) (.jump 0 [(.var 22), (.var 21), (.var 17)]))))))))))))))))))))))))
set_option maxRecDepth 1000000 in
theorem x83_ok : okF TT Try.f83 2 x83 = true := by decide +kernel
set_option maxRecDepth 1000000 in
theorem s_spec_l12Push_ok {a0 a1 : AV} {σ : AH} {R : AEnd → AH → Prop} (h : s_spec_l12Push a0 a1 σ R) : acall TP fn_spec_l12Push [a0, a1] σ R :=
  acall_okF (ρ := [a1, a0]) TT_ok Try.func83 rfl x83 x83_ok rfl h

/-- loop.example/g00349/spec.l1In -/
def s_spec_l1In (a0 a1 a2 : AV) (σ : AH) (R : AEnd → AH → Prop) : Prop :=
  og (ibin .geq a0 a1) fun v9 =>
  og (gval v9 true false (some a0)) fun v11 =>
  og (gval v9 true false (some a2)) fun v12 =>
  og (gval v9 true false (ibin .leq v11 v12)) fun v13 =>
  og (pickV v9 v13 (.val (.bool false))) fun v14 =>
  aret v14 σ R
def x84 : Sx := .og (.ibin .geq (.var 2) (.var 1)) (.gog (.var 0) true false (.ret (.var 3)) (.gog (.var 1) true false (.ret (.var 2)) (.gog (.var 2) true false (.ibin .leq (.var 1) (.var 0)) (.og (.pickV (.var 3) (.var 0) (.lit (.val (.bool false)))) (.ret (.var 0))))))
set_option maxRecDepth 1000000 in
theorem x84_ok : okF TT Try.f84 3 x84 = true := by decide +kernel
set_option maxRecDepth 1000000 in
theorem s_spec_l1In_ok {a0 a1 a2 : AV} {σ : AH} {R : AEnd → AH → Prop} (h : s_spec_l1In a0 a1 a2 σ R) : acall TP fn_spec_l1In [a0, a1, a2] σ R :=
  acall_okF (ρ := [a2, a1, a0]) TT_ok Try.func84 rfl x84 x84_ok rfl h

/-- internal/stringslite.HasPrefix -/
def s_internal_stringslite_HasPrefix (a0 a1 : AV) (σ : AH) (R : AEnd → AH → Prop) : Prop :=
  og (lenStr a0) fun v6 =>
  og (lenStr a1) fun v8 =>
  og (ibin .geq v6 v8) fun v9 =>
  og (gval v9 true false (some a0)) fun v11 =>
  og (gval v9 true false (some a1)) fun v12 =>
  og (gval v9 true false (lenStr v12)) fun v13 =>
  og (gval v9 true false (slcStr v11 none (some v13))) fun v14 =>
  og (gval v9 true false (some a1)) fun v15 =>
  og (gval v9 true false (sbin .eql v14 v15)) fun v16 =>
  og (pickV v9 v16 (.val (.bool false))) fun v17 =>
  aret v17 σ R
def x85 : Sx := .og (.lenStr (.var 1)) (.og (.lenStr (.var 1)) (.og (.ibin .geq (.var 1) (.var 0)) (.gog (.var 0) true false (.ret (.var 4)) (.gog (.var 1) true false (.ret (.var 4)) (.gog (.var 2) true false (.lenStr (.var 0)) (.gog (.var 3) true false (.slcStr (.var 2) none (some (.var 0))) (.gog (.var 4) true false (.ret (.var 7)) (.gog (.var 5) true false (.sbin .eql (.var 1) (.var 0)) (.og (.pickV (.var 6) (.var 0) (.lit (.val (.bool false)))) (.ret (.var 0)))))))))))
set_option maxRecDepth 1000000 in
theorem x85_ok : okF TT Try.f85 2 x85 = true := by decide +kernel
set_option maxRecDepth 1000000 in
theorem s_internal_stringslite_HasPrefix_ok {a0 a1 : AV} {σ : AH} {R : AEnd → AH → Prop} (h : s_internal_stringslite_HasPrefix a0 a1 σ R) : acall TP fn_internal_stringslite_HasPrefix [a0, a1] σ R :=
  acall_okF (ρ := [a1, a0]) TT_ok Try.func85 rfl x85 x85_ok rfl h

/-- loop.example/g00349/laws.szSegPart -/
def s_laws_szSegPart (a0 a1 : AV) (σ : AH) (R : AEnd → AH → Prop) : Prop :=
  abox a0 σ fun v2 σ =>
  og (fldA 0 v2) fun v5 =>
  og (lod v5 σ) fun v6 =>
  acall TP fn_laws_szInt64S [v6, a1] σ (onr (fun v8 σ =>
  og (ibin .lss v8 (.val (.int .i64 0))) fun v10 =>
  apick v10 (
    aret (.val (.int .i64 (-1))) σ R) (
    aret v8 σ R)) (fun v σ => apan v σ R))
def x86 : Sx := .box (.var 1) (.og (.fldA 0 (.var 0)) (.og (.lod (.var 0)) (.call 94 [(.var 0), (.var 3)] (.og (.ibin .lss (.var 0) (.lit (.val (.int .i64 0)))) (.apick (.var 0) (.ret (.lit (.val (.int .i64 (-1))))) (.ret (.var 1)))))))
set_option maxRecDepth 1000000 in
theorem x86_ok : okF TT Try.f86 2 x86 = true := by decide +kernel
set_option maxRecDepth 1000000 in
theorem s_laws_szSegPart_ok {a0 a1 : AV} {σ : AH} {R : AEnd → AH → Prop} (h : s_laws_szSegPart a0 a1 σ R) : acall TP fn_laws_szSegPart [a0, a1] σ R :=
  acall_okF (ρ := [a1, a0]) TT_ok Try.func86 rfl x86 x86_ok rfl h

/-- loop.example/g00349/laws.toSegPart -/
def s_laws_toSegPart (a0 : AV) (σ : AH) (R : AEnd → AH → Prop) : Prop :=
  abox a0 σ fun v1 σ =>
  new [(.val (.slice none 0 0))] σ fun v2 σ =>
  new [(.val (.slice none 0 0))] σ fun v3 σ =>
  og (fldA 0 v1) fun v4 =>
  og (lod v4 σ) fun v5 =>
  acall TP fn_laws_toInt64S [v5] σ (onr (fun v6 σ =>
  og (fldA 0 v3) fun v7 =>
  sto 1 v7 v6 σ fun σ =>
  og (lodA 1 v3 σ) fun v8 =>
  sto 1 v2 v8 σ fun σ =>
  og (lodA 1 v2 σ) fun r2 =>
  aret r2 σ R) (fun v σ => apan v σ R))
def x87 : Sx := .box (.var 0) (.new [(.val (.slice none 0 0))] (.new [(.val (.slice none 0 0))] (.og (.fldA 0 (.var 2)) (.og (.lod (.var 0)) (.call 38 [(.var 0)] (.og (.fldA 0 (.var 3)) (.sto 1 (.var 0) (.var 1) (.og (.lodA 1 (.var 4)) (.sto 1 (.var 6) (.var 0) (.og (.lodA 1 (.var 6)) (.ret (.var 0))))))))))))
set_option maxRecDepth 1000000 in
theorem x87_ok : okF TT Try.f87 1 x87 = true := by decide +kernel
set_option maxRecDepth 1000000 in
theorem s_laws_toSegPart_ok {a0 : AV} {σ : AH} {R : AEnd → AH → Prop} (h : s_laws_toSegPart a0 σ R) : acall TP fn_laws_toSegPart [a0] σ R :=
  acall_okF (ρ := [a0]) TT_ok Try.func87 rfl x87 x87_ok rfl h

/-- loop.example/g00349/laws.eqSegPart -/
def s_laws_eqSegPart (a0 a1 : AV) (σ : AH) (R : AEnd → AH → Prop) : Prop :=
  abox a0 σ fun v2 σ =>
  abox a1 σ fun v3 σ =>
  og (fldA 0 v2) fun v5 =>
  og (lod v5 σ) fun v6 =>
  og (fldA 0 v3) fun v7 =>
  og (lod v7 σ) fun v8 =>
  acall TP fn_laws_eqInt64S [v6, v8] σ (onr (fun v9 σ =>
  og (aun .not v9) fun v10 =>
  apick v10 (
    aret (.val (.bool false)) σ R) (
    aret (.val (.bool true)) σ R)) (fun v σ => apan v σ R))
def x88 : Sx := .box (.var 1) (.box (.var 1) (.og (.fldA 0 (.var 1)) (.og (.lod (.var 0)) (.og (.fldA 0 (.var 2)) (.og (.lod (.var 0)) (.call 41 [(.var 2), (.var 0)] (.og (.aun .not (.var 0)) (.apick (.var 0) (.ret (.lit (.val (.bool false)))) (.ret (.lit (.val (.bool true))))))))))))
set_option maxRecDepth 1000000 in
theorem x88_ok : okF TT Try.f88 2 x88 = true := by decide +kernel
set_option maxRecDepth 1000000 in
theorem s_laws_eqSegPart_ok {a0 a1 : AV} {σ : AH} {R : AEnd → AH → Prop} (h : s_laws_eqSegPart a0 a1 σ R) : acall TP fn_laws_eqSegPart [a0, a1] σ R :=
  acall_okF (ρ := [a1, a0]) TT_ok Try.func88 rfl x88 x88_ok rfl h

/-- loop.example/g00349/spec.l8Line -/
def s_spec_l8Line (a0 : AV) (σ : AH) (R : AEnd → AH → Prop) : Prop :=
  acall TP fn_spec_l1Next [a0, (.val (.int .i64 9))] σ (onr (fun v4 σ =>
  og (ibin .eql v4 (.val (.int .i64 0))) fun v6 =>
  apick v6 (
    bsl 1 [(.val (.string ⟨#[]⟩))] 1 [(0, (.val (.string ⟨#[120]⟩)))] σ fun v8 σ =>
    acall TP fn_spec_l4Source [a0, v8, (.val (.int .i64 2))] σ (onr (fun v9 σ =>
    og (sbin .add (.val (.string ⟨#[40, 100, 101, 102, 105, 110, 101, 32, 103, 32, 40, 108, 97, 109, 98, 100, 97, 32, 40, 120, 41, 32]⟩)) v9) fun v10 =>
    og (sbin .add v10 (.val (.string ⟨#[41, 41]⟩))) fun v11 =>
    aret v11 σ R) (fun v σ => apan v σ R))) (
    og (ibin .eql v4 (.val (.int .i64 1))) fun v13 =>
    apick v13 (
      acall TP fn_spec_l4Source [a0, (.val (.slice none 0 0)), (.val (.int .i64 2))] σ (onr (fun v15 σ =>
      og (sbin .add (.val (.string ⟨#[40, 100, 101, 102, 105, 110, 101, 32, 104, 32]⟩)) v15) fun v16 =>
      og (sbin .add v16 (.val (.string ⟨#[41]⟩))) fun v17 =>
      aret v17 σ R) (fun v σ => apan v σ R))) (
      og (ibin .eql v4 (.val (.int .i64 2))) fun v19 =>
      apick v19 (
        aret (.val (.string ⟨#[40, 100, 101, 102, 105, 110, 101, 32, 102, 32, 40, 108, 97, 109, 98, 100, 97, 32, 40, 110, 41, 32, 40, 105, 102, 32, 40, 60, 32, 110, 32, 49, 41, 32, 48, 32, 40, 43, 32, 110, 32, 40, 102, 32, 40, 45, 32, 110, 32, 49, 41, 41, 41, 41, 41, 41]⟩)) σ R) (
        og (ibin .eql v4 (.val (.int .i64 3))) fun v21 =>
        apick v21 (
          acall TP fn_spec_l1Next [a0, (.val (.int .i64 30))] σ (onr (fun v23 σ =>
          acall TP fn_spec_l1Digits [v23] σ (onr (fun v24 σ =>
          og (sbin .add (.val (.string ⟨#[40, 102, 32]⟩)) v24) fun v25 =>
          og (sbin .add v25 (.val (.string ⟨#[41]⟩))) fun v26 =>
          aret v26 σ R) (fun v σ => apan v σ R))) (fun v σ => apan v σ R))) (
          og (ibin .eql v4 (.val (.int .i64 4))) fun v28 =>
          apick v28 (
            aret (.val (.string ⟨#[40, 100, 101, 102, 105, 110, 101, 32, 107, 32, 48, 41]⟩)) σ R) (
            og (ibin .eql v4 (.val (.int .i64 5))) fun v30 =>
            apick v30 (
              bsl 1 [(.val (.string ⟨#[]⟩))] 1 [(0, (.val (.string ⟨#[99]⟩)))] σ fun v32 σ =>
              acall TP fn_spec_l4Source [a0, v32, (.val (.int .i64 2))] σ (onr (fun v33 σ =>
              og (sbin .add (.val (.string ⟨#[40, 43, 32, 49, 32, 40, 99, 97, 108, 108, 47, 99, 99, 32, 40, 108, 97, 109, 98, 100, 97, 32, 40, 99, 41, 32, 40, 98, 101, 103, 105, 110, 32, 40, 115, 101, 116, 33, 32, 107, 32, 99, 41, 32]⟩)) v33) fun v34 =>
              og (sbin .add v34 (.val (.string ⟨#[41, 41, 41, 41]⟩))) fun v35 =>
              aret v35 σ R) (fun v σ => apan v σ R))) (
              og (ibin .eql v4 (.val (.int .i64 6))) fun v37 =>
              apick v37 (
                acall TP fn_spec_l1Next [a0, (.val (.int .i64 9))] σ (onr (fun v39 σ =>
                acall TP fn_spec_l1Digits [v39] σ (onr (fun v40 σ =>
                og (sbin .add (.val (.string ⟨#[40, 107, 32]⟩)) v40) fun v41 =>
                og (sbin .add v41 (.val (.string ⟨#[41]⟩))) fun v42 =>
                aret v42 σ R) (fun v σ => apan v σ R))) (fun v σ => apan v σ R))) (
                acall TP fn_spec_l4Source [a0, (.val (.slice none 0 0)), (.val (.int .i64 3))] σ (onr (fun v44 σ =>
                aret v44 σ R) (fun v σ => apan v σ R)))))))))) (fun v σ => apan v σ R))
def x89 : Sx := .call 71 [(.var 0), (.lit (.val (.int .i64 9)))] (.og (.ibin .eql (.var 0) (.lit (.val (.int .i64 0)))) (.apick (.var 0) (.bsl 1 [(.val (.string ⟨#[]⟩))] 1 [(0, (.lit (.val (.string ⟨#[120]⟩))))] (.call 95 [(.var 3), (.var 0), (.lit (.val (.int .i64 2)))] (.og (.sbin .add (.lit (.val (.string ⟨#[40, 100, 101, 102, 105, 110, 101, 32, 103, 32, 40, 108, 97, 109, 98, 100, 97, 32, 40, 120, 41, 32]⟩))) (.var 0)) (.og (.sbin .add (.var 0) (.lit (.val (.string ⟨#[41, 41]⟩)))) (.ret (.var 0)))))) (.og (.ibin .eql (.var 1) (.lit (.val (.int .i64 1)))) (.apick (.var 0) (.call 95 [(.var 3), (.lit (.val (.slice none 0 0))), (.lit (.val (.int .i64 2)))] (.og (.sbin .add (.lit (.val (.string ⟨#[40, 100, 101, 102, 105, 110, 101, 32, 104, 32]⟩))) (.var 0)) (.og (.sbin .add (.var 0) (.lit (.val (.string ⟨#[41]⟩)))) (.ret (.var 0))))) (.og (.ibin .eql (.var 2) (.lit (.val (.int .i64 2)))) (.apick (.var 0) (.ret (.lit (.val (.string ⟨#[40, 100, 101, 102, 105, 110, 101, 32, 102, 32, 40, 108, 97, 109, 98, 100, 97, 32, 40, 110, 41, 32, 40, 105, 102, 32, 40, 60, 32, 110, 32, 49, 41, 32, 48, 32, 40, 43, 32, 110, 32, 40, 102, 32, 40, 45, 32, 110, 32, 49, 41, 41, 41, 41, 41, 41]⟩)))) (.og (.ibin .eql (.var 3) (.lit (.val (.int .i64 3)))) (.apick (.var 0) (.call 71 [(.var 5), (.lit (.val (.int .i64 30)))] (.call 96 [(.var 0)] (.og (.sbin .add (.lit (.val (.string ⟨#[40, 102, 32]⟩))) (.var 0)) (.og (.sbin .add (.var 0) (.lit (.val (.string ⟨#[41]⟩)))) (.ret (.var 0)))))) (.og (.ibin .eql (.var 4) (.lit (.val (.int .i64 4)))) (.apick (.var 0) (.ret (.lit (.val (.string ⟨#[40, 100, 101, 102, 105, 110, 101, 32, 107, 32, 48, 41]⟩)))) (.og (.ibin .eql (.var 5) (.lit (.val (.int .i64 5)))) (.apick (.var 0) (.bsl 1 [(.val (.string ⟨#[]⟩))] 1 [(0, (.lit (.val (.string ⟨#[99]⟩))))] (.call 95 [(.var 8), (.var 0), (.lit (.val (.int .i64 2)))] (.og (.sbin .add (.lit (.val (.string ⟨#[40, 43, 32, 49, 32, 40, 99, 97, 108, 108, 47, 99, 99, 32, 40, 108, 97, 109, 98, 100, 97, 32, 40, 99, 41, 32, 40, 98, 101, 103, 105, 110, 32, 40, 115, 101, 116, 33, 32, 107, 32, 99, 41, 32]⟩))) (.var 0)) (.og (.sbin .add (.var 0) (.lit (.val (.string ⟨#[41, 41, 41, 41]⟩)))) (.ret (.var 0)))))) (.og (.ibin .eql (.var 6) (.lit (.val (.int .i64 6)))) (.apick (.var 0) (.call 71 [(.var 8), (.lit (.val (.int .i64 9)))] (.call 96 [(.var 0)] (.og (.sbin .add (.lit (.val (.string ⟨#[40, 107, 32]⟩))) (.var 0)) (.og (.sbin .add (.var 0) (.lit (.val (.string ⟨#[41]⟩)))) (.ret (.var 0)))))) (.call 95 [(.var 8), (.lit (.val (.slice none 0 0))), (.lit (.val (.int .i64 3)))] (.ret (.var 0)))))))))))))))))
set_option maxRecDepth 1000000 in
theorem x89_ok : okF TT Try.f89 1 x89 = true := by decide +kernel
set_option maxRecDepth 1000000 in
theorem s_spec_l8Line_ok {a0 : AV} {σ : AH} {R : AEnd → AH → Prop} (h : s_spec_l8Line a0 σ R) : acall TP fn_spec_l8Line [a0] σ R :=
  acall_okF (ρ := [a0]) TT_ok Try.func89 rfl x89 x89_ok rfl h

/-- slices.Chunk[[]int64,int64] -/
def s_slices_Chunk (a0 a1 : AV) (σ : AH) (R : AEnd → AH → Prop) : Prop :=
  abox a0 σ fun v2 σ =>
  abox a1 σ fun v3 σ =>
  jn (X := Tup [2, 3]) (fun x1 σ =>
      aret (.clo (.func fn_slices_Chunk_1) [] [x1.1, x1.2.1]) σ R) fun k1 =>
    og (lod v3 σ) fun v5 =>
    og (ibin .lss v5 (.val (.int .i64 1))) fun v6 =>
    apick v6 (
      og (aifc TT ty_s (.val (.string ⟨#[99, 97, 110, 110, 111, 116, 32, 98, 101, 32, 108, 101, 115, 115, 32, 116, 104, 97, 110, 32, 49]⟩))) fun v7 =>
      apanic v7 fun v => apan v σ R) (
      k1 (v2, v3, ()) σ)
def x90 : Sx := .box (.var 1) (.box (.var 1) (.jn 7 [2, 3] (.clo (.func 97) [] [(.var 0), (.var 1)] (.ret (.var 0))) (.og (.lod (.var 0)) (.og (.ibin .lss (.var 0) (.lit (.val (.int .i64 1)))) (.apick (.var 0) (.ifc 9 (.lit (.val (.string ⟨#[99, 97, 110, 110, 111, 116, 32, 98, 101, 32, 108, 101, 115, 115, 32, 116, 104, 97, 110, 32, 49]⟩))) (.pan (.var 0))) (.jump 0 [(.var 3), (.var 2)]))))))
set_option maxRecDepth 1000000 in
theorem x90_ok : okF TT Try.f90 2 x90 = true := by decide +kernel
set_option maxRecDepth 1000000 in
theorem s_slices_Chunk_ok {a0 a1 : AV} {σ : AH} {R : AEnd → AH → Prop} (h : s_slices_Chunk a0 a1 σ R) : acall TP fn_slices_Chunk [a0, a1] σ R :=
  acall_okF (ρ := [a1, a0]) TT_ok Try.func90 rfl x90 x90_ok rfl h

/-- slices.Clone[[]int64,int64] -/
def s_slices_Clone (a0 : AV) (σ : AH) (R : AEnd → AH → Prop) : Prop :=
  abin TT .eql ty_Li a0 (.val (.slice none 0 0)) fun v4 =>
  apick v4 (
    aret (.val (.slice none 0 0)) σ R) (
    bsl 1 [(.val (.int .i64 0))] 0 [] σ fun v5 σ =>
    app 1 v5 a0 σ fun v7 σ =>
    aret v7 σ R)
def x91 : Sx := .cmp .eql 56 (.var 0) (.lit (.val (.slice none 0 0))) (.apick (.var 0) (.ret (.lit (.val (.slice none 0 0)))) (.bsl 1 [(.val (.int .i64 0))] 0 [] (.app 1 (.var 0) (.var 2) (.ret (.var 0)))))
set_option maxRecDepth 1000000 in
theorem x91_ok : okF TT Try.f91 1 x91 = true := by decide +kernel
set_option maxRecDepth 1000000 in
theorem s_slices_Clone_ok {a0 : AV} {σ : AH} {R : AEnd → AH → Prop} (h : s_slices_Clone a0 σ R) : acall TP fn_slices_Clone [a0] σ R :=
  acall_okF (ρ := [a0]) TT_ok Try.func91 rfl x91 x91_ok rfl h

/-- loop.example/g00349/laws.heldSegPartS -/
def s_laws_heldSegPartS (a0 a1 : AV) (σ : AH) (R : AEnd → AH → Prop) : Prop :=
  lp (X := Tup [0, 1, 5]) (fun R1 y1 σ =>
    og (lenS y1.1) fun v8 =>
    og (ibin .lss y1.2.2.1 v8) fun v9 =>
    apick v9 (
      og (idx 1 y1.1 y1.2.2.1 σ) fun v14 =>
      og (fldA 0 v14) fun v15 =>
      og (lod v15 σ) fun v16 =>
      acall TP fn_laws_heldInt64S [v16, y1.2.1] σ (onr (fun v18 σ =>
      og (ibin .lss v18 (.val (.int .i64 0))) fun v20 =>
      apick v20 (
        aret (.val (.int .i64 (-1))) σ R) (
        og (ibin .add y1.2.2.1 (.val (.int .i64 1))) fun v11 =>
        R1 (y1.1, v18, v11, ()) σ)) (fun v σ => apan v σ R))) (
      aret y1.2.1 σ R)) (a0, a1, (.val (.int .i64 0)), ()) σ
def x92 : Sx := .lp [0, 1, 5] (.og (.lenS (.var 0)) (.og (.ibin .lss (.var 3) (.var 0)) (.apick (.var 0) (.og (.idx 1 (.var 2) (.var 4)) (.og (.fldA 0 (.var 0)) (.og (.lod (.var 0)) (.call 80 [(.var 0), (.var 6)] (.og (.ibin .lss (.var 0) (.lit (.val (.int .i64 0)))) (.apick (.var 0) (.ret (.lit (.val (.int .i64 (-1))))) (.og (.ibin .add (.var 9) (.lit (.val (.int .i64 1)))) (.jump 0 [(.var 8), (.var 2), (.var 0)])))))))) (.ret (.var 3))))) [(.var 1), (.var 0), (.lit (.val (.int .i64 0)))]
set_option maxRecDepth 1000000 in
theorem x92_ok : okF TT Try.f92 2 x92 = true := by decide +kernel
set_option maxRecDepth 1000000 in
theorem s_laws_heldSegPartS_ok {a0 a1 : AV} {σ : AH} {R : AEnd → AH → Prop} (h : s_laws_heldSegPartS a0 a1 σ R) : acall TP fn_laws_heldSegPartS [a0, a1] σ R :=
  acall_okF (ρ := [a1, a0]) TT_ok Try.func92 rfl x92 x92_ok rfl h

/-- loop.example/g00349/spec.l12DrawList -/
def s_spec_l12DrawList (a0 : AV) (σ : AH) (R : AEnd → AH → Prop) : Prop :=
  bsl 1 [(.val (.int .i64 0))] 0 [] σ fun v5 σ =>
  acall TP fn_spec_l1Next [a0, (.val (.int .i64 20))] σ (onr (fun v7 σ =>
  lp (X := Tup [0, 3, 4]) (fun R1 y1 σ =>
    og (ibin .gtr y1.2.2.1 (.val (.int .i64 0))) fun v9 =>
    apick v9 (
      acall TP fn_spec_l1Next [y1.1, (.val (.int .i64 99))] σ (onr (fun v14 σ =>
      bsl 1 [(.val (.int .i64 0))] 1 [(0, v14)] σ fun v15 σ =>
      app 1 y1.2.1 v15 σ fun v16 σ =>
      og (ibin .sub y1.2.2.1 (.val (.int .i64 1))) fun v11 =>
      R1 (y1.1, v16, v11, ()) σ) (fun v σ => apan v σ R))) (
      aret y1.2.1 σ R)) (a0, v5, v7, ()) σ) (fun v σ => apan v σ R))
def x93 : Sx := .bsl 1 [(.val (.int .i64 0))] 0 [] (.call 71 [(.var 1), (.lit (.val (.int .i64 20)))] (.lp [0, 3, 4] (.og (.ibin .gtr (.var 2) (.lit (.val (.int .i64 0)))) (.apick (.var 0) (.call 71 [(.var 1), (.lit (.val (.int .i64 99)))] (.bsl 1 [(.val (.int .i64 0))] 1 [(0, (.var 0))] (.app 1 (.var 4) (.var 0) (.og (.ibin .sub (.var 6) (.lit (.val (.int .i64 1)))) (.jump 0 [(.var 5), (.var 1), (.var 0)]))))) (.ret (.var 2)))) [(.var 2), (.var 1), (.var 0)]))
set_option maxRecDepth 1000000 in
theorem x93_ok : okF TT Try.f93 1 x93 = true := by decide +kernel
set_option maxRecDepth 1000000 in
theorem s_spec_l12DrawList_ok {a0 : AV} {σ : AH} {R : AEnd → AH → Prop} (h : s_spec_l12DrawList a0 σ R) : acall TP fn_spec_l12DrawList [a0] σ R :=
  acall_okF (ρ := [a0]) TT_ok Try.func93 rfl x93 x93_ok rfl h

/-- loop.example/g00349/laws.szInt64S -/
def s_laws_szInt64S (a0 a1 : AV) (σ : AH) (R : AEnd → AH → Prop) : Prop :=
  og (lenS a0) fun v7 =>
  og (ibin .sub a1 v7) fun v8 =>
  og (ibin .lss v8 (.val (.int .i64 0))) fun v10 =>
  apick v10 (
    aret (.val (.int .i64 (-1))) σ R) (
    aret v8 σ R)
def x94 : Sx := .og (.lenS (.var 1)) (.og (.ibin .sub (.var 1) (.var 0)) (.og (.ibin .lss (.var 0) (.lit (.val (.int .i64 0)))) (.apick (.var 0) (.ret (.lit (.val (.int .i64 (-1))))) (.ret (.var 1)))))
set_option maxRecDepth 1000000 in
theorem x94_ok : okF TT Try.f94 2 x94 = true := by decide +kernel
set_option maxRecDepth 1000000 in
theorem s_laws_szInt64S_ok {a0 a1 : AV} {σ : AH} {R : AEnd → AH → Prop} (h : s_laws_szInt64S a0 a1 σ R) : acall TP fn_laws_szInt64S [a0, a1] σ R :=
  acall_okF (ρ := [a1, a0]) TT_ok Try.func94 rfl x94 x94_ok rfl h

/-- loop.example/g00349/spec.l4Source -/
def s_spec_l4Source (a0 a1 a2 : AV) (σ : AH) (R : AEnd → AH → Prop) : Prop :=
  jn (X := Tup [0, 1, 2, 14]) (fun x1 σ =>
      apick x1.2.2.2.1 (
        jn (X := Tup [0, 1, 21]) (fun x2 σ =>
            apick x2.2.2.1 (
              og (lenS x2.2.1) fun v25 =>
              acall TP fn_spec_l1Next [x2.1, v25] σ (onr (fun v26 σ =>
              og (idx 1 x2.2.1 v26 σ) fun v27 =>
              og (lod v27 σ) fun v28 =>
              aret v28 σ R) (fun v σ => apan v σ R))) (
              acall TP fn_spec_l1Next [x2.1, (.val (.int .i64 9))] σ (onr (fun v30 σ =>
              acall TP fn_spec_l1Digits [v30] σ (onr (fun v31 σ =>
              acall TP fn_spec_l1Next [x2.1, (.val (.int .i64 99))] σ (onr (fun v33 σ =>
              acall TP fn_spec_l1Digits [v33] σ (onr (fun v34 σ =>
              bsl 1 [(.val (.string ⟨#[]⟩))] 9 [(0, v31), (1, (.val (.string ⟨#[35, 116]⟩))), (2, (.val (.string ⟨#[39, 40, 49, 32, 50, 41]⟩))), (3, (.val (.string ⟨#[103]⟩))), (4, (.val (.string ⟨#[104]⟩))), (5, (.val (.string ⟨#[39, 97]⟩))), (6, v34), (7, (.val (.string ⟨#[99, 97, 114]⟩))), (8, (.val (.string ⟨#[43]⟩)))] σ fun v35 σ =>
              acall TP fn_spec_l1Next [x2.1, (.val (.int .i64 9))] σ (onr (fun v37 σ =>
              og (idx 1 v35 v37 σ) fun v38 =>
              og (lod v38 σ) fun v39 =>
              aret v39 σ R) (fun v σ => apan v σ R))) (fun v σ => apan v σ R))) (fun v σ => apan v σ R))) (fun v σ => apan v σ R))) (fun v σ => apan v σ R)))) fun k2 =>
          og (lenS x1.2.1) fun v16 =>
          og (ibin .gtr v16 (.val (.int .i64 0))) fun v17 =>
          og (gval v17 true false (some x1.1)) fun v19 =>
          gpick v17 (
            acall TP fn_spec_l1Chance [v19, (.val (.int .i64 2))] σ (onr (fun v20 σ =>
            og (pickV (.val (.bool true)) v20 (.val (.bool false))) fun v21 =>
            k2 (x1.1, x1.2.1, v21, ()) σ) (fun v σ => apan v σ R))) (
            og (pickV (.val (.bool false)) (.tup []) (.val (.bool false))) fun v21 =>
            k2 (x1.1, x1.2.1, v21, ()) σ) (False)) (
        bsl 1 [(.val (.string ⟨#[]⟩))] 3 [(0, (.val (.string ⟨#[120]⟩))), (1, (.val (.string ⟨#[121]⟩))), (2, (.val (.string ⟨#[122]⟩)))] σ fun v40 σ =>
        acall TP fn_spec_l1Next [x1.1, (.val (.int .i64 3))] σ (onr (fun v42 σ =>
        og (idx 1 v40 v42 σ) fun v43 =>
        og (lod v43 σ) fun v44 =>
        bsl 1 [(.val (.string ⟨#[]⟩))] 0 [] σ fun v45 σ =>
        app 1 v45 x1.2.1 σ fun v47 σ =>
        bsl 1 [(.val (.string ⟨#[]⟩))] 1 [(0, v44)] σ fun v49 σ =>
        app 1 v47 v49 σ fun v50 σ =>
        jn (X := Tup [0, 1, 2]) (fun x3 σ =>
            og (bslR 1 [(.val (.string ⟨#[]⟩))] 5 [(0, (.val (.string ⟨#[43]⟩))), (1, (.val (.string ⟨#[45]⟩))), (2, (.val (.string ⟨#[42]⟩))), (3, (.val (.string ⟨#[60]⟩))), (4, (.val (.string ⟨#[61]⟩)))]) fun v232 =>
            og (ibin .sub x3.2.2.1 (.val (.int .i64 1))) fun v242 =>
            og (ibin .sub x3.2.2.1 (.val (.int .i64 1))) fun v249 =>
            acall TP fn_spec_l1Next [x3.1, (.val (.int .i64 5))] σ (onr (fun v234 σ =>
            (True) ∧
            og (idx 1 v232 v234 σ) fun v235 =>
            og (lod v235 σ) fun v236 =>
            og (sbin .add (.val (.string ⟨#[40]⟩)) v236) fun v237 =>
            og (sbin .add v237 (.val (.string ⟨#[32]⟩))) fun v238 =>
            acall TP fn_spec_l4Source [x3.1, x3.2.1, v242] σ (onr (fun v243 σ =>
            (lod v235 σ = some v236 ∧ idx 1 v232 v234 σ = some v235 ∧ True) ∧
            og (sbin .add v238 v243) fun v244 =>
            og (sbin .add v244 (.val (.string ⟨#[32]⟩))) fun v245 =>
            acall TP fn_spec_l4Source [x3.1, x3.2.1, v249] σ (onr (fun v250 σ =>
            (lod v235 σ = some v236 ∧ idx 1 v232 v234 σ = some v235 ∧ True) ∧
            og (sbin .add v245 v250) fun v251 =>
            og (sbin .add v251 (.val (.string ⟨#[41]⟩))) fun v252 =>
            aret v252 σ R) (fun v σ => apan v σ R))) (fun v σ => apan v σ R))) (fun v σ => apan v σ R))) fun k3 =>
          acall TP fn_spec_l1Next [x1.1, (.val (.int .i64 12))] σ (onr (fun v52 σ =>
          og (ibin .eql v52 (.val (.int .i64 0))) fun v54 =>
          apick v54 (
            og (ibin .sub x1.2.2.1 (.val (.int .i64 1))) fun v58 =>
            acall TP fn_spec_l4Source [x1.1, x1.2.1, v58] σ (onr (fun v59 σ =>
            og (sbin .add (.val (.string ⟨#[40, 105, 102, 32]⟩)) v59) fun v60 =>
            og (sbin .add v60 (.val (.string ⟨#[32]⟩))) fun v61 =>
            og (ibin .sub x1.2.2.1 (.val (.int .i64 1))) fun v65 =>
            acall TP fn_spec_l4Source [x1.1, x1.2.1, v65] σ (onr (fun v66 σ =>
            og (sbin .add v61 v66) fun v67 =>
            og (sbin .add v67 (.val (.string ⟨#[32]⟩))) fun v68 =>
            og (ibin .sub x1.2.2.1 (.val (.int .i64 1))) fun v72 =>
            acall TP fn_spec_l4Source [x1.1, x1.2.1, v72] σ (onr (fun v73 σ =>
            og (sbin .add v68 v73) fun v74 =>
            og (sbin .add v74 (.val (.string ⟨#[41]⟩))) fun v75 =>
            aret v75 σ R) (fun v σ => apan v σ R))) (fun v σ => apan v σ R))) (fun v σ => apan v σ R))) (
            og (ibin .eql v52 (.val (.int .i64 1))) fun v77 =>
            apick v77 (
              og (sbin .add (.val (.string ⟨#[40, 108, 97, 109, 98, 100, 97, 32, 40]⟩)) v44) fun v79 =>
              og (sbin .add v79 (.val (.string ⟨#[41, 32]⟩))) fun v80 =>
              og (ibin .sub x1.2.2.1 (.val (.int .i64 1))) fun v84 =>
              acall TP fn_spec_l4Source [x1.1, v50, v84] σ (onr (fun v85 σ =>
              og (sbin .add v80 v85) fun v86 =>
              og (sbin .add v86 (.val (.string ⟨#[41]⟩))) fun v87 =>
              aret v87 σ R) (fun v σ => apan v σ R))) (
              jn (X := Tup [0, 1, 2, 7, 8, 52, 88]) (fun x4 σ =>
                  apick x4.2.2.2.2.2.2.1 (
                    og (sbin .add (.val (.string ⟨#[40, 108, 101, 116, 32, 40, 40]⟩)) x4.2.2.2.1) fun v92 =>
                    og (sbin .add v92 (.val (.string ⟨#[32]⟩))) fun v93 =>
                    og (ibin .sub x4.2.2.1 (.val (.int .i64 1))) fun v97 =>
                    acall TP fn_spec_l4Source [x4.1, x4.2.1, v97] σ (onr (fun v98 σ =>
                    og (sbin .add v93 v98) fun v99 =>
                    og (sbin .add v99 (.val (.string ⟨#[41, 41, 32]⟩))) fun v100 =>
                    og (ibin .sub x4.2.2.1 (.val (.int .i64 1))) fun v104 =>
                    acall TP fn_spec_l4Source [x4.1, x4.2.2.2.2.1, v104] σ (onr (fun v105 σ =>
                    og (sbin .add v100 v105) fun v106 =>
                    og (sbin .add v106 (.val (.string ⟨#[41]⟩))) fun v107 =>
                    aret v107 σ R) (fun v σ => apan v σ R))) (fun v σ => apan v σ R))) (
                    og (ibin .eql x4.2.2.2.2.2.1 (.val (.int .i64 4))) fun v109 =>
                    apick v109 (
                      og (ibin .sub x4.2.2.1 (.val (.int .i64 1))) fun v113 =>
                      acall TP fn_spec_l4Source [x4.1, x4.2.1, v113] σ (onr (fun v114 σ =>
                      og (sbin .add (.val (.string ⟨#[40, 98, 101, 103, 105, 110, 32]⟩)) v114) fun v115 =>
                      og (sbin .add v115 (.val (.string ⟨#[32]⟩))) fun v116 =>
                      og (ibin .sub x4.2.2.1 (.val (.int .i64 1))) fun v120 =>
                      acall TP fn_spec_l4Source [x4.1, x4.2.1, v120] σ (onr (fun v121 σ =>
                      og (sbin .add v116 v121) fun v122 =>
                      og (sbin .add v122 (.val (.string ⟨#[41]⟩))) fun v123 =>
                      aret v123 σ R) (fun v σ => apan v σ R))) (fun v σ => apan v σ R))) (
                      og (ibin .eql x4.2.2.2.2.2.1 (.val (.int .i64 5))) fun v125 =>
                      apick v125 (
                        og (sbin .add (.val (.string ⟨#[40, 40, 108, 97, 109, 98, 100, 97, 32, 40]⟩)) x4.2.2.2.1) fun v127 =>
                        og (sbin .add v127 (.val (.string ⟨#[41, 32]⟩))) fun v128 =>
                        og (ibin .sub x4.2.2.1 (.val (.int .i64 1))) fun v132 =>
                        acall TP fn_spec_l4Source [x4.1, x4.2.2.2.2.1, v132] σ (onr (fun v133 σ =>
                        og (sbin .add v128 v133) fun v134 =>
                        og (sbin .add v134 (.val (.string ⟨#[41, 32]⟩))) fun v135 =>
                        og (ibin .sub x4.2.2.1 (.val (.int .i64 1))) fun v139 =>
                        acall TP fn_spec_l4Source [x4.1, x4.2.1, v139] σ (onr (fun v140 σ =>
                        og (sbin .add v135 v140) fun v141 =>
                        og (sbin .add v141 (.val (.string ⟨#[41]⟩))) fun v142 =>
                        aret v142 σ R) (fun v σ => apan v σ R))) (fun v σ => apan v σ R))) (
                        og (ibin .eql x4.2.2.2.2.2.1 (.val (.int .i64 6))) fun v144 =>
                        apick v144 (
                          og (bslR 1 [(.val (.string ⟨#[]⟩))] 2 [(0, (.val (.string ⟨#[103]⟩))), (1, (.val (.string ⟨#[104]⟩)))]) fun v145 =>
                          og (ibin .sub x4.2.2.1 (.val (.int .i64 1))) fun v155 =>
                          acall TP fn_spec_l1Next [x4.1, (.val (.int .i64 2))] σ (onr (fun v147 σ =>
                          (True) ∧
                          og (idx 1 v145 v147 σ) fun v148 =>
                          og (lod v148 σ) fun v149 =>
                          og (sbin .add (.val (.string ⟨#[40, 115, 101, 116, 33, 32]⟩)) v149) fun v150 =>
                          og (sbin .add v150 (.val (.string ⟨#[32]⟩))) fun v151 =>
                          acall TP fn_spec_l4Source [x4.1, x4.2.1, v155] σ (onr (fun v156 σ =>
                          (lod v148 σ = some v149 ∧ idx 1 v145 v147 σ = some v148 ∧ True) ∧
                          og (sbin .add v151 v156) fun v157 =>
                          og (sbin .add v157 (.val (.string ⟨#[41]⟩))) fun v158 =>
                          aret v158 σ R) (fun v σ => apan v σ R))) (fun v σ => apan v σ R))) (
                          og (ibin .eql x4.2.2.2.2.2.1 (.val (.int .i64 7))) fun v160 =>
                          apick v160 (
                            bsl 1 [(.val (.string ⟨#[]⟩))] 0 [] σ fun v162 σ =>
                            app 1 v162 x4.2.1 σ fun v164 σ =>
                            bsl 1 [(.val (.string ⟨#[]⟩))] 1 [(0, (.val (.string ⟨#[107]⟩)))] σ fun v165 σ =>
                            app 1 v164 v165 σ fun v166 σ =>
                            og (ibin .sub x4.2.2.1 (.val (.int .i64 1))) fun v168 =>
                            acall TP fn_spec_l4Source [x4.1, v166, v168] σ (onr (fun v169 σ =>
                            og (sbin .add (.val (.string ⟨#[40, 99, 97, 108, 108, 47, 99, 99, 32, 40, 108, 97, 109, 98, 100, 97, 32, 40, 107, 41, 32]⟩)) v169) fun v170 =>
                            og (sbin .add v170 (.val (.string ⟨#[41, 41]⟩))) fun v171 =>
                            aret v171 σ R) (fun v σ => apan v σ R))) (
                            og (ibin .eql x4.2.2.2.2.2.1 (.val (.int .i64 8))) fun v173 =>
                            apick v173 (
                              og (bslR 1 [(.val (.string ⟨#[]⟩))] 5 [(0, (.val (.string ⟨#[99, 97, 114]⟩))), (1, (.val (.string ⟨#[99, 100, 114]⟩))), (2, (.val (.string ⟨#[110, 117, 108, 108, 63]⟩))), (3, (.val (.string ⟨#[112, 97, 105, 114, 63]⟩))), (4, (.val (.string ⟨#[110, 111, 116]⟩)))]) fun v174 =>
                              og (ibin .sub x4.2.2.1 (.val (.int .i64 1))) fun v184 =>
                              acall TP fn_spec_l1Next [x4.1, (.val (.int .i64 5))] σ (onr (fun v176 σ =>
                              (True) ∧
                              og (idx 1 v174 v176 σ) fun v177 =>
                              og (lod v177 σ) fun v178 =>
                              og (sbin .add (.val (.string ⟨#[40]⟩)) v178) fun v179 =>
                              og (sbin .add v179 (.val (.string ⟨#[32]⟩))) fun v180 =>
                              acall TP fn_spec_l4Source [x4.1, x4.2.1, v184] σ (onr (fun v185 σ =>
                              (lod v177 σ = some v178 ∧ idx 1 v174 v176 σ = some v177 ∧ True) ∧
                              og (sbin .add v180 v185) fun v186 =>
                              og (sbin .add v186 (.val (.string ⟨#[41]⟩))) fun v187 =>
                              aret v187 σ R) (fun v σ => apan v σ R))) (fun v σ => apan v σ R))) (
                              og (ibin .eql x4.2.2.2.2.2.1 (.val (.int .i64 9))) fun v189 =>
                              apick v189 (
                                og (bslR 1 [(.val (.string ⟨#[]⟩))] 3 [(0, (.val (.string ⟨#[99, 111, 110, 115]⟩))), (1, (.val (.string ⟨#[108, 105, 115, 116]⟩))), (2, (.val (.string ⟨#[101, 113, 63]⟩)))]) fun v190 =>
                                og (ibin .sub x4.2.2.1 (.val (.int .i64 1))) fun v200 =>
                                og (ibin .sub x4.2.2.1 (.val (.int .i64 1))) fun v207 =>
                                acall TP fn_spec_l1Next [x4.1, (.val (.int .i64 3))] σ (onr (fun v192 σ =>
                                (True) ∧
                                og (idx 1 v190 v192 σ) fun v193 =>
                                og (lod v193 σ) fun v194 =>
                                og (sbin .add (.val (.string ⟨#[40]⟩)) v194) fun v195 =>
                                og (sbin .add v195 (.val (.string ⟨#[32]⟩))) fun v196 =>
                                acall TP fn_spec_l4Source [x4.1, x4.2.1, v200] σ (onr (fun v201 σ =>
                                (lod v193 σ = some v194 ∧ idx 1 v190 v192 σ = some v193 ∧ True) ∧
                                og (sbin .add v196 v201) fun v202 =>
                                og (sbin .add v202 (.val (.string ⟨#[32]⟩))) fun v203 =>
                                acall TP fn_spec_l4Source [x4.1, x4.2.1, v207] σ (onr (fun v208 σ =>
                                (lod v193 σ = some v194 ∧ idx 1 v190 v192 σ = some v193 ∧ True) ∧
                                og (sbin .add v203 v208) fun v209 =>
                                og (sbin .add v209 (.val (.string ⟨#[41]⟩))) fun v210 =>
                                aret v210 σ R) (fun v σ => apan v σ R))) (fun v σ => apan v σ R))) (fun v σ => apan v σ R))) (
                                og (ibin .eql x4.2.2.2.2.2.1 (.val (.int .i64 10))) fun v212 =>
                                apick v212 (
                                  og (lenS x4.2.1) fun v214 =>
                                  og (ibin .gtr v214 (.val (.int .i64 0))) fun v215 =>
                                  apick v215 (
                                    og (lenS x4.2.1) fun v219 =>
                                    og (ibin .sub x4.2.2.1 (.val (.int .i64 1))) fun v228 =>
                                    acall TP fn_spec_l1Next [x4.1, v219] σ (onr (fun v220 σ =>
                                    (True) ∧
                                    og (idx 1 x4.2.1 v220 σ) fun v221 =>
                                    og (lod v221 σ) fun v222 =>
                                    og (sbin .add (.val (.string ⟨#[40]⟩)) v222) fun v223 =>
                                    og (sbin .add v223 (.val (.string ⟨#[32]⟩))) fun v224 =>
                                    acall TP fn_spec_l4Source [x4.1, x4.2.1, v228] σ (onr (fun v229 σ =>
                                    (lod v221 σ = some v222 ∧ idx 1 x4.2.1 v220 σ = some v221 ∧ True) ∧
                                    og (sbin .add v224 v229) fun v230 =>
                                    og (sbin .add v230 (.val (.string ⟨#[41]⟩))) fun v231 =>
                                    aret v231 σ R) (fun v σ => apan v σ R))) (fun v σ => apan v σ R))) (
                                    k3 (x4.1, x4.2.1, x4.2.2.1, ()) σ)) (
                                  k3 (x4.1, x4.2.1, x4.2.2.1, ()) σ))))))))) fun k4 =>
                og (ibin .eql v52 (.val (.int .i64 2))) fun v89 =>
                apick v89 (
                  k4 (x1.1, x1.2.1, x1.2.2.1, v44, v50, v52, v89, ()) σ) (
                  og (ibin .eql v52 (.val (.int .i64 3))) fun v90 =>
                  k4 (x1.1, x1.2.1, x1.2.2.1, v44, v50, v52, v90, ()) σ)))) (fun v σ => apan v σ R))) (fun v σ => apan v σ R)))) fun k1 =>
    og (ibin .leq a2 (.val (.int .i64 0))) fun v10 =>
    og (gval v10 false false (some a0)) fun v12 =>
    gpick v10 (
      og (pickV (.val (.bool true)) (.val (.bool true)) (.tup [])) fun v14 =>
      k1 (a0, a1, a2, v14, ()) σ) (
      acall TP fn_spec_l1Chance [v12, (.val (.int .i64 4))] σ (onr (fun v13 σ =>
      og (pickV (.val (.bool false)) (.val (.bool true)) v13) fun v14 =>
      k1 (a0, a1, a2, v14, ()) σ) (fun v σ => apan v σ R))) (False)
def x95 : Sx := .jn 13 [0, 1, 2, 14] (.apick (.var 3) (.jn 105 [0, 1, 21] (.apick (.var 2) (.og (.lenS (.var 1)) (.call 71 [(.var 1), (.var 0)] (.og (.idx 1 (.var 3) (.var 0)) (.og (.lod (.var 0)) (.ret (.var 0)))))) (.call 71 [(.var 0), (.lit (.val (.int .i64 9)))] (.call 96 [(.var 0)] (.call 71 [(.var 2), (.lit (.val (.int .i64 99)))] (.call 96 [(.var 0)] (.bsl 1 [(.val (.string ⟨#[]⟩))] 9 [(0, (.var 2)), (1, (.lit (.val (.string ⟨#[35, 116]⟩)))), (2, (.lit (.val (.string ⟨#[39, 40, 49, 32, 50, 41]⟩)))), (3, (.lit (.val (.string ⟨#[103]⟩)))), (4, (.lit (.val (.string ⟨#[104]⟩)))), (5, (.lit (.val (.string ⟨#[39, 97]⟩)))), (6, (.var 0)), (7, (.lit (.val (.string ⟨#[99, 97, 114]⟩)))), (8, (.lit (.val (.string ⟨#[43]⟩))))] (.call 71 [(.var 5), (.lit (.val (.int .i64 9)))] (.og (.idx 1 (.var 1) (.var 0)) (.og (.lod (.var 0)) (.ret (.var 0))))))))))) (.og (.lenS (.var 1)) (.og (.ibin .gtr (.var 0) (.lit (.val (.int .i64 0)))) (.gog (.var 0) true false (.ret (.var 2)) (.gpick (.var 1) (.call 98 [(.var 0), (.lit (.val (.int .i64 2)))] (.og (.pickV (.lit (.val (.bool true))) (.var 0) (.lit (.val (.bool false)))) (.jump 0 [(.var 5), (.var 6), (.var 0)]))) (.og (.pickV (.lit (.val (.bool false))) (.lit (.tup [])) (.lit (.val (.bool false)))) (.jump 0 [(.var 4), (.var 5), (.var 0)])) (.no)))))) (.bsl 1 [(.val (.string ⟨#[]⟩))] 3 [(0, (.lit (.val (.string ⟨#[120]⟩)))), (1, (.lit (.val (.string ⟨#[121]⟩)))), (2, (.lit (.val (.string ⟨#[122]⟩))))] (.call 71 [(.var 1), (.lit (.val (.int .i64 3)))] (.og (.idx 1 (.var 1) (.var 0)) (.og (.lod (.var 0)) (.bsl 1 [(.val (.string ⟨#[]⟩))] 0 [] (.app 1 (.var 0) (.var 6) (.bsl 1 [(.val (.string ⟨#[]⟩))] 1 [(0, (.var 2))] (.app 1 (.var 1) (.var 0) (.jn 63 [0, 1, 2] (.ord [0, 1, 7, 8, 9, 10, 14, 15, 16, 17, 2, 3, 4, 5, 6, 11, 12, 13, 18, 19, 20, 21] [0, 0, 2, 7, 15, 31, 63, 0, 0, 0, 512, 1926, 4095, 8191, 0, 0, 0, 65536, 249734, 524287, 1048575, 2097151] (.og (.bslR 1 [(.val (.string ⟨#[]⟩))] 5 [(0, (.lit (.val (.string ⟨#[43]⟩)))), (1, (.lit (.val (.string ⟨#[45]⟩)))), (2, (.lit (.val (.string ⟨#[42]⟩)))), (3, (.lit (.val (.string ⟨#[60]⟩)))), (4, (.lit (.val (.string ⟨#[61]⟩))))]) (.og (.ibin .sub (.var 3) (.lit (.val (.int .i64 1)))) (.og (.ibin .sub (.var 4) (.lit (.val (.int .i64 1)))) (.call 71 [(.var 3), (.lit (.val (.int .i64 5)))] (.wat [] (.og (.idx 1 (.var 3) (.var 0)) (.og (.lod (.var 0)) (.og (.sbin .add (.lit (.val (.string ⟨#[40]⟩))) (.var 0)) (.og (.sbin .add (.var 0) (.lit (.val (.string ⟨#[32]⟩)))) (.call 95 [(.var 8), (.var 9), (.var 6)] (.wat [⟨none, (.lod (.var 4)), (.var 3)⟩, ⟨none, (.idx 1 (.var 8) (.var 5)), (.var 4)⟩] (.og (.sbin .add (.var 1) (.var 0)) (.og (.sbin .add (.var 0) (.lit (.val (.string ⟨#[32]⟩)))) (.call 95 [(.var 11), (.var 12), (.var 8)] (.wat [⟨none, (.lod (.var 7)), (.var 6)⟩, ⟨none, (.idx 1 (.var 11) (.var 8)), (.var 7)⟩] (.og (.sbin .add (.var 1) (.var 0)) (.og (.sbin .add (.var 0) (.lit (.val (.string ⟨#[41]⟩)))) (.ret (.var 0)))))))))))))))))))) (.call 71 [(.var 8), (.lit (.val (.int .i64 12)))] (.og (.ibin .eql (.var 0) (.lit (.val (.int .i64 0)))) (.apick (.var 0) (.og (.ibin .sub (.var 12) (.lit (.val (.int .i64 1)))) (.call 95 [(.var 11), (.var 12), (.var 0)] (.og (.sbin .add (.lit (.val (.string ⟨#[40, 105, 102, 32]⟩))) (.var 0)) (.og (.sbin .add (.var 0) (.lit (.val (.string ⟨#[32]⟩)))) (.og (.ibin .sub (.var 16) (.lit (.val (.int .i64 1)))) (.call 95 [(.var 15), (.var 16), (.var 0)] (.og (.sbin .add (.var 2) (.var 0)) (.og (.sbin .add (.var 0) (.lit (.val (.string ⟨#[32]⟩)))) (.og (.ibin .sub (.var 20) (.lit (.val (.int .i64 1)))) (.call 95 [(.var 19), (.var 20), (.var 0)] (.og (.sbin .add (.var 2) (.var 0)) (.og (.sbin .add (.var 0) (.lit (.val (.string ⟨#[41]⟩)))) (.ret (.var 0)))))))))))))) (.og (.ibin .eql (.var 1) (.lit (.val (.int .i64 1)))) (.apick (.var 0) (.og (.sbin .add (.lit (.val (.string ⟨#[40, 108, 97, 109, 98, 100, 97, 32, 40]⟩))) (.var 7)) (.og (.sbin .add (.var 0) (.lit (.val (.string ⟨#[41, 32]⟩)))) (.og (.ibin .sub (.var 15) (.lit (.val (.int .i64 1)))) (.call 95 [(.var 14), (.var 6), (.var 0)] (.og (.sbin .add (.var 2) (.var 0)) (.og (.sbin .add (.var 0) (.lit (.val (.string ⟨#[41]⟩)))) (.ret (.var 0)))))))) (.jn 8031 [0, 1, 2, 7, 8, 52, 88] (.apick (.var 6) (.og (.sbin .add (.lit (.val (.string ⟨#[40, 108, 101, 116, 32, 40, 40]⟩))) (.var 3)) (.og (.sbin .add (.var 0) (.lit (.val (.string ⟨#[32]⟩)))) (.og (.ibin .sub (.var 4) (.lit (.val (.int .i64 1)))) (.call 95 [(.var 3), (.var 4), (.var 0)] (.og (.sbin .add (.var 2) (.var 0)) (.og (.sbin .add (.var 0) (.lit (.val (.string ⟨#[41, 41, 32]⟩)))) (.og (.ibin .sub (.var 8) (.lit (.val (.int .i64 1)))) (.call 95 [(.var 7), (.var 11), (.var 0)] (.og (.sbin .add (.var 2) (.var 0)) (.og (.sbin .add (.var 0) (.lit (.val (.string ⟨#[41]⟩)))) (.ret (.var 0)))))))))))) (.og (.ibin .eql (.var 5) (.lit (.val (.int .i64 4)))) (.apick (.var 0) (.og (.ibin .sub (.var 3) (.lit (.val (.int .i64 1)))) (.call 95 [(.var 2), (.var 3), (.var 0)] (.og (.sbin .add (.lit (.val (.string ⟨#[40, 98, 101, 103, 105, 110, 32]⟩))) (.var 0)) (.og (.sbin .add (.var 0) (.lit (.val (.string ⟨#[32]⟩)))) (.og (.ibin .sub (.var 7) (.lit (.val (.int .i64 1)))) (.call 95 [(.var 6), (.var 7), (.var 0)] (.og (.sbin .add (.var 2) (.var 0)) (.og (.sbin .add (.var 0) (.lit (.val (.string ⟨#[41]⟩)))) (.ret (.var 0)))))))))) (.og (.ibin .eql (.var 6) (.lit (.val (.int .i64 5)))) (.apick (.var 0) (.og (.sbin .add (.lit (.val (.string ⟨#[40, 40, 108, 97, 109, 98, 100, 97, 32, 40]⟩))) (.var 5)) (.og (.sbin .add (.var 0) (.lit (.val (.string ⟨#[41, 32]⟩)))) (.og (.ibin .sub (.var 6) (.lit (.val (.int .i64 1)))) (.call 95 [(.var 5), (.var 9), (.var 0)] (.og (.sbin .add (.var 2) (.var 0)) (.og (.sbin .add (.var 0) (.lit (.val (.string ⟨#[41, 32]⟩)))) (.og (.ibin .sub (.var 10) (.lit (.val (.int .i64 1)))) (.call 95 [(.var 9), (.var 10), (.var 0)] (.og (.sbin .add (.var 2) (.var 0)) (.og (.sbin .add (.var 0) (.lit (.val (.string ⟨#[41]⟩)))) (.ret (.var 0)))))))))))) (.og (.ibin .eql (.var 7) (.lit (.val (.int .i64 6)))) (.apick (.var 0) (.ord [0, 1, 7, 8, 9, 10, 2, 3, 4, 5, 6, 11, 12, 13, 14] [0, 0, 2, 7, 15, 31, 63, 0, 0, 0, 512, 1926, 4095, 8191, 16383] (.og (.bslR 1 [(.val (.string ⟨#[]⟩))] 2 [(0, (.lit (.val (.string ⟨#[103]⟩)))), (1, (.lit (.val (.string ⟨#[104]⟩))))]) (.og (.ibin .sub (.var 6) (.lit (.val (.int .i64 1)))) (.call 71 [(.var 5), (.lit (.val (.int .i64 2)))] (.wat [] (.og (.idx 1 (.var 2) (.var 0)) (.og (.lod (.var 0)) (.og (.sbin .add (.lit (.val (.string ⟨#[40, 115, 101, 116, 33, 32]⟩))) (.var 0)) (.og (.sbin .add (.var 0) (.lit (.val (.string ⟨#[32]⟩)))) (.call 95 [(.var 10), (.var 11), (.var 5)] (.wat [⟨none, (.lod (.var 4)), (.var 3)⟩, ⟨none, (.idx 1 (.var 7) (.var 5)), (.var 4)⟩] (.og (.sbin .add (.var 1) (.var 0)) (.og (.sbin .add (.var 0) (.lit (.val (.string ⟨#[41]⟩)))) (.ret (.var 0))))))))))))))) (.og (.ibin .eql (.var 8) (.lit (.val (.int .i64 7)))) (.apick (.var 0) (.bsl 1 [(.val (.string ⟨#[]⟩))] 0 [] (.app 1 (.var 0) (.var 6) (.bsl 1 [(.val (.string ⟨#[]⟩))] 1 [(0, (.lit (.val (.string ⟨#[107]⟩))))] (.app 1 (.var 1) (.var 0) (.og (.ibin .sub (.var 10) (.lit (.val (.int .i64 1)))) (.call 95 [(.var 9), (.var 1), (.var 0)] (.og (.sbin .add (.lit (.val (.string ⟨#[40, 99, 97, 108, 108, 47, 99, 99, 32, 40, 108, 97, 109, 98, 100, 97, 32, 40, 107, 41, 32]⟩))) (.var 0)) (.og (.sbin .add (.var 0) (.lit (.val (.string ⟨#[41, 41]⟩)))) (.ret (.var 0)))))))))) (.og (.ibin .eql (.var 9) (.lit (.val (.int .i64 8)))) (.apick (.var 0) (.ord [0, 1, 7, 8, 9, 10, 2, 3, 4, 5, 6, 11, 12, 13, 14] [0, 0, 2, 7, 15, 31, 63, 0, 0, 0, 512, 1926, 4095, 8191, 16383] (.og (.bslR 1 [(.val (.string ⟨#[]⟩))] 5 [(0, (.lit (.val (.string ⟨#[99, 97, 114]⟩)))), (1, (.lit (.val (.string ⟨#[99, 100, 114]⟩)))), (2, (.lit (.val (.string ⟨#[110, 117, 108, 108, 63]⟩)))), (3, (.lit (.val (.string ⟨#[112, 97, 105, 114, 63]⟩)))), (4, (.lit (.val (.string ⟨#[110, 111, 116]⟩))))]) (.og (.ibin .sub (.var 8) (.lit (.val (.int .i64 1)))) (.call 71 [(.var 7), (.lit (.val (.int .i64 5)))] (.wat [] (.og (.idx 1 (.var 2) (.var 0)) (.og (.lod (.var 0)) (.og (.sbin .add (.lit (.val (.string ⟨#[40]⟩))) (.var 0)) (.og (.sbin .add (.var 0) (.lit (.val (.string ⟨#[32]⟩)))) (.call 95 [(.var 12), (.var 13), (.var 5)] (.wat [⟨none, (.lod (.var 4)), (.var 3)⟩, ⟨none, (.idx 1 (.var 7) (.var 5)), (.var 4)⟩] (.og (.sbin .add (.var 1) (.var 0)) (.og (.sbin .add (.var 0) (.lit (.val (.string ⟨#[41]⟩)))) (.ret (.var 0))))))))))))))) (.og (.ibin .eql (.var 10) (.lit (.val (.int .i64 9)))) (.apick (.var 0) (.ord [0, 1, 7, 8, 9, 10, 14, 15, 16, 17, 2, 3, 4, 5, 6, 11, 12, 13, 18, 19, 20, 21] [0, 0, 2, 7, 15, 31, 63, 0, 0, 0, 512, 1926, 4095, 8191, 0, 0, 0, 65536, 249734, 524287, 1048575, 2097151] (.og (.bslR 1 [(.val (.string ⟨#[]⟩))] 3 [(0, (.lit (.val (.string ⟨#[99, 111, 110, 115]⟩)))), (1, (.lit (.val (.string ⟨#[108, 105, 115, 116]⟩)))), (2, (.lit (.val (.string ⟨#[101, 113, 63]⟩))))]) (.og (.ibin .sub (.var 9) (.lit (.val (.int .i64 1)))) (.og (.ibin .sub (.var 10) (.lit (.val (.int .i64 1)))) (.call 71 [(.var 9), (.lit (.val (.int .i64 3)))] (.wat [] (.og (.idx 1 (.var 3) (.var 0)) (.og (.lod (.var 0)) (.og (.sbin .add (.lit (.val (.string ⟨#[40]⟩))) (.var 0)) (.og (.sbin .add (.var 0) (.lit (.val (.string ⟨#[32]⟩)))) (.call 95 [(.var 14), (.var 15), (.var 6)] (.wat [⟨none, (.lod (.var 4)), (.var 3)⟩, ⟨none, (.idx 1 (.var 8) (.var 5)), (.var 4)⟩] (.og (.sbin .add (.var 1) (.var 0)) (.og (.sbin .add (.var 0) (.lit (.val (.string ⟨#[32]⟩)))) (.call 95 [(.var 17), (.var 18), (.var 8)] (.wat [⟨none, (.lod (.var 7)), (.var 6)⟩, ⟨none, (.idx 1 (.var 11) (.var 8)), (.var 7)⟩] (.og (.sbin .add (.var 1) (.var 0)) (.og (.sbin .add (.var 0) (.lit (.val (.string ⟨#[41]⟩)))) (.ret (.var 0)))))))))))))))))))) (.og (.ibin .eql (.var 11) (.lit (.val (.int .i64 10)))) (.apick (.var 0) (.og (.lenS (.var 8)) (.og (.ibin .gtr (.var 0) (.lit (.val (.int .i64 0)))) (.apick (.var 0) (.ord [0, 1, 2, 3, 9, 10, 11, 12, 4, 5, 6, 7, 8, 13, 14, 15, 16] [0, 0, 0, 4, 14, 31, 63, 127, 255, 0, 0, 0, 2048, 7710, 16383, 32767, 65535] (.og (.lenS (.var 10)) (.og (.ibin .sub (.var 12) (.lit (.val (.int .i64 1)))) (.call 71 [(.var 11), (.var 1)] (.wat [] (.og (.idx 1 (.var 13) (.var 0)) (.og (.lod (.var 0)) (.og (.sbin .add (.lit (.val (.string ⟨#[40]⟩))) (.var 0)) (.og (.sbin .add (.var 0) (.lit (.val (.string ⟨#[32]⟩)))) (.call 95 [(.var 16), (.var 17), (.var 5)] (.wat [⟨none, (.lod (.var 4)), (.var 3)⟩, ⟨none, (.idx 1 (.var 18) (.var 5)), (.var 4)⟩] (.og (.sbin .add (.var 1) (.var 0)) (.og (.sbin .add (.var 0) (.lit (.val (.string ⟨#[41]⟩)))) (.ret (.var 0))))))))))))))) (.jump 0 [(.var 9), (.var 10), (.var 11)])))) (.jump 0 [(.var 7), (.var 8), (.var 9)])))))))))))))))) (.og (.ibin .eql (.var 2) (.lit (.val (.int .i64 2)))) (.apick (.var 0) (.jump 0 [(.var 12), (.var 13), (.var 14), (.var 8), (.var 4), (.var 3), (.var 0)]) (.og (.ibin .eql (.var 3) (.lit (.val (.int .i64 3)))) (.jump 0 [(.var 13), (.var 14), (.var 15), (.var 9), (.var 5), (.var 4), (.var 0)])))))))))))))))))))) (.og (.ibin .leq (.var 0) (.lit (.val (.int .i64 0)))) (.gog (.var 0) false false (.ret (.var 3)) (.gpick (.var 1) (.og (.pickV (.lit (.val (.bool true))) (.lit (.val (.bool true))) (.lit (.tup []))) (.jump 0 [(.var 5), (.var 4), (.var 3), (.var 0)])) (.call 98 [(.var 0), (.lit (.val (.int .i64 4)))] (.og (.pickV (.lit (.val (.bool false))) (.lit (.val (.bool true))) (.var 0)) (.jump 0 [(.var 6), (.var 5), (.var 4), (.var 0)]))) (.no))))
set_option maxRecDepth 1000000 in
theorem x95_ok : okF TT Try.f95 3 x95 = true := by decide +kernel
set_option maxRecDepth 1000000 in
theorem s_spec_l4Source_ok {a0 a1 a2 : AV} {σ : AH} {R : AEnd → AH → Prop} (h : s_spec_l4Source a0 a1 a2 σ R) : acall TP fn_spec_l4Source [a0, a1, a2] σ R :=
  acall_okF (ρ := [a2, a1, a0]) TT_ok Try.func95 rfl x95 x95_ok rfl h

/-- loop.example/g00349/spec.l1Digits -/
def s_spec_l1Digits (a0 : AV) (σ : AH) (R : AEnd → AH → Prop) : Prop :=
  og (ibin .lss a0 (.val (.int .i64 0))) fun v4 =>
  apick v4 (
    og (aun .neg a0) fun v6 =>
    acall TP fn_spec_l1Digits [v6] σ (onr (fun v7 σ =>
    og (sbin .add (.val (.string ⟨#[45]⟩)) v7) fun v8 =>
    aret v8 σ R) (fun v σ => apan v σ R))) (
    og (ibin .lss a0 (.val (.int .i64 10))) fun v10 =>
    apick v10 (
      og (ibin .add (.val (.int .i64 48)) a0) fun v12 =>
      og (convI .u8 v12) fun v13 =>
      bsl 1 [(.val (.int .u8 0))] 1 [(0, v13)] σ fun v14 σ =>
      aconv TT ty_Lb ty_s v14 σ fun v15 σ =>
      aret v15 σ R) (
      og (ibin .quo a0 (.val (.int .i64 10))) fun v17 =>
      og (ibin .rem a0 (.val (.int .i64 10))) fun v20 =>
      og (ibin .add (.val (.int .i64 48)) v20) fun v21 =>
      og (convI .u8 v21) fun v22 =>
      og (bslR 1 [(.val (.int .u8 0))] 1 [(0, v22)]) fun v23 =>
      og (b2s v23) fun v24 =>
      acall TP fn_spec_l1Digits [v17] σ (onr (fun v18 σ =>
      (True) ∧
      og (sbin .add v18 v24) fun v25 =>
      aret v25 σ R) (fun v σ => apan v σ R))))
def x96 : Sx := .og (.ibin .lss (.var 0) (.lit (.val (.int .i64 0)))) (.apick (.var 0) (.og (.aun .neg (.var 1)) (.call 96 [(.var 0)] (.og (.sbin .add (.lit (.val (.string ⟨#[45]⟩))) (.var 0)) (.ret (.var 0))))) (.og (.ibin .lss (.var 1) (.lit (.val (.int .i64 10)))) (.apick (.var 0) (.og (.ibin .add (.lit (.val (.int .i64 48))) (.var 2)) (.og (.conv .u8 (.var 0)) (.bsl 1 [(.val (.int .u8 0))] 1 [(0, (.var 0))] (.cnv 51 9 (.var 0) (.ret (.var 0)))))) (.ord [0, 1, 3, 4, 5, 6, 7, 8, 2, 9, 10] [0, 1, 3, 0, 8, 24, 56, 120, 248, 511, 1023] (.og (.ibin .quo (.var 2) (.lit (.val (.int .i64 10)))) (.og (.ibin .rem (.var 3) (.lit (.val (.int .i64 10)))) (.og (.ibin .add (.lit (.val (.int .i64 48))) (.var 0)) (.og (.conv .u8 (.var 0)) (.og (.bslR 1 [(.val (.int .u8 0))] 1 [(0, (.var 0))]) (.og (.b2s (.var 0)) (.call 96 [(.var 5)] (.wat [] (.og (.sbin .add (.var 0) (.var 1)) (.ret (.var 0)))))))))))))))
set_option maxRecDepth 1000000 in
theorem x96_ok : okF TT Try.f96 1 x96 = true := by decide +kernel
set_option maxRecDepth 1000000 in
theorem s_spec_l1Digits_ok {a0 : AV} {σ : AH} {R : AEnd → AH → Prop} (h : s_spec_l1Digits a0 σ R) : acall TP fn_spec_l1Digits [a0] σ R :=
  acall_okF (ρ := [a0]) TT_ok Try.func96 rfl x96 x96_ok rfl h

/-- slices.Chunk[[]int64,int64]$1 -/
def s_slices_Chunk_1 (a0 a1 a2 : AV) (σ : AH) (R : AEnd → AH → Prop) : Prop :=
  lp (X := Tup [0, 1, 2, 4]) (fun R1 y1 σ =>
    og (lod y1.2.1 σ) fun v7 =>
    og (lenS v7) fun v8 =>
    og (ibin .lss y1.2.2.2.1 v8) fun v9 =>
    apick v9 (
      og (lod y1.2.2.1 σ) fun v13 =>
      og (lod y1.2.1 σ) fun v14 =>
      og (slc 1 v14 (some y1.2.2.2.1) none none σ) fun v16 =>
      og (lenS v16) fun v17 =>
      og (amm false v13 v17) fun v18 =>
      og (lod y1.2.1 σ) fun v20 =>
      og (ibin .add y1.2.2.2.1 v18) fun v24 =>
      og (ibin .add y1.2.2.2.1 v18) fun v27 =>
      og (slc 1 v20 (some y1.2.2.2.1) (some v24) (some v27) σ) fun v28 =>
      acallv TP y1.1 [v28] σ (onr (fun v29 σ =>
      og (aun .not v29) fun v30 =>
      apick v30 (
        aret (.tup []) σ R) (
        og (lod y1.2.2.1 σ) fun v11 =>
        og (ibin .add y1.2.2.2.1 v11) fun v12 =>
        R1 (y1.1, y1.2.1, y1.2.2.1, v12, ()) σ)) (fun v σ => apan v σ R))) (
      aret (.tup []) σ R)) (a0, a1, a2, (.val (.int .i64 0)), ()) σ
def x97 : Sx := .lp [0, 1, 2, 4] (.og (.lod (.var 1)) (.og (.lenS (.var 0)) (.og (.ibin .lss (.var 5) (.var 0)) (.apick (.var 0) (.ord [0, 1, 2, 3, 4, 5, 6] [0, 0, 0, 6, 14, 31, 63] (.og (.lod (.var 5)) (.og (.lod (.var 5)) (.og (.slc 1 (.var 0) (some (.var 8)) none none) (.og (.lenS (.var 0)) (.og (.amm false (.var 3) (.var 0)) (.og (.lod (.var 9)) (.og (.ibin .add (.var 12) (.var 1)) (.og (.ibin .add (.var 13) (.var 2)) (.og (.slc 1 (.var 2) (some (.var 14)) (some (.var 1)) (some (.var 0))) (.callv (.var 12) [(.var 0)] (.og (.aun .not (.var 0)) (.apick (.var 0) (.rets []) (.og (.lod (.var 16)) (.og (.ibin .add (.var 18) (.var 0)) (.jump 0 [(.var 16), (.var 17), (.var 18), (.var 0)])))))))))))))))) (.rets []))))) [(.var 2), (.var 1), (.var 0), (.lit (.val (.int .i64 0)))]
set_option maxRecDepth 1000000 in
theorem x97_ok : okF TT Try.f97 3 x97 = true := by decide +kernel
set_option maxRecDepth 1000000 in
theorem s_slices_Chunk_1_ok {a0 a1 a2 : AV} {σ : AH} {R : AEnd → AH → Prop} (h : s_slices_Chunk_1 a0 a1 a2 σ R) : acall TP fn_slices_Chunk_1 [a0, a1, a2] σ R :=
  acall_okF (ρ := [a2, a1, a0]) TT_ok Try.func97 rfl x97 x97_ok rfl h

/-- loop.example/g00349/spec.l1Chance -/
def s_spec_l1Chance (a0 a1 : AV) (σ : AH) (R : AEnd → AH → Prop) : Prop :=
  acall TP fn_spec_l1Next [a0, a1] σ (onr (fun v7 σ =>
  og (ibin .eql v7 (.val (.int .i64 0))) fun v8 =>
  aret v8 σ R) (fun v σ => apan v σ R))
def x98 : Sx := .call 71 [(.var 1), (.var 0)] (.og (.ibin .eql (.var 0) (.lit (.val (.int .i64 0)))) (.ret (.var 0)))
set_option maxRecDepth 1000000 in
theorem x98_ok : okF TT Try.f98 2 x98 = true := by decide +kernel
set_option maxRecDepth 1000000 in
theorem s_spec_l1Chance_ok {a0 a1 : AV} {σ : AH} {R : AEnd → AH → Prop} (h : s_spec_l1Chance a0 a1 σ R) : acall TP fn_spec_l1Chance [a0, a1] σ R :=
  acall_okF (ρ := [a1, a0]) TT_ok Try.func98 rfl x98 x98_ok rfl h

end Go.Proofs.Ytjfdgijgkbojnaa.E
