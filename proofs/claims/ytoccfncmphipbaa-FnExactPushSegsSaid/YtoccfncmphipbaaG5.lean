/- What functions come to. Printed by gen.py. -/
import Derived.Test.YtoccfncmphipbaaMF
import Derived.WalkKit
import Derived.Test.YtoccfncmphipbaaProg
namespace Go.Proofs.Ytoccfncmphipbaa.E
open Go Go.RowKit
set_option linter.unusedVariables false
set_option linter.unusedSectionVars false
variable [Lam]
noncomputable abbrev TP : Program := Try.prog
noncomputable abbrev TT : Tab := tab TP
theorem TT_ok : TabOk TP TT := tab_ok TP (by decide +kernel)

abbrev fn_laws_FnExactResizeSegs : FuncId := 3
abbrev fn_laws_FnExactPopSegs : FuncId := 4
abbrev fn_laws_FnExactPushSegs : FuncId := 5
abbrev fn_laws_szSegs : FuncId := 6
abbrev fn_spec_ResizeSegs : FuncId := 7
abbrev fn_laws_toSegs : FuncId := 8
abbrev fn_impl_ResizeSegs : FuncId := 9
abbrev fn_laws_eqSegsResult : FuncId := 10
abbrev fn_laws_eqSegs : FuncId := 11
abbrev fn_laws_markSegs : FuncId := 12
abbrev fn_laws_markSegsResult : FuncId := 13
abbrev fn_laws_heldSegsResult : FuncId := 14
abbrev fn_spec_PopSegs : FuncId := 15
abbrev fn_impl_PopSegs : FuncId := 16
abbrev fn_spec_PushSegs : FuncId := 17
abbrev fn_impl_PushSegs : FuncId := 18
abbrev fn_laws_szSegPartS : FuncId := 19
abbrev fn_spec_l12Fault : FuncId := 20
abbrev fn_spec_OpenSegs : FuncId := 21
abbrev fn_spec_l12List : FuncId := 22
abbrev fn_laws_toSegPartS : FuncId := 23
abbrev fn_impl_SegsFault : FuncId := 24
abbrev fn_impl_OpenSegs : FuncId := 25
abbrev fn_impl_Segs_items : FuncId := 26
abbrev fn_laws_eqSegPartS : FuncId := 27
abbrev fn_laws_markSegPartS : FuncId := 28
abbrev fn_laws_heldSegs : FuncId := 29
abbrev fn_spec_l12Open : FuncId := 30
abbrev fn_spec_l12Pop : FuncId := 31
abbrev fn_impl_segsOf : FuncId := 32
abbrev fn_spec_l12Depth : FuncId := 33
abbrev fn_spec_l12Push : FuncId := 34
abbrev fn_laws_szSegPart : FuncId := 35
abbrev fn_spec_l12Size : FuncId := 36
abbrev fn_laws_toSegPart : FuncId := 37
abbrev fn_impl_isSize : FuncId := 38
abbrev fn_impl_in : FuncId := 39
abbrev fn_laws_eqSegPart : FuncId := 40
abbrev fn_laws_markInt64S : FuncId := 41
abbrev fn_laws_heldSegPartS : FuncId := 42
abbrev fn_slices_Chunk : FuncId := 43
abbrev fn_slices_Clone : FuncId := 44
abbrev fn_laws_szInt64S : FuncId := 45
abbrev fn_spec_l1In : FuncId := 46
abbrev fn_laws_toInt64S : FuncId := 47
abbrev fn_laws_eqInt64S : FuncId := 48
abbrev fn_laws_heldInt64S : FuncId := 49
abbrev fn_slices_Chunk_1 : FuncId := 50
abbrev ty_LRLiE : TypeId := 26
abbrev ty_Li : TypeId := 44
abbrev ty_s : TypeId := 9
set_option maxRecDepth 1000000 in
theorem mk_LRLiE {n m : Int} {σ : AH} {k : AV → AH → Prop} (h0 : 0 ≤ n) (h1 : n ≤ m) (h2 : m ≤ 1099511627776) (h : ∀ φ, σ φ = none → k (.own φ 0 0 n.toNat) (σ.set φ ⟨0, 1, List.replicate m.toNat [(.val (.slice none 0 0))]⟩)) : amake TT ty_LRLiE (.val (.int .i64 n)) (.val (.int .i64 m)) σ k := amake_info (by kernel_rfl) h0 h1 h2 h
set_option maxRecDepth 1000000 in
theorem mk_Li {n m : Int} {σ : AH} {k : AV → AH → Prop} (h0 : 0 ≤ n) (h1 : n ≤ m) (h2 : m ≤ 1099511627776) (h : ∀ φ, σ φ = none → k (.own φ 0 0 n.toNat) (σ.set φ ⟨0, 1, List.replicate m.toNat [(.val (.int .i64 0))]⟩)) : amake TT ty_Li (.val (.int .i64 n)) (.val (.int .i64 m)) σ k := amake_info (by kernel_rfl) h0 h1 h2 h
/-- loop.example/g00349/laws.FnExactResizeSegs -/
def s_laws_FnExactResizeSegs (a0 a1 : AV) (σ : AH) (R : AEnd → AH → Prop) : Prop :=
  abox a0 σ fun v2 σ =>
  og (lodA 2 v2 σ) fun v13 =>
  acall TP fn_laws_szSegs [v13, (.val (.int .i64 1048576))] σ (onr (fun v15 σ =>
  og (ibin .lss v15 (.val (.int .i64 0))) fun v17 =>
  apick v17 (
    aret (.val (.bool true)) σ R) (
    og (lodA 2 v2 σ) fun v18 =>
    acall TP fn_laws_toSegs [v18] σ (onr (fun v19 σ =>
    acall TP fn_spec_ResizeSegs [v19, a1] σ (onr (fun v21 σ =>
    new [(.val (.int .i64 0)), (.val (.int .i64 0)), (.val (.int .i64 0)), (.val (.slice none 0 0))] σ fun v6 σ =>
    sto 4 v6 v21 σ fun σ =>
    og (lodA 2 v2 σ) fun v22 =>
    acall TP fn_laws_toSegs [v22] σ (onr (fun v23 σ =>
    new [(.val (.int .i64 0)), (.val (.slice none 0 0))] σ fun v7 σ =>
    sto 2 v7 v23 σ fun σ =>
    og (lodA 2 v7 σ) fun v24 =>
    acall TP fn_impl_ResizeSegs [v24, a1] σ (onr (fun v26 σ =>
    new [(.val (.int .i64 0)), (.val (.int .i64 0)), (.val (.int .i64 0)), (.val (.slice none 0 0))] σ fun v8 σ =>
    sto 4 v8 v26 σ fun σ =>
    og (lodA 4 v8 σ) fun v27 =>
    og (lodA 4 v6 σ) fun v28 =>
    acall TP fn_laws_eqSegsResult [v27, v28] σ (onr (fun v29 σ =>
    og (aun .not v29) fun v30 =>
    apick v30 (
      aret (.val (.bool false)) σ R) (
      og (lodA 2 v7 σ) fun v31 =>
      og (lodA 2 v2 σ) fun v32 =>
      acall TP fn_laws_toSegs [v32] σ (onr (fun v33 σ =>
      (lodA 2 v7 σ = some v31 ∧ True) ∧
      acall TP fn_laws_eqSegs [v31, v33] σ (onr (fun v34 σ =>
      (True) ∧
      og (aun .not v34) fun v35 =>
      apick v35 (
        aret (.val (.bool false)) σ R) (
        og (lodA 2 v7 σ) fun v36 =>
        acall TP fn_laws_markSegs [v36, (.val (.int .i64 1))] σ (onr (fun v38 σ =>
        jn (X := Tup [1, 2, 6, 8, 46]) (fun x1 σ =>
            apick x1.2.2.2.2.1 (
              aret (.val (.bool false)) σ R) (
              og (lodA 4 x1.2.2.2.1 σ) fun v47 =>
              acall TP fn_laws_markSegsResult [v47, (.val (.int .i64 1))] σ (onr (fun v49 σ =>
              og (lodA 4 x1.2.2.2.1 σ) fun v50 =>
              acall TP fn_laws_heldSegsResult [v50, (.val (.int .i64 1))] σ (onr (fun v52 σ =>
              og (ibin .lss v52 (.val (.int .i64 0))) fun v54 =>
              apick v54 (
                aret (.val (.bool false)) σ R) (
                og (ibin .neq v52 v49) fun v57 =>
                apick v57 (
                  aret (.val (.bool false)) σ R) (
                  og (lodA 2 x1.2.1 σ) fun v58 =>
                  acall TP fn_laws_toSegs [v58] σ (onr (fun v59 σ =>
                  acall TP fn_impl_ResizeSegs [v59, x1.1] σ (onr (fun v61 σ =>
                  new [(.val (.int .i64 0)), (.val (.int .i64 0)), (.val (.int .i64 0)), (.val (.slice none 0 0))] σ fun v12 σ =>
                  sto 4 v12 v61 σ fun σ =>
                  og (lodA 4 v12 σ) fun v62 =>
                  og (lodA 4 x1.2.2.1 σ) fun v63 =>
                  acall TP fn_laws_eqSegsResult [v62, v63] σ (onr (fun v64 σ =>
                  og (aun .not v64) fun v65 =>
                  apick v65 (
                    aret (.val (.bool false)) σ R) (
                    og (lodA 4 x1.2.2.2.1 σ) fun v66 =>
                    acall TP fn_laws_heldSegsResult [v66, (.val (.int .i64 1))] σ (onr (fun v68 σ =>
                    og (ibin .lss v68 (.val (.int .i64 0))) fun v70 =>
                    apick v70 (
                      aret (.val (.bool false)) σ R) (
                      og (ibin .neq v68 v49) fun v73 =>
                      apick v73 (
                        aret (.val (.bool false)) σ R) (
                        aret (.val (.bool true)) σ R))) (fun v σ => apan v σ R)))) (fun v σ => apan v σ R))) (fun v σ => apan v σ R))) (fun v σ => apan v σ R))))) (fun v σ => apan v σ R))) (fun v σ => apan v σ R)))) fun k1 =>
          og (ibin .lss v38 (.val (.int .i64 0))) fun v40 =>
          og (gval v40 false false (lodA 4 v8 σ)) fun v42 =>
          og (gval v40 false false (lodA 4 v6 σ)) fun v43 =>
          gpick v40 (
            og (pickV (.val (.bool true)) (.val (.bool true)) (.tup [])) fun v46 =>
            k1 (a1, v2, v6, v8, v46, ()) σ) (
            acall TP fn_laws_eqSegsResult [v42, v43] σ (onr (fun v44 σ =>
            og (aun .not v44) fun v45 =>
            og (pickV (.val (.bool false)) (.val (.bool true)) v45) fun v46 =>
            k1 (a1, v2, v6, v8, v46, ()) σ) (fun v σ => apan v σ R))) (False)) (fun v σ => apan v σ R)))) (fun v σ => apan v σ R))) (fun v σ => apan v σ R)))) (fun v σ => apan v σ R))) (fun v σ => apan v σ R))) (fun v σ => apan v σ R))) (fun v σ => apan v σ R))) (fun v σ => apan v σ R)))) (fun v σ => apan v σ R))
def x3 : Sx := .box (.var 1) (.og (.lodA 2 (.var 0)) (.call 6 [(.var 0), (.lit (.val (.int .i64 1048576)))] (.og (.ibin .lss (.var 0) (.lit (.val (.int .i64 0)))) (.apick (.var 0) (.ret (.lit (.val (.bool true)))) (.og (.lodA 2 (.var 3)) (.call 8 [(.var 0)] (.call 7 [(.var 0), (.var 6)] (.new [(.val (.int .i64 0)), (.val (.int .i64 0)), (.val (.int .i64 0)), (.val (.slice none 0 0))] (.sto 4 (.var 0) (.var 1) (.og (.lodA 2 (.var 7)) (.call 8 [(.var 0)] (.new [(.val (.int .i64 0)), (.val (.slice none 0 0))] (.sto 2 (.var 0) (.var 1) (.og (.lodA 2 (.var 0)) (.call 9 [(.var 0), (.var 12)] (.new [(.val (.int .i64 0)), (.val (.int .i64 0)), (.val (.int .i64 0)), (.val (.slice none 0 0))] (.sto 4 (.var 0) (.var 1) (.og (.lodA 4 (.var 0)) (.og (.lodA 4 (.var 7)) (.call 10 [(.var 1), (.var 0)] (.og (.aun .not (.var 0)) (.apick (.var 0) (.ret (.lit (.val (.bool false)))) (.ord [0, 1, 2, 3, 4] [0, 0, 2, 7, 15] (.og (.lodA 2 (.var 7)) (.og (.lodA 2 (.var 18)) (.call 8 [(.var 0)] (.wat [⟨none, (.lodA 2 (.var 10)), (.var 2)⟩] (.call 11 [(.var 2), (.var 0)] (.wat [] (.og (.aun .not (.var 0)) (.apick (.var 0) (.ret (.lit (.val (.bool false)))) (.og (.lodA 2 (.var 12)) (.call 12 [(.var 0), (.lit (.val (.int .i64 1)))] (.jn 16381 [1, 2, 6, 8, 46] (.apick (.var 4) (.ret (.lit (.val (.bool false)))) (.og (.lodA 4 (.var 3)) (.call 13 [(.var 0), (.lit (.val (.int .i64 1)))] (.og (.lodA 4 (.var 5)) (.call 14 [(.var 0), (.lit (.val (.int .i64 1)))] (.og (.ibin .lss (.var 0) (.lit (.val (.int .i64 0)))) (.apick (.var 0) (.ret (.lit (.val (.bool false)))) (.og (.ibin .neq (.var 1) (.var 3)) (.apick (.var 0) (.ret (.lit (.val (.bool false)))) (.og (.lodA 2 (.var 7)) (.call 8 [(.var 0)] (.call 9 [(.var 0), (.var 8)] (.new [(.val (.int .i64 0)), (.val (.int .i64 0)), (.val (.int .i64 0)), (.val (.slice none 0 0))] (.sto 4 (.var 0) (.var 1) (.og (.lodA 4 (.var 0)) (.og (.lodA 4 (.var 13)) (.call 10 [(.var 1), (.var 0)] (.og (.aun .not (.var 0)) (.apick (.var 0) (.ret (.lit (.val (.bool false)))) (.og (.lodA 4 (.var 17)) (.call 14 [(.var 0), (.lit (.val (.int .i64 1)))] (.og (.ibin .lss (.var 0) (.lit (.val (.int .i64 0)))) (.apick (.var 0) (.ret (.lit (.val (.bool false)))) (.og (.ibin .neq (.var 1) (.var 15)) (.apick (.var 0) (.ret (.lit (.val (.bool false)))) (.ret (.lit (.val (.bool true))))))))))))))))))))))))))))) (.og (.ibin .lss (.var 0) (.lit (.val (.int .i64 0)))) (.gog (.var 0) false false (.lodA 4 (.var 12)) (.gog (.var 1) false false (.lodA 4 (.var 19)) (.gpick (.var 2) (.og (.pickV (.lit (.val (.bool true))) (.lit (.val (.bool true))) (.lit (.tup []))) (.jump 0 [(.var 29), (.var 28), (.var 21), (.var 15), (.var 0)])) (.call 10 [(.var 1), (.var 0)] (.og (.aun .not (.var 0)) (.og (.pickV (.lit (.val (.bool false))) (.lit (.val (.bool true))) (.var 0)) (.jump 0 [(.var 31), (.var 30), (.var 23), (.var 17), (.var 0)])))) (.no)))))))))))))))))))))))))))))))))))))))
set_option maxRecDepth 1000000 in
theorem x3_ok : okF TT Try.f3 2 x3 = true := by decide +kernel
set_option maxRecDepth 1000000 in
theorem s_laws_FnExactResizeSegs_ok {a0 a1 : AV} {σ : AH} {R : AEnd → AH → Prop} (h : s_laws_FnExactResizeSegs a0 a1 σ R) : acall TP fn_laws_FnExactResizeSegs [a0, a1] σ R :=
  acall_okF (ρ := [a1, a0]) TT_ok Try.func3 rfl x3 x3_ok rfl h

/-- loop.example/g00349/laws.FnExactPopSegs -/
def s_laws_FnExactPopSegs (a0 : AV) (σ : AH) (R : AEnd → AH → Prop) : Prop :=
  abox a0 σ fun v1 σ =>
  og (lodA 2 v1 σ) fun v11 =>
  acall TP fn_laws_szSegs [v11, (.val (.int .i64 1048576))] σ (onr (fun v13 σ =>
  og (ibin .lss v13 (.val (.int .i64 0))) fun v15 =>
  apick v15 (
    aret (.val (.bool true)) σ R) (
    og (lodA 2 v1 σ) fun v16 =>
    acall TP fn_laws_toSegs [v16] σ (onr (fun v17 σ =>
    acall TP fn_spec_PopSegs [v17] σ (onr (fun v18 σ =>
    new [(.val (.int .i64 0)), (.val (.int .i64 0)), (.val (.int .i64 0)), (.val (.slice none 0 0))] σ fun v4 σ =>
    sto 4 v4 v18 σ fun σ =>
    og (lodA 2 v1 σ) fun v19 =>
    acall TP fn_laws_toSegs [v19] σ (onr (fun v20 σ =>
    new [(.val (.int .i64 0)), (.val (.slice none 0 0))] σ fun v5 σ =>
    sto 2 v5 v20 σ fun σ =>
    og (lodA 2 v5 σ) fun v21 =>
    acall TP fn_impl_PopSegs [v21] σ (onr (fun v22 σ =>
    new [(.val (.int .i64 0)), (.val (.int .i64 0)), (.val (.int .i64 0)), (.val (.slice none 0 0))] σ fun v6 σ =>
    sto 4 v6 v22 σ fun σ =>
    og (lodA 4 v6 σ) fun v23 =>
    og (lodA 4 v4 σ) fun v24 =>
    acall TP fn_laws_eqSegsResult [v23, v24] σ (onr (fun v25 σ =>
    og (aun .not v25) fun v26 =>
    apick v26 (
      aret (.val (.bool false)) σ R) (
      og (lodA 2 v5 σ) fun v27 =>
      og (lodA 2 v1 σ) fun v28 =>
      acall TP fn_laws_toSegs [v28] σ (onr (fun v29 σ =>
      (lodA 2 v5 σ = some v27 ∧ True) ∧
      acall TP fn_laws_eqSegs [v27, v29] σ (onr (fun v30 σ =>
      (True) ∧
      og (aun .not v30) fun v31 =>
      apick v31 (
        aret (.val (.bool false)) σ R) (
        og (lodA 2 v5 σ) fun v32 =>
        acall TP fn_laws_markSegs [v32, (.val (.int .i64 1))] σ (onr (fun v34 σ =>
        jn (X := Tup [1, 4, 6, 42]) (fun x1 σ =>
            apick x1.2.2.2.1 (
              aret (.val (.bool false)) σ R) (
              og (lodA 4 x1.2.2.1 σ) fun v43 =>
              acall TP fn_laws_markSegsResult [v43, (.val (.int .i64 1))] σ (onr (fun v45 σ =>
              og (lodA 4 x1.2.2.1 σ) fun v46 =>
              acall TP fn_laws_heldSegsResult [v46, (.val (.int .i64 1))] σ (onr (fun v48 σ =>
              og (ibin .lss v48 (.val (.int .i64 0))) fun v50 =>
              apick v50 (
                aret (.val (.bool false)) σ R) (
                og (ibin .neq v48 v45) fun v53 =>
                apick v53 (
                  aret (.val (.bool false)) σ R) (
                  og (lodA 2 x1.1 σ) fun v54 =>
                  acall TP fn_laws_toSegs [v54] σ (onr (fun v55 σ =>
                  acall TP fn_impl_PopSegs [v55] σ (onr (fun v56 σ =>
                  new [(.val (.int .i64 0)), (.val (.int .i64 0)), (.val (.int .i64 0)), (.val (.slice none 0 0))] σ fun v10 σ =>
                  sto 4 v10 v56 σ fun σ =>
                  og (lodA 4 v10 σ) fun v57 =>
                  og (lodA 4 x1.2.1 σ) fun v58 =>
                  acall TP fn_laws_eqSegsResult [v57, v58] σ (onr (fun v59 σ =>
                  og (aun .not v59) fun v60 =>
                  apick v60 (
                    aret (.val (.bool false)) σ R) (
                    og (lodA 4 x1.2.2.1 σ) fun v61 =>
                    acall TP fn_laws_heldSegsResult [v61, (.val (.int .i64 1))] σ (onr (fun v63 σ =>
                    og (ibin .lss v63 (.val (.int .i64 0))) fun v65 =>
                    apick v65 (
                      aret (.val (.bool false)) σ R) (
                      og (ibin .neq v63 v45) fun v68 =>
                      apick v68 (
                        aret (.val (.bool false)) σ R) (
                        aret (.val (.bool true)) σ R))) (fun v σ => apan v σ R)))) (fun v σ => apan v σ R))) (fun v σ => apan v σ R))) (fun v σ => apan v σ R))))) (fun v σ => apan v σ R))) (fun v σ => apan v σ R)))) fun k1 =>
          og (ibin .lss v34 (.val (.int .i64 0))) fun v36 =>
          og (gval v36 false false (lodA 4 v6 σ)) fun v38 =>
          og (gval v36 false false (lodA 4 v4 σ)) fun v39 =>
          gpick v36 (
            og (pickV (.val (.bool true)) (.val (.bool true)) (.tup [])) fun v42 =>
            k1 (v1, v4, v6, v42, ()) σ) (
            acall TP fn_laws_eqSegsResult [v38, v39] σ (onr (fun v40 σ =>
            og (aun .not v40) fun v41 =>
            og (pickV (.val (.bool false)) (.val (.bool true)) v41) fun v42 =>
            k1 (v1, v4, v6, v42, ()) σ) (fun v σ => apan v σ R))) (False)) (fun v σ => apan v σ R)))) (fun v σ => apan v σ R))) (fun v σ => apan v σ R)))) (fun v σ => apan v σ R))) (fun v σ => apan v σ R))) (fun v σ => apan v σ R))) (fun v σ => apan v σ R))) (fun v σ => apan v σ R)))) (fun v σ => apan v σ R))
def x4 : Sx := .box (.var 0) (.og (.lodA 2 (.var 0)) (.call 6 [(.var 0), (.lit (.val (.int .i64 1048576)))] (.og (.ibin .lss (.var 0) (.lit (.val (.int .i64 0)))) (.apick (.var 0) (.ret (.lit (.val (.bool true)))) (.og (.lodA 2 (.var 3)) (.call 8 [(.var 0)] (.call 15 [(.var 0)] (.new [(.val (.int .i64 0)), (.val (.int .i64 0)), (.val (.int .i64 0)), (.val (.slice none 0 0))] (.sto 4 (.var 0) (.var 1) (.og (.lodA 2 (.var 7)) (.call 8 [(.var 0)] (.new [(.val (.int .i64 0)), (.val (.slice none 0 0))] (.sto 2 (.var 0) (.var 1) (.og (.lodA 2 (.var 0)) (.call 16 [(.var 0)] (.new [(.val (.int .i64 0)), (.val (.int .i64 0)), (.val (.int .i64 0)), (.val (.slice none 0 0))] (.sto 4 (.var 0) (.var 1) (.og (.lodA 4 (.var 0)) (.og (.lodA 4 (.var 7)) (.call 10 [(.var 1), (.var 0)] (.og (.aun .not (.var 0)) (.apick (.var 0) (.ret (.lit (.val (.bool false)))) (.ord [0, 1, 2, 3, 4] [0, 0, 2, 7, 15] (.og (.lodA 2 (.var 7)) (.og (.lodA 2 (.var 18)) (.call 8 [(.var 0)] (.wat [⟨none, (.lodA 2 (.var 10)), (.var 2)⟩] (.call 11 [(.var 2), (.var 0)] (.wat [] (.og (.aun .not (.var 0)) (.apick (.var 0) (.ret (.lit (.val (.bool false)))) (.og (.lodA 2 (.var 12)) (.call 12 [(.var 0), (.lit (.val (.int .i64 1)))] (.jn 16381 [1, 4, 6, 42] (.apick (.var 3) (.ret (.lit (.val (.bool false)))) (.og (.lodA 4 (.var 2)) (.call 13 [(.var 0), (.lit (.val (.int .i64 1)))] (.og (.lodA 4 (.var 4)) (.call 14 [(.var 0), (.lit (.val (.int .i64 1)))] (.og (.ibin .lss (.var 0) (.lit (.val (.int .i64 0)))) (.apick (.var 0) (.ret (.lit (.val (.bool false)))) (.og (.ibin .neq (.var 1) (.var 3)) (.apick (.var 0) (.ret (.lit (.val (.bool false)))) (.og (.lodA 2 (.var 6)) (.call 8 [(.var 0)] (.call 16 [(.var 0)] (.new [(.val (.int .i64 0)), (.val (.int .i64 0)), (.val (.int .i64 0)), (.val (.slice none 0 0))] (.sto 4 (.var 0) (.var 1) (.og (.lodA 4 (.var 0)) (.og (.lodA 4 (.var 12)) (.call 10 [(.var 1), (.var 0)] (.og (.aun .not (.var 0)) (.apick (.var 0) (.ret (.lit (.val (.bool false)))) (.og (.lodA 4 (.var 16)) (.call 14 [(.var 0), (.lit (.val (.int .i64 1)))] (.og (.ibin .lss (.var 0) (.lit (.val (.int .i64 0)))) (.apick (.var 0) (.ret (.lit (.val (.bool false)))) (.og (.ibin .neq (.var 1) (.var 15)) (.apick (.var 0) (.ret (.lit (.val (.bool false)))) (.ret (.lit (.val (.bool true))))))))))))))))))))))))))))) (.og (.ibin .lss (.var 0) (.lit (.val (.int .i64 0)))) (.gog (.var 0) false false (.lodA 4 (.var 12)) (.gog (.var 1) false false (.lodA 4 (.var 19)) (.gpick (.var 2) (.og (.pickV (.lit (.val (.bool true))) (.lit (.val (.bool true))) (.lit (.tup []))) (.jump 0 [(.var 28), (.var 21), (.var 15), (.var 0)])) (.call 10 [(.var 1), (.var 0)] (.og (.aun .not (.var 0)) (.og (.pickV (.lit (.val (.bool false))) (.lit (.val (.bool true))) (.var 0)) (.jump 0 [(.var 30), (.var 23), (.var 17), (.var 0)])))) (.no)))))))))))))))))))))))))))))))))))))))
set_option maxRecDepth 1000000 in
theorem x4_ok : okF TT Try.f4 1 x4 = true := by decide +kernel
set_option maxRecDepth 1000000 in
theorem s_laws_FnExactPopSegs_ok {a0 : AV} {σ : AH} {R : AEnd → AH → Prop} (h : s_laws_FnExactPopSegs a0 σ R) : acall TP fn_laws_FnExactPopSegs [a0] σ R :=
  acall_okF (ρ := [a0]) TT_ok Try.func4 rfl x4 x4_ok rfl h

/-- loop.example/g00349/laws.FnExactPushSegs -/
def s_laws_FnExactPushSegs (a0 a1 : AV) (σ : AH) (R : AEnd → AH → Prop) : Prop :=
  abox a0 σ fun v2 σ =>
  og (lodA 2 v2 σ) fun v13 =>
  acall TP fn_laws_szSegs [v13, (.val (.int .i64 1048576))] σ (onr (fun v15 σ =>
  og (ibin .lss v15 (.val (.int .i64 0))) fun v17 =>
  apick v17 (
    aret (.val (.bool true)) σ R) (
    og (lodA 2 v2 σ) fun v18 =>
    acall TP fn_laws_toSegs [v18] σ (onr (fun v19 σ =>
    acall TP fn_spec_PushSegs [v19, a1] σ (onr (fun v21 σ =>
    new [(.val (.int .i64 0)), (.val (.int .i64 0)), (.val (.int .i64 0)), (.val (.slice none 0 0))] σ fun v6 σ =>
    sto 4 v6 v21 σ fun σ =>
    og (lodA 2 v2 σ) fun v22 =>
    acall TP fn_laws_toSegs [v22] σ (onr (fun v23 σ =>
    new [(.val (.int .i64 0)), (.val (.slice none 0 0))] σ fun v7 σ =>
    sto 2 v7 v23 σ fun σ =>
    og (lodA 2 v7 σ) fun v24 =>
    acall TP fn_impl_PushSegs [v24, a1] σ (onr (fun v26 σ =>
    new [(.val (.int .i64 0)), (.val (.int .i64 0)), (.val (.int .i64 0)), (.val (.slice none 0 0))] σ fun v8 σ =>
    sto 4 v8 v26 σ fun σ =>
    og (lodA 4 v8 σ) fun v27 =>
    og (lodA 4 v6 σ) fun v28 =>
    acall TP fn_laws_eqSegsResult [v27, v28] σ (onr (fun v29 σ =>
    og (aun .not v29) fun v30 =>
    apick v30 (
      aret (.val (.bool false)) σ R) (
      og (lodA 2 v7 σ) fun v31 =>
      og (lodA 2 v2 σ) fun v32 =>
      acall TP fn_laws_toSegs [v32] σ (onr (fun v33 σ =>
      (lodA 2 v7 σ = some v31 ∧ True) ∧
      acall TP fn_laws_eqSegs [v31, v33] σ (onr (fun v34 σ =>
      (True) ∧
      og (aun .not v34) fun v35 =>
      apick v35 (
        aret (.val (.bool false)) σ R) (
        og (lodA 2 v7 σ) fun v36 =>
        acall TP fn_laws_markSegs [v36, (.val (.int .i64 1))] σ (onr (fun v38 σ =>
        jn (X := Tup [1, 2, 6, 8, 46]) (fun x1 σ =>
            apick x1.2.2.2.2.1 (
              aret (.val (.bool false)) σ R) (
              og (lodA 4 x1.2.2.2.1 σ) fun v47 =>
              acall TP fn_laws_markSegsResult [v47, (.val (.int .i64 1))] σ (onr (fun v49 σ =>
              og (lodA 4 x1.2.2.2.1 σ) fun v50 =>
              acall TP fn_laws_heldSegsResult [v50, (.val (.int .i64 1))] σ (onr (fun v52 σ =>
              og (ibin .lss v52 (.val (.int .i64 0))) fun v54 =>
              apick v54 (
                aret (.val (.bool false)) σ R) (
                og (ibin .neq v52 v49) fun v57 =>
                apick v57 (
                  aret (.val (.bool false)) σ R) (
                  og (lodA 2 x1.2.1 σ) fun v58 =>
                  acall TP fn_laws_toSegs [v58] σ (onr (fun v59 σ =>
                  acall TP fn_impl_PushSegs [v59, x1.1] σ (onr (fun v61 σ =>
                  new [(.val (.int .i64 0)), (.val (.int .i64 0)), (.val (.int .i64 0)), (.val (.slice none 0 0))] σ fun v12 σ =>
                  sto 4 v12 v61 σ fun σ =>
                  og (lodA 4 v12 σ) fun v62 =>
                  og (lodA 4 x1.2.2.1 σ) fun v63 =>
                  acall TP fn_laws_eqSegsResult [v62, v63] σ (onr (fun v64 σ =>
                  og (aun .not v64) fun v65 =>
                  apick v65 (
                    aret (.val (.bool false)) σ R) (
                    og (lodA 4 x1.2.2.2.1 σ) fun v66 =>
                    acall TP fn_laws_heldSegsResult [v66, (.val (.int .i64 1))] σ (onr (fun v68 σ =>
                    og (ibin .lss v68 (.val (.int .i64 0))) fun v70 =>
                    apick v70 (
                      aret (.val (.bool false)) σ R) (
                      og (ibin .neq v68 v49) fun v73 =>
                      apick v73 (
                        aret (.val (.bool false)) σ R) (
                        aret (.val (.bool true)) σ R))) (fun v σ => apan v σ R)))) (fun v σ => apan v σ R))) (fun v σ => apan v σ R))) (fun v σ => apan v σ R))))) (fun v σ => apan v σ R))) (fun v σ => apan v σ R)))) fun k1 =>
          og (ibin .lss v38 (.val (.int .i64 0))) fun v40 =>
          og (gval v40 false false (lodA 4 v8 σ)) fun v42 =>
          og (gval v40 false false (lodA 4 v6 σ)) fun v43 =>
          gpick v40 (
            og (pickV (.val (.bool true)) (.val (.bool true)) (.tup [])) fun v46 =>
            k1 (a1, v2, v6, v8, v46, ()) σ) (
            acall TP fn_laws_eqSegsResult [v42, v43] σ (onr (fun v44 σ =>
            og (aun .not v44) fun v45 =>
            og (pickV (.val (.bool false)) (.val (.bool true)) v45) fun v46 =>
            k1 (a1, v2, v6, v8, v46, ()) σ) (fun v σ => apan v σ R))) (False)) (fun v σ => apan v σ R)))) (fun v σ => apan v σ R))) (fun v σ => apan v σ R)))) (fun v σ => apan v σ R))) (fun v σ => apan v σ R))) (fun v σ => apan v σ R))) (fun v σ => apan v σ R))) (fun v σ => apan v σ R)))) (fun v σ => apan v σ R))
def x5 : Sx := .box (.var 1) (.og (.lodA 2 (.var 0)) (.call 6 [(.var 0), (.lit (.val (.int .i64 1048576)))] (.og (.ibin .lss (.var 0) (.lit (.val (.int .i64 0)))) (.apick (.var 0) (.ret (.lit (.val (.bool true)))) (.og (.lodA 2 (.var 3)) (.call 8 [(.var 0)] (.call 17 [(.var 0), (.var 6)] (.new [(.val (.int .i64 0)), (.val (.int .i64 0)), (.val (.int .i64 0)), (.val (.slice none 0 0))] (.sto 4 (.var 0) (.var 1) (.og (.lodA 2 (.var 7)) (.call 8 [(.var 0)] (.new [(.val (.int .i64 0)), (.val (.slice none 0 0))] (.sto 2 (.var 0) (.var 1) (.og (.lodA 2 (.var 0)) (.call 18 [(.var 0), (.var 12)] (.new [(.val (.int .i64 0)), (.val (.int .i64 0)), (.val (.int .i64 0)), (.val (.slice none 0 0))] (.sto 4 (.var 0) (.var 1) (.og (.lodA 4 (.var 0)) (.og (.lodA 4 (.var 7)) (.call 10 [(.var 1), (.var 0)] (.og (.aun .not (.var 0)) (.apick (.var 0) (.ret (.lit (.val (.bool false)))) (.ord [0, 1, 2, 3, 4] [0, 0, 2, 7, 15] (.og (.lodA 2 (.var 7)) (.og (.lodA 2 (.var 18)) (.call 8 [(.var 0)] (.wat [⟨none, (.lodA 2 (.var 10)), (.var 2)⟩] (.call 11 [(.var 2), (.var 0)] (.wat [] (.og (.aun .not (.var 0)) (.apick (.var 0) (.ret (.lit (.val (.bool false)))) (.og (.lodA 2 (.var 12)) (.call 12 [(.var 0), (.lit (.val (.int .i64 1)))] (.jn 16381 [1, 2, 6, 8, 46] (.apick (.var 4) (.ret (.lit (.val (.bool false)))) (.og (.lodA 4 (.var 3)) (.call 13 [(.var 0), (.lit (.val (.int .i64 1)))] (.og (.lodA 4 (.var 5)) (.call 14 [(.var 0), (.lit (.val (.int .i64 1)))] (.og (.ibin .lss (.var 0) (.lit (.val (.int .i64 0)))) (.apick (.var 0) (.ret (.lit (.val (.bool false)))) (.og (.ibin .neq (.var 1) (.var 3)) (.apick (.var 0) (.ret (.lit (.val (.bool false)))) (.og (.lodA 2 (.var 7)) (.call 8 [(.var 0)] (.call 18 [(.var 0), (.var 8)] (.new [(.val (.int .i64 0)), (.val (.int .i64 0)), (.val (.int .i64 0)), (.val (.slice none 0 0))] (.sto 4 (.var 0) (.var 1) (.og (.lodA 4 (.var 0)) (.og (.lodA 4 (.var 13)) (.call 10 [(.var 1), (.var 0)] (.og (.aun .not (.var 0)) (.apick (.var 0) (.ret (.lit (.val (.bool false)))) (.og (.lodA 4 (.var 17)) (.call 14 [(.var 0), (.lit (.val (.int .i64 1)))] (.og (.ibin .lss (.var 0) (.lit (.val (.int .i64 0)))) (.apick (.var 0) (.ret (.lit (.val (.bool false)))) (.og (.ibin .neq (.var 1) (.var 15)) (.apick (.var 0) (.ret (.lit (.val (.bool false)))) (.ret (.lit (.val (.bool true))))))))))))))))))))))))))))) (.og (.ibin .lss (.var 0) (.lit (.val (.int .i64 0)))) (.gog (.var 0) false false (.lodA 4 (.var 12)) (.gog (.var 1) false false (.lodA 4 (.var 19)) (.gpick (.var 2) (.og (.pickV (.lit (.val (.bool true))) (.lit (.val (.bool true))) (.lit (.tup []))) (.jump 0 [(.var 29), (.var 28), (.var 21), (.var 15), (.var 0)])) (.call 10 [(.var 1), (.var 0)] (.og (.aun .not (.var 0)) (.og (.pickV (.lit (.val (.bool false))) (.lit (.val (.bool true))) (.var 0)) (.jump 0 [(.var 31), (.var 30), (.var 23), (.var 17), (.var 0)])))) (.no)))))))))))))))))))))))))))))))))))))))
set_option maxRecDepth 1000000 in
theorem x5_ok : okF TT Try.f5 2 x5 = true := by decide +kernel
set_option maxRecDepth 1000000 in
theorem s_laws_FnExactPushSegs_ok {a0 a1 : AV} {σ : AH} {R : AEnd → AH → Prop} (h : s_laws_FnExactPushSegs a0 a1 σ R) : acall TP fn_laws_FnExactPushSegs [a0, a1] σ R :=
  acall_okF (ρ := [a1, a0]) TT_ok Try.func5 rfl x5 x5_ok rfl h

/-- loop.example/g00349/laws.szSegs -/
def s_laws_szSegs (a0 a1 : AV) (σ : AH) (R : AEnd → AH → Prop) : Prop :=
  abox a0 σ fun v2 σ =>
  og (fldA 1 v2) fun v5 =>
  og (lod v5 σ) fun v6 =>
  acall TP fn_laws_szSegPartS [v6, a1] σ (onr (fun v8 σ =>
  og (ibin .lss v8 (.val (.int .i64 0))) fun v10 =>
  apick v10 (
    aret (.val (.int .i64 (-1))) σ R) (
    aret v8 σ R)) (fun v σ => apan v σ R))
def x6 : Sx := .box (.var 1) (.og (.fldA 1 (.var 0)) (.og (.lod (.var 0)) (.call 19 [(.var 0), (.var 3)] (.og (.ibin .lss (.var 0) (.lit (.val (.int .i64 0)))) (.apick (.var 0) (.ret (.lit (.val (.int .i64 (-1))))) (.ret (.var 1)))))))
set_option maxRecDepth 1000000 in
theorem x6_ok : okF TT Try.f6 2 x6 = true := by decide +kernel
set_option maxRecDepth 1000000 in
theorem s_laws_szSegs_ok {a0 a1 : AV} {σ : AH} {R : AEnd → AH → Prop} (h : s_laws_szSegs a0 a1 σ R) : acall TP fn_laws_szSegs [a0, a1] σ R :=
  acall_okF (ρ := [a1, a0]) TT_ok Try.func6 rfl x6 x6_ok rfl h

/-- loop.example/g00349/spec.ResizeSegs -/
def s_spec_ResizeSegs (a0 a1 : AV) (σ : AH) (R : AEnd → AH → Prop) : Prop :=
  abox a0 σ fun v2 σ =>
  new [(.val (.int .i64 0)), (.val (.int .i64 0)), (.val (.int .i64 0)), (.val (.slice none 0 0))] σ fun v4 σ =>
  acall TP fn_spec_l12Fault [v2] σ (onr (fun v6 σ =>
  og (ibin .neq v6 (.val (.int .i64 0))) fun v8 =>
  apick v8 (
    og (bld [(.val (.int .i64 0)), (.val (.int .i64 0)), (.val (.int .i64 0)), (.val (.slice none 0 0))] [(0, 1), (1, 1), (2, 2)] [(0, v6)]) fun v10 =>
    sto 4 v4 v10 σ fun σ =>
    og (lodA 4 v4 σ) fun r4 =>
    aret r4 σ R) (
    acall TP fn_spec_l12List [v2] σ (onr (fun v12 σ =>
    acall TP fn_spec_OpenSegs [a1, v12] σ (onr (fun v13 σ =>
    sto 4 v4 v13 σ fun σ =>
    og (lodA 4 v4 σ) fun r4 =>
    aret r4 σ R) (fun v σ => apan v σ R))) (fun v σ => apan v σ R)))) (fun v σ => apan v σ R))
def x7 : Sx := .box (.var 1) (.new [(.val (.int .i64 0)), (.val (.int .i64 0)), (.val (.int .i64 0)), (.val (.slice none 0 0))] (.call 20 [(.var 1)] (.og (.ibin .neq (.var 0) (.lit (.val (.int .i64 0)))) (.apick (.var 0) (.og (.bld [(.val (.int .i64 0)), (.val (.int .i64 0)), (.val (.int .i64 0)), (.val (.slice none 0 0))] [(0, 1), (1, 1), (2, 2)] [(0, (.var 1))]) (.sto 4 (.var 3) (.var 0) (.og (.lodA 4 (.var 3)) (.ret (.var 0))))) (.call 22 [(.var 3)] (.call 21 [(.var 5), (.var 0)] (.sto 4 (.var 4) (.var 0) (.og (.lodA 4 (.var 4)) (.ret (.var 0))))))))))
set_option maxRecDepth 1000000 in
theorem x7_ok : okF TT Try.f7 2 x7 = true := by decide +kernel
set_option maxRecDepth 1000000 in
theorem s_spec_ResizeSegs_ok {a0 a1 : AV} {σ : AH} {R : AEnd → AH → Prop} (h : s_spec_ResizeSegs a0 a1 σ R) : acall TP fn_spec_ResizeSegs [a0, a1] σ R :=
  acall_okF (ρ := [a1, a0]) TT_ok Try.func7 rfl x7 x7_ok rfl h

/-- loop.example/g00349/laws.toSegs -/
def s_laws_toSegs (a0 : AV) (σ : AH) (R : AEnd → AH → Prop) : Prop :=
  abox a0 σ fun v1 σ =>
  new [(.val (.int .i64 0)), (.val (.slice none 0 0))] σ fun v2 σ =>
  new [(.val (.int .i64 0)), (.val (.slice none 0 0))] σ fun v3 σ =>
  og (fldA 0 v1) fun v4 =>
  og (lod v4 σ) fun v5 =>
  og (fldA 0 v3) fun v6 =>
  sto 1 v6 v5 σ fun σ =>
  og (fldA 1 v1) fun v7 =>
  og (lod v7 σ) fun v8 =>
  acall TP fn_laws_toSegPartS [v8] σ (onr (fun v9 σ =>
  og (fldA 1 v3) fun v10 =>
  sto 1 v10 v9 σ fun σ =>
  og (lodA 2 v3 σ) fun v11 =>
  sto 2 v2 v11 σ fun σ =>
  og (lodA 2 v2 σ) fun r2 =>
  aret r2 σ R) (fun v σ => apan v σ R))
def x8 : Sx := .box (.var 0) (.new [(.val (.int .i64 0)), (.val (.slice none 0 0))] (.new [(.val (.int .i64 0)), (.val (.slice none 0 0))] (.og (.fldA 0 (.var 2)) (.og (.lod (.var 0)) (.og (.fldA 0 (.var 2)) (.sto 1 (.var 0) (.var 1) (.og (.fldA 1 (.var 5)) (.og (.lod (.var 0)) (.call 23 [(.var 0)] (.og (.fldA 1 (.var 6)) (.sto 1 (.var 0) (.var 1) (.og (.lodA 2 (.var 7)) (.sto 2 (.var 9) (.var 0) (.og (.lodA 2 (.var 9)) (.ret (.var 0))))))))))))))))
set_option maxRecDepth 1000000 in
theorem x8_ok : okF TT Try.f8 1 x8 = true := by decide +kernel
set_option maxRecDepth 1000000 in
theorem s_laws_toSegs_ok {a0 : AV} {σ : AH} {R : AEnd → AH → Prop} (h : s_laws_toSegs a0 σ R) : acall TP fn_laws_toSegs [a0] σ R :=
  acall_okF (ρ := [a0]) TT_ok Try.func8 rfl x8 x8_ok rfl h

/-- loop.example/g00349/impl.ResizeSegs -/
def s_impl_ResizeSegs (a0 a1 : AV) (σ : AH) (R : AEnd → AH → Prop) : Prop :=
  abox a0 σ fun v2 σ =>
  new [(.val (.int .i64 0)), (.val (.int .i64 0)), (.val (.int .i64 0)), (.val (.slice none 0 0))] σ fun v4 σ =>
  og (lodA 2 v2 σ) fun v6 =>
  acall TP fn_impl_SegsFault [v6] σ (onr (fun v7 σ =>
  og (ibin .neq v7 (.val (.int .i64 0))) fun v9 =>
  apick v9 (
    og (bld [(.val (.int .i64 0)), (.val (.int .i64 0)), (.val (.int .i64 0)), (.val (.slice none 0 0))] [(0, 1), (1, 1), (2, 2)] [(0, v7)]) fun v11 =>
    sto 4 v4 v11 σ fun σ =>
    og (lodA 4 v4 σ) fun r4 =>
    aret r4 σ R) (
    og (lodA 2 v2 σ) fun v13 =>
    acall TP fn_impl_Segs_items [v13] σ (onr (fun v14 σ =>
    acall TP fn_impl_OpenSegs [a1, v14] σ (onr (fun v15 σ =>
    sto 4 v4 v15 σ fun σ =>
    og (lodA 4 v4 σ) fun r4 =>
    aret r4 σ R) (fun v σ => apan v σ R))) (fun v σ => apan v σ R)))) (fun v σ => apan v σ R))
def x9 : Sx := .box (.var 1) (.new [(.val (.int .i64 0)), (.val (.int .i64 0)), (.val (.int .i64 0)), (.val (.slice none 0 0))] (.og (.lodA 2 (.var 1)) (.call 24 [(.var 0)] (.og (.ibin .neq (.var 0) (.lit (.val (.int .i64 0)))) (.apick (.var 0) (.og (.bld [(.val (.int .i64 0)), (.val (.int .i64 0)), (.val (.int .i64 0)), (.val (.slice none 0 0))] [(0, 1), (1, 1), (2, 2)] [(0, (.var 1))]) (.sto 4 (.var 4) (.var 0) (.og (.lodA 4 (.var 4)) (.ret (.var 0))))) (.og (.lodA 2 (.var 4)) (.call 26 [(.var 0)] (.call 25 [(.var 7), (.var 0)] (.sto 4 (.var 6) (.var 0) (.og (.lodA 4 (.var 6)) (.ret (.var 0))))))))))))
set_option maxRecDepth 1000000 in
theorem x9_ok : okF TT Try.f9 2 x9 = true := by decide +kernel
set_option maxRecDepth 1000000 in
theorem s_impl_ResizeSegs_ok {a0 a1 : AV} {σ : AH} {R : AEnd → AH → Prop} (h : s_impl_ResizeSegs a0 a1 σ R) : acall TP fn_impl_ResizeSegs [a0, a1] σ R :=
  acall_okF (ρ := [a1, a0]) TT_ok Try.func9 rfl x9 x9_ok rfl h

/-- loop.example/g00349/laws.eqSegsResult -/
def s_laws_eqSegsResult (a0 a1 : AV) (σ : AH) (R : AEnd → AH → Prop) : Prop :=
  abox a0 σ fun v2 σ =>
  abox a1 σ fun v3 σ =>
  og (fldA 0 v2) fun v5 =>
  og (lod v5 σ) fun v6 =>
  og (fldA 0 v3) fun v7 =>
  og (lod v7 σ) fun v8 =>
  og (ibin .neq v6 v8) fun v9 =>
  apick v9 (
    aret (.val (.bool false)) σ R) (
    og (fldA 1 v2) fun v10 =>
    og (lod v10 σ) fun v11 =>
    og (fldA 1 v3) fun v12 =>
    og (lod v12 σ) fun v13 =>
    og (ibin .neq v11 v13) fun v14 =>
    apick v14 (
      aret (.val (.bool false)) σ R) (
      og (fldA 2 v2) fun v15 =>
      og (lodA 2 v15 σ) fun v16 =>
      og (fldA 2 v3) fun v17 =>
      og (lodA 2 v17 σ) fun v18 =>
      acall TP fn_laws_eqSegs [v16, v18] σ (onr (fun v19 σ =>
      og (aun .not v19) fun v20 =>
      apick v20 (
        aret (.val (.bool false)) σ R) (
        aret (.val (.bool true)) σ R)) (fun v σ => apan v σ R))))
def x10 : Sx := .box (.var 1) (.box (.var 1) (.og (.fldA 0 (.var 1)) (.og (.lod (.var 0)) (.og (.fldA 0 (.var 2)) (.og (.lod (.var 0)) (.og (.ibin .neq (.var 2) (.var 0)) (.apick (.var 0) (.ret (.lit (.val (.bool false)))) (.og (.fldA 1 (.var 6)) (.og (.lod (.var 0)) (.og (.fldA 1 (.var 7)) (.og (.lod (.var 0)) (.og (.ibin .neq (.var 2) (.var 0)) (.apick (.var 0) (.ret (.lit (.val (.bool false)))) (.og (.fldA 2 (.var 11)) (.og (.lodA 2 (.var 0)) (.og (.fldA 2 (.var 12)) (.og (.lodA 2 (.var 0)) (.call 11 [(.var 2), (.var 0)] (.og (.aun .not (.var 0)) (.apick (.var 0) (.ret (.lit (.val (.bool false)))) (.ret (.lit (.val (.bool true))))))))))))))))))))))))
set_option maxRecDepth 1000000 in
theorem x10_ok : okF TT Try.f10 2 x10 = true := by decide +kernel
set_option maxRecDepth 1000000 in
theorem s_laws_eqSegsResult_ok {a0 a1 : AV} {σ : AH} {R : AEnd → AH → Prop} (h : s_laws_eqSegsResult a0 a1 σ R) : acall TP fn_laws_eqSegsResult [a0, a1] σ R :=
  acall_okF (ρ := [a1, a0]) TT_ok Try.func10 rfl x10 x10_ok rfl h

/-- loop.example/g00349/laws.eqSegs -/
def s_laws_eqSegs (a0 a1 : AV) (σ : AH) (R : AEnd → AH → Prop) : Prop :=
  abox a0 σ fun v2 σ =>
  abox a1 σ fun v3 σ =>
  og (fldA 0 v2) fun v5 =>
  og (lod v5 σ) fun v6 =>
  og (fldA 0 v3) fun v7 =>
  og (lod v7 σ) fun v8 =>
  og (ibin .neq v6 v8) fun v9 =>
  apick v9 (
    aret (.val (.bool false)) σ R) (
    og (fldA 1 v2) fun v10 =>
    og (lod v10 σ) fun v11 =>
    og (fldA 1 v3) fun v12 =>
    og (lod v12 σ) fun v13 =>
    acall TP fn_laws_eqSegPartS [v11, v13] σ (onr (fun v14 σ =>
    og (aun .not v14) fun v15 =>
    apick v15 (
      aret (.val (.bool false)) σ R) (
      aret (.val (.bool true)) σ R)) (fun v σ => apan v σ R)))
def x11 : Sx := .box (.var 1) (.box (.var 1) (.og (.fldA 0 (.var 1)) (.og (.lod (.var 0)) (.og (.fldA 0 (.var 2)) (.og (.lod (.var 0)) (.og (.ibin .neq (.var 2) (.var 0)) (.apick (.var 0) (.ret (.lit (.val (.bool false)))) (.og (.fldA 1 (.var 6)) (.og (.lod (.var 0)) (.og (.fldA 1 (.var 7)) (.og (.lod (.var 0)) (.call 27 [(.var 2), (.var 0)] (.og (.aun .not (.var 0)) (.apick (.var 0) (.ret (.lit (.val (.bool false)))) (.ret (.lit (.val (.bool true))))))))))))))))))
set_option maxRecDepth 1000000 in
theorem x11_ok : okF TT Try.f11 2 x11 = true := by decide +kernel
set_option maxRecDepth 1000000 in
theorem s_laws_eqSegs_ok {a0 a1 : AV} {σ : AH} {R : AEnd → AH → Prop} (h : s_laws_eqSegs a0 a1 σ R) : acall TP fn_laws_eqSegs [a0, a1] σ R :=
  acall_okF (ρ := [a1, a0]) TT_ok Try.func11 rfl x11 x11_ok rfl h

/-- loop.example/g00349/laws.markSegs -/
def s_laws_markSegs (a0 a1 : AV) (σ : AH) (R : AEnd → AH → Prop) : Prop :=
  abox a0 σ fun v2 σ =>
  og (fldA 1 v2) fun v5 =>
  og (lod v5 σ) fun v6 =>
  acall TP fn_laws_markSegPartS [v6, a1] σ (onr (fun v8 σ =>
  aret v8 σ R) (fun v σ => apan v σ R))
def x12 : Sx := .box (.var 1) (.og (.fldA 1 (.var 0)) (.og (.lod (.var 0)) (.call 28 [(.var 0), (.var 3)] (.ret (.var 0)))))
set_option maxRecDepth 1000000 in
theorem x12_ok : okF TT Try.f12 2 x12 = true := by decide +kernel
set_option maxRecDepth 1000000 in
theorem s_laws_markSegs_ok {a0 a1 : AV} {σ : AH} {R : AEnd → AH → Prop} (h : s_laws_markSegs a0 a1 σ R) : acall TP fn_laws_markSegs [a0, a1] σ R :=
  acall_okF (ρ := [a1, a0]) TT_ok Try.func12 rfl x12 x12_ok rfl h

/-- loop.example/g00349/laws.markSegsResult -/
def s_laws_markSegsResult (a0 a1 : AV) (σ : AH) (R : AEnd → AH → Prop) : Prop :=
  abox a0 σ fun v2 σ =>
  og (fldA 2 v2) fun v5 =>
  og (lodA 2 v5 σ) fun v6 =>
  acall TP fn_laws_markSegs [v6, a1] σ (onr (fun v8 σ =>
  aret v8 σ R) (fun v σ => apan v σ R))
def x13 : Sx := .box (.var 1) (.og (.fldA 2 (.var 0)) (.og (.lodA 2 (.var 0)) (.call 12 [(.var 0), (.var 3)] (.ret (.var 0)))))
set_option maxRecDepth 1000000 in
theorem x13_ok : okF TT Try.f13 2 x13 = true := by decide +kernel
set_option maxRecDepth 1000000 in
theorem s_laws_markSegsResult_ok {a0 a1 : AV} {σ : AH} {R : AEnd → AH → Prop} (h : s_laws_markSegsResult a0 a1 σ R) : acall TP fn_laws_markSegsResult [a0, a1] σ R :=
  acall_okF (ρ := [a1, a0]) TT_ok Try.func13 rfl x13 x13_ok rfl h

/-- loop.example/g00349/laws.heldSegsResult -/
def s_laws_heldSegsResult (a0 a1 : AV) (σ : AH) (R : AEnd → AH → Prop) : Prop :=
  abox a0 σ fun v2 σ =>
  og (fldA 2 v2) fun v5 =>
  og (lodA 2 v5 σ) fun v6 =>
  acall TP fn_laws_heldSegs [v6, a1] σ (onr (fun v8 σ =>
  og (ibin .lss v8 (.val (.int .i64 0))) fun v10 =>
  apick v10 (
    aret (.val (.int .i64 (-1))) σ R) (
    aret v8 σ R)) (fun v σ => apan v σ R))
def x14 : Sx := .box (.var 1) (.og (.fldA 2 (.var 0)) (.og (.lodA 2 (.var 0)) (.call 29 [(.var 0), (.var 3)] (.og (.ibin .lss (.var 0) (.lit (.val (.int .i64 0)))) (.apick (.var 0) (.ret (.lit (.val (.int .i64 (-1))))) (.ret (.var 1)))))))
set_option maxRecDepth 1000000 in
theorem x14_ok : okF TT Try.f14 2 x14 = true := by decide +kernel
set_option maxRecDepth 1000000 in
theorem s_laws_heldSegsResult_ok {a0 a1 : AV} {σ : AH} {R : AEnd → AH → Prop} (h : s_laws_heldSegsResult a0 a1 σ R) : acall TP fn_laws_heldSegsResult [a0, a1] σ R :=
  acall_okF (ρ := [a1, a0]) TT_ok Try.func14 rfl x14 x14_ok rfl h

/-- loop.example/g00349/spec.PopSegs -/
def s_spec_PopSegs (a0 : AV) (σ : AH) (R : AEnd → AH → Prop) : Prop :=
  abox a0 σ fun v1 σ =>
  new [(.val (.int .i64 0)), (.val (.int .i64 0)), (.val (.int .i64 0)), (.val (.slice none 0 0))] σ fun v2 σ =>
  acall TP fn_spec_l12Fault [v1] σ (onr (fun v6 σ =>
  og (ibin .neq v6 (.val (.int .i64 0))) fun v8 =>
  apick v8 (
    og (bld [(.val (.int .i64 0)), (.val (.int .i64 0)), (.val (.int .i64 0)), (.val (.slice none 0 0))] [(0, 1), (1, 1), (2, 2)] [(0, v6)]) fun v10 =>
    sto 4 v2 v10 σ fun σ =>
    og (lodA 4 v2 σ) fun r2 =>
    aret r2 σ R) (
    og (fldA 1 v1) fun v11 =>
    og (lod v11 σ) fun v12 =>
    og (lenS v12) fun v13 =>
    og (ibin .eql v13 (.val (.int .i64 0))) fun v14 =>
    apick v14 (
      og (bld [(.val (.int .i64 0)), (.val (.int .i64 0)), (.val (.int .i64 0)), (.val (.slice none 0 0))] [(0, 1), (1, 1), (2, 2)] [(0, (.val (.int .i64 4)))]) fun v15 =>
      sto 4 v2 v15 σ fun σ =>
      og (lodA 4 v2 σ) fun r2 =>
      aret r2 σ R) (
      og (fldA 0 v1) fun v16 =>
      og (lod v16 σ) fun v17 =>
      acall TP fn_spec_l12List [v1] σ (onr (fun v18 σ =>
      (lod v16 σ = some v17 ∧ True) ∧
      acall TP fn_spec_l12Open [v17, v18] σ (onr (fun v19 σ =>
      (True) ∧
      new [(.val (.int .i64 0)), (.val (.slice none 0 0))] σ fun v4 σ =>
      (True) ∧
      sto 2 v4 v19 σ fun σ =>
      (True) ∧
      acall TP fn_spec_l12Pop [v4] σ (onr (fun v20 σ =>
      og (lodA 2 v4 σ) fun v22 =>
      og (bld [(.val (.int .i64 0)), (.val (.int .i64 0)), (.val (.int .i64 0)), (.val (.slice none 0 0))] [(0, 1), (1, 1), (2, 2)] [(1, v20), (2, v22)]) fun v23 =>
      sto 4 v2 v23 σ fun σ =>
      og (lodA 4 v2 σ) fun r2 =>
      aret r2 σ R) (fun v σ => apan v σ R))) (fun v σ => apan v σ R))) (fun v σ => apan v σ R))))) (fun v σ => apan v σ R))
def x15 : Sx := .box (.var 0) (.new [(.val (.int .i64 0)), (.val (.int .i64 0)), (.val (.int .i64 0)), (.val (.slice none 0 0))] (.call 20 [(.var 1)] (.og (.ibin .neq (.var 0) (.lit (.val (.int .i64 0)))) (.apick (.var 0) (.og (.bld [(.val (.int .i64 0)), (.val (.int .i64 0)), (.val (.int .i64 0)), (.val (.slice none 0 0))] [(0, 1), (1, 1), (2, 2)] [(0, (.var 1))]) (.sto 4 (.var 3) (.var 0) (.og (.lodA 4 (.var 3)) (.ret (.var 0))))) (.og (.fldA 1 (.var 3)) (.og (.lod (.var 0)) (.og (.lenS (.var 0)) (.og (.ibin .eql (.var 0) (.lit (.val (.int .i64 0)))) (.apick (.var 0) (.og (.bld [(.val (.int .i64 0)), (.val (.int .i64 0)), (.val (.int .i64 0)), (.val (.slice none 0 0))] [(0, 1), (1, 1), (2, 2)] [(0, (.lit (.val (.int .i64 4))))]) (.sto 4 (.var 7) (.var 0) (.og (.lodA 4 (.var 7)) (.ret (.var 0))))) (.ord [0, 1, 2, 3, 4, 5] [0, 1, 0, 7, 0, 31] (.og (.fldA 0 (.var 7)) (.og (.lod (.var 0)) (.call 22 [(.var 9)] (.wat [⟨none, (.lod (.var 2)), (.var 1)⟩] (.call 30 [(.var 1), (.var 0)] (.wat [] (.new [(.val (.int .i64 0)), (.val (.slice none 0 0))] (.wat [] (.sto 2 (.var 0) (.var 1) (.wat [] (.call 31 [(.var 0)] (.og (.lodA 2 (.var 1)) (.og (.bld [(.val (.int .i64 0)), (.val (.int .i64 0)), (.val (.int .i64 0)), (.val (.slice none 0 0))] [(0, 1), (1, 1), (2, 2)] [(1, (.var 1)), (2, (.var 0))]) (.sto 4 (.var 14) (.var 0) (.og (.lodA 4 (.var 14)) (.ret (.var 0)))))))))))))))))))))))))))
set_option maxRecDepth 1000000 in
theorem x15_ok : okF TT Try.f15 1 x15 = true := by decide +kernel
set_option maxRecDepth 1000000 in
theorem s_spec_PopSegs_ok {a0 : AV} {σ : AH} {R : AEnd → AH → Prop} (h : s_spec_PopSegs a0 σ R) : acall TP fn_spec_PopSegs [a0] σ R :=
  acall_okF (ρ := [a0]) TT_ok Try.func15 rfl x15 x15_ok rfl h

/-- loop.example/g00349/impl.PopSegs -/
def s_impl_PopSegs (a0 : AV) (σ : AH) (R : AEnd → AH → Prop) : Prop :=
  abox a0 σ fun v1 σ =>
  new [(.val (.int .i64 0)), (.val (.int .i64 0)), (.val (.int .i64 0)), (.val (.slice none 0 0))] σ fun v2 σ =>
  og (lodA 2 v1 σ) fun v6 =>
  acall TP fn_impl_SegsFault [v6] σ (onr (fun v7 σ =>
  og (ibin .neq v7 (.val (.int .i64 0))) fun v9 =>
  apick v9 (
    og (bld [(.val (.int .i64 0)), (.val (.int .i64 0)), (.val (.int .i64 0)), (.val (.slice none 0 0))] [(0, 1), (1, 1), (2, 2)] [(0, v7)]) fun v11 =>
    sto 4 v2 v11 σ fun σ =>
    og (lodA 4 v2 σ) fun r2 =>
    aret r2 σ R) (
    og (lodA 2 v1 σ) fun v12 =>
    acall TP fn_impl_Segs_items [v12] σ (onr (fun v13 σ =>
    og (lenS v13) fun v15 =>
    og (ibin .sub v15 (.val (.int .i64 1))) fun v16 =>
    og (ibin .lss v16 (.val (.int .i64 0))) fun v18 =>
    apick v18 (
      og (bld [(.val (.int .i64 0)), (.val (.int .i64 0)), (.val (.int .i64 0)), (.val (.slice none 0 0))] [(0, 1), (1, 1), (2, 2)] [(0, (.val (.int .i64 4)))]) fun v19 =>
      sto 4 v2 v19 σ fun σ =>
      og (lodA 4 v2 σ) fun r2 =>
      aret r2 σ R) (
      og (idx 1 v13 v16 σ) fun v22 =>
      og (lod v22 σ) fun v23 =>
      og (fldA 0 v1) fun v24 =>
      og (lod v24 σ) fun v25 =>
      og (slc 1 v13 none (some v16) none σ) fun v28 =>
      acall TP fn_impl_segsOf [v25, v28] σ (onr (fun v29 σ =>
      (lod v22 σ = some v23 ∧ idx 1 v13 v16 σ = some v22 ∧ True) ∧
      og (bld [(.val (.int .i64 0)), (.val (.int .i64 0)), (.val (.int .i64 0)), (.val (.slice none 0 0))] [(0, 1), (1, 1), (2, 2)] [(1, v23), (2, v29)]) fun v30 =>
      sto 4 v2 v30 σ fun σ =>
      (True) ∧
      og (lodA 4 v2 σ) fun r2 =>
      aret r2 σ R) (fun v σ => apan v σ R)))) (fun v σ => apan v σ R)))) (fun v σ => apan v σ R))
def x16 : Sx := .box (.var 0) (.new [(.val (.int .i64 0)), (.val (.int .i64 0)), (.val (.int .i64 0)), (.val (.slice none 0 0))] (.og (.lodA 2 (.var 1)) (.call 24 [(.var 0)] (.og (.ibin .neq (.var 0) (.lit (.val (.int .i64 0)))) (.apick (.var 0) (.og (.bld [(.val (.int .i64 0)), (.val (.int .i64 0)), (.val (.int .i64 0)), (.val (.slice none 0 0))] [(0, 1), (1, 1), (2, 2)] [(0, (.var 1))]) (.sto 4 (.var 4) (.var 0) (.og (.lodA 4 (.var 4)) (.ret (.var 0))))) (.og (.lodA 2 (.var 4)) (.call 26 [(.var 0)] (.og (.lenS (.var 0)) (.og (.ibin .sub (.var 0) (.lit (.val (.int .i64 1)))) (.og (.ibin .lss (.var 0) (.lit (.val (.int .i64 0)))) (.apick (.var 0) (.og (.bld [(.val (.int .i64 0)), (.val (.int .i64 0)), (.val (.int .i64 0)), (.val (.slice none 0 0))] [(0, 1), (1, 1), (2, 2)] [(0, (.lit (.val (.int .i64 4))))]) (.sto 4 (.var 9) (.var 0) (.og (.lodA 4 (.var 9)) (.ret (.var 0))))) (.ord [0, 1, 2, 3, 4, 5, 6, 7, 8, 9, 10, 11] [0, 0, 3, 7, 0, 16, 0, 0, 192, 496, 1023, 2047] (.og (.idx 1 (.var 3) (.var 1)) (.og (.lod (.var 0)) (.og (.fldA 0 (.var 11)) (.og (.lod (.var 0)) (.og (.slc 1 (.var 7) none (some (.var 5)) none) (.call 32 [(.var 1), (.var 0)] (.wat [⟨none, (.lod (.var 5)), (.var 4)⟩, ⟨none, (.idx 1 (.var 9) (.var 7)), (.var 5)⟩] (.og (.bld [(.val (.int .i64 0)), (.val (.int .i64 0)), (.val (.int .i64 0)), (.val (.slice none 0 0))] [(0, 1), (1, 1), (2, 2)] [(1, (.var 4)), (2, (.var 0))]) (.sto 4 (.var 15) (.var 0) (.wat [] (.og (.lodA 4 (.var 15)) (.ret (.var 0)))))))))))))))))))))))))
set_option maxRecDepth 1000000 in
theorem x16_ok : okF TT Try.f16 1 x16 = true := by decide +kernel
set_option maxRecDepth 1000000 in
theorem s_impl_PopSegs_ok {a0 : AV} {σ : AH} {R : AEnd → AH → Prop} (h : s_impl_PopSegs a0 σ R) : acall TP fn_impl_PopSegs [a0] σ R :=
  acall_okF (ρ := [a0]) TT_ok Try.func16 rfl x16 x16_ok rfl h

/-- loop.example/g00349/spec.PushSegs -/
def s_spec_PushSegs (a0 a1 : AV) (σ : AH) (R : AEnd → AH → Prop) : Prop :=
  abox a0 σ fun v2 σ =>
  new [(.val (.int .i64 0)), (.val (.int .i64 0)), (.val (.int .i64 0)), (.val (.slice none 0 0))] σ fun v4 σ =>
  acall TP fn_spec_l12Fault [v2] σ (onr (fun v7 σ =>
  og (ibin .neq v7 (.val (.int .i64 0))) fun v9 =>
  apick v9 (
    og (bld [(.val (.int .i64 0)), (.val (.int .i64 0)), (.val (.int .i64 0)), (.val (.slice none 0 0))] [(0, 1), (1, 1), (2, 2)] [(0, v7)]) fun v11 =>
    sto 4 v4 v11 σ fun σ =>
    og (lodA 4 v4 σ) fun r4 =>
    aret r4 σ R) (
    acall TP fn_spec_l12Depth [v2] σ (onr (fun v12 σ =>
    og (ibin .geq v12 (.val (.int .i64 4000))) fun v13 =>
    apick v13 (
      og (bld [(.val (.int .i64 0)), (.val (.int .i64 0)), (.val (.int .i64 0)), (.val (.slice none 0 0))] [(0, 1), (1, 1), (2, 2)] [(0, (.val (.int .i64 2)))]) fun v14 =>
      sto 4 v4 v14 σ fun σ =>
      og (lodA 4 v4 σ) fun r4 =>
      aret r4 σ R) (
      og (fldA 0 v2) fun v15 =>
      og (lod v15 σ) fun v16 =>
      acall TP fn_spec_l12List [v2] σ (onr (fun v17 σ =>
      (lod v15 σ = some v16 ∧ True) ∧
      acall TP fn_spec_l12Open [v16, v17] σ (onr (fun v18 σ =>
      (True) ∧
      new [(.val (.int .i64 0)), (.val (.slice none 0 0))] σ fun v6 σ =>
      (True) ∧
      sto 2 v6 v18 σ fun σ =>
      (True) ∧
      acall TP fn_spec_l12Push [v6, a1] σ (onr (fun v20 σ =>
      og (lodA 2 v6 σ) fun v21 =>
      og (bld [(.val (.int .i64 0)), (.val (.int .i64 0)), (.val (.int .i64 0)), (.val (.slice none 0 0))] [(0, 1), (1, 1), (2, 2)] [(2, v21)]) fun v22 =>
      sto 4 v4 v22 σ fun σ =>
      og (lodA 4 v4 σ) fun r4 =>
      aret r4 σ R) (fun v σ => apan v σ R))) (fun v σ => apan v σ R))) (fun v σ => apan v σ R)))) (fun v σ => apan v σ R)))) (fun v σ => apan v σ R))
def x17 : Sx := .box (.var 1) (.new [(.val (.int .i64 0)), (.val (.int .i64 0)), (.val (.int .i64 0)), (.val (.slice none 0 0))] (.call 20 [(.var 1)] (.og (.ibin .neq (.var 0) (.lit (.val (.int .i64 0)))) (.apick (.var 0) (.og (.bld [(.val (.int .i64 0)), (.val (.int .i64 0)), (.val (.int .i64 0)), (.val (.slice none 0 0))] [(0, 1), (1, 1), (2, 2)] [(0, (.var 1))]) (.sto 4 (.var 3) (.var 0) (.og (.lodA 4 (.var 3)) (.ret (.var 0))))) (.call 33 [(.var 3)] (.og (.ibin .geq (.var 0) (.lit (.val (.int .i64 4000)))) (.apick (.var 0) (.og (.bld [(.val (.int .i64 0)), (.val (.int .i64 0)), (.val (.int .i64 0)), (.val (.slice none 0 0))] [(0, 1), (1, 1), (2, 2)] [(0, (.lit (.val (.int .i64 2))))]) (.sto 4 (.var 5) (.var 0) (.og (.lodA 4 (.var 5)) (.ret (.var 0))))) (.ord [0, 1, 2, 3, 4, 5] [0, 1, 0, 7, 0, 31] (.og (.fldA 0 (.var 5)) (.og (.lod (.var 0)) (.call 22 [(.var 7)] (.wat [⟨none, (.lod (.var 2)), (.var 1)⟩] (.call 30 [(.var 1), (.var 0)] (.wat [] (.new [(.val (.int .i64 0)), (.val (.slice none 0 0))] (.wat [] (.sto 2 (.var 0) (.var 1) (.wat [] (.call 34 [(.var 0), (.var 11)] (.og (.lodA 2 (.var 1)) (.og (.bld [(.val (.int .i64 0)), (.val (.int .i64 0)), (.val (.int .i64 0)), (.val (.slice none 0 0))] [(0, 1), (1, 1), (2, 2)] [(2, (.var 0))]) (.sto 4 (.var 12) (.var 0) (.og (.lodA 4 (.var 12)) (.ret (.var 0)))))))))))))))))))))))))
set_option maxRecDepth 1000000 in
theorem x17_ok : okF TT Try.f17 2 x17 = true := by decide +kernel
set_option maxRecDepth 1000000 in
theorem s_spec_PushSegs_ok {a0 a1 : AV} {σ : AH} {R : AEnd → AH → Prop} (h : s_spec_PushSegs a0 a1 σ R) : acall TP fn_spec_PushSegs [a0, a1] σ R :=
  acall_okF (ρ := [a1, a0]) TT_ok Try.func17 rfl x17 x17_ok rfl h

/-- loop.example/g00349/impl.PushSegs -/
def s_impl_PushSegs (a0 a1 : AV) (σ : AH) (R : AEnd → AH → Prop) : Prop :=
  abox a0 σ fun v2 σ =>
  new [(.val (.int .i64 0)), (.val (.int .i64 0)), (.val (.int .i64 0)), (.val (.slice none 0 0))] σ fun v4 σ =>
  og (lodA 2 v2 σ) fun v6 =>
  acall TP fn_impl_SegsFault [v6] σ (onr (fun v7 σ =>
  og (ibin .neq v7 (.val (.int .i64 0))) fun v9 =>
  apick v9 (
    og (bld [(.val (.int .i64 0)), (.val (.int .i64 0)), (.val (.int .i64 0)), (.val (.slice none 0 0))] [(0, 1), (1, 1), (2, 2)] [(0, v7)]) fun v11 =>
    sto 4 v4 v11 σ fun σ =>
    og (lodA 4 v4 σ) fun r4 =>
    aret r4 σ R) (
    og (fldA 0 v2) fun v12 =>
    og (lod v12 σ) fun v13 =>
    og (lodA 2 v2 σ) fun v14 =>
    og (bslR 1 [(.val (.int .i64 0))] 1 [(0, a1)]) fun v17 =>
    acall TP fn_impl_Segs_items [v14] σ (onr (fun v15 σ =>
    (lod v12 σ = some v13 ∧ True) ∧
    app 1 v15 v17 σ fun v18 σ =>
    (lod v12 σ = some v13 ∧ True) ∧
    acall TP fn_impl_OpenSegs [v13, v18] σ (onr (fun v19 σ =>
    (True) ∧
    sto 4 v4 v19 σ fun σ =>
    (True) ∧
    og (lodA 4 v4 σ) fun r4 =>
    aret r4 σ R) (fun v σ => apan v σ R))) (fun v σ => apan v σ R)))) (fun v σ => apan v σ R))
def x18 : Sx := .box (.var 1) (.new [(.val (.int .i64 0)), (.val (.int .i64 0)), (.val (.int .i64 0)), (.val (.slice none 0 0))] (.og (.lodA 2 (.var 1)) (.call 24 [(.var 0)] (.og (.ibin .neq (.var 0) (.lit (.val (.int .i64 0)))) (.apick (.var 0) (.og (.bld [(.val (.int .i64 0)), (.val (.int .i64 0)), (.val (.int .i64 0)), (.val (.slice none 0 0))] [(0, 1), (1, 1), (2, 2)] [(0, (.var 1))]) (.sto 4 (.var 4) (.var 0) (.og (.lodA 4 (.var 4)) (.ret (.var 0))))) (.ord [0, 1, 2, 4, 5, 3, 6, 7, 8] [0, 1, 0, 4, 0, 16, 60, 127, 255] (.og (.fldA 0 (.var 4)) (.og (.lod (.var 0)) (.og (.lodA 2 (.var 6)) (.og (.bslR 1 [(.val (.int .i64 0))] 1 [(0, (.var 8))]) (.call 26 [(.var 1)] (.wat [⟨none, (.lod (.var 4)), (.var 3)⟩] (.app 1 (.var 0) (.var 1) (.wat [⟨none, (.lod (.var 5)), (.var 4)⟩] (.call 25 [(.var 4), (.var 0)] (.wat [] (.sto 4 (.var 10) (.var 0) (.wat [] (.og (.lodA 4 (.var 10)) (.ret (.var 0)))))))))))))))))))))
set_option maxRecDepth 1000000 in
theorem x18_ok : okF TT Try.f18 2 x18 = true := by decide +kernel
set_option maxRecDepth 1000000 in
theorem s_impl_PushSegs_ok {a0 a1 : AV} {σ : AH} {R : AEnd → AH → Prop} (h : s_impl_PushSegs a0 a1 σ R) : acall TP fn_impl_PushSegs [a0, a1] σ R :=
  acall_okF (ρ := [a1, a0]) TT_ok Try.func18 rfl x18 x18_ok rfl h

/-- loop.example/g00349/laws.szSegPartS -/
def s_laws_szSegPartS (a0 a1 : AV) (σ : AH) (R : AEnd → AH → Prop) : Prop :=
  og (lenS a0) fun v8 =>
  og (ibin .sub a1 v8) fun v9 =>
  og (ibin .lss v9 (.val (.int .i64 0))) fun v11 =>
  apick v11 (
    aret (.val (.int .i64 (-1))) σ R) (
    lp (X := Tup [0, 1, 5]) (fun R1 y1 σ =>
      og (lenS y1.1) fun v14 =>
      og (ibin .lss y1.2.2.1 v14) fun v15 =>
      apick v15 (
        og (idx 1 y1.1 y1.2.2.1 σ) fun v20 =>
        og (lodA 1 v20 σ) fun v21 =>
        acall TP fn_laws_szSegPart [v21, y1.2.1] σ (onr (fun v23 σ =>
        og (ibin .lss v23 (.val (.int .i64 0))) fun v25 =>
        apick v25 (
          aret (.val (.int .i64 (-1))) σ R) (
          og (ibin .add y1.2.2.1 (.val (.int .i64 1))) fun v17 =>
          R1 (y1.1, v23, v17, ()) σ)) (fun v σ => apan v σ R))) (
        aret y1.2.1 σ R)) (a0, v9, (.val (.int .i64 0)), ()) σ)
def x19 : Sx := .og (.lenS (.var 1)) (.og (.ibin .sub (.var 1) (.var 0)) (.og (.ibin .lss (.var 0) (.lit (.val (.int .i64 0)))) (.apick (.var 0) (.ret (.lit (.val (.int .i64 (-1))))) (.lp [0, 1, 5] (.og (.lenS (.var 0)) (.og (.ibin .lss (.var 3) (.var 0)) (.apick (.var 0) (.og (.idx 1 (.var 2) (.var 4)) (.og (.lodA 1 (.var 0)) (.call 35 [(.var 0), (.var 5)] (.og (.ibin .lss (.var 0) (.lit (.val (.int .i64 0)))) (.apick (.var 0) (.ret (.lit (.val (.int .i64 (-1))))) (.og (.ibin .add (.var 8) (.lit (.val (.int .i64 1)))) (.jump 0 [(.var 7), (.var 2), (.var 0)]))))))) (.ret (.var 3))))) [(.var 4), (.var 1), (.lit (.val (.int .i64 0)))]))))
set_option maxRecDepth 1000000 in
theorem x19_ok : okF TT Try.f19 2 x19 = true := by decide +kernel
set_option maxRecDepth 1000000 in
theorem s_laws_szSegPartS_ok {a0 a1 : AV} {σ : AH} {R : AEnd → AH → Prop} (h : s_laws_szSegPartS a0 a1 σ R) : acall TP fn_laws_szSegPartS [a0, a1] σ R :=
  acall_okF (ρ := [a1, a0]) TT_ok Try.func19 rfl x19 x19_ok rfl h

/-- loop.example/g00349/spec.l12Fault -/
def s_spec_l12Fault (a0 : AV) (σ : AH) (R : AEnd → AH → Prop) : Prop :=
  og (anil a0) fun v7 =>
  og (fldA 0 v7) fun v8 =>
  og (lod v8 σ) fun v9 =>
  acall TP fn_spec_l12Size [v9] σ (onr (fun v10 σ =>
  og (aun .not v10) fun v11 =>
  apick v11 (
    aret (.val (.int .i64 3)) σ R) (
    lp (X := Tup [0, 3, 4]) (fun R1 y1 σ =>
      og (anil y1.1) fun v14 =>
      og (fldA 1 v14) fun v15 =>
      og (lod v15 σ) fun v16 =>
      og (lenS v16) fun v17 =>
      og (ibin .lss y1.2.2.1 v17) fun v18 =>
      apick v18 (
        og (anil y1.1) fun v22 =>
        og (fldA 1 v22) fun v23 =>
        og (lod v23 σ) fun v24 =>
        og (idx 1 v24 y1.2.2.1 σ) fun v26 =>
        og (fldA 0 v26) fun v27 =>
        og (lod v27 σ) fun v28 =>
        og (lenS v28) fun v29 =>
        og (ibin .lss v29 (.val (.int .i64 1))) fun v31 =>
        og (gval v31 false false (some v29)) fun v33 =>
        og (gval v31 false false (some y1.1)) fun v34 =>
        og (gval v31 false false (anil v34)) fun v35 =>
        og (gval v31 false false (fldA 0 v35)) fun v36 =>
        og (gval v31 false false (lod v36 σ)) fun v37 =>
        og (gval v31 false false (ibin .gtr v33 v37)) fun v38 =>
        og (pickV v31 (.val (.bool true)) v38) fun v39 =>
        og (gval v39 false false (some y1.2.2.1)) fun v41 =>
        og (gval v39 false false (ibin .add v41 (.val (.int .i64 1)))) fun v42 =>
        og (gval v39 false false (some y1.1)) fun v43 =>
        og (gval v39 false false (anil v43)) fun v44 =>
        og (gval v39 false false (fldA 1 v44)) fun v45 =>
        og (gval v39 false false (lod v45 σ)) fun v46 =>
        og (gval v39 false false (lenS v46)) fun v47 =>
        og (gval v39 false false (ibin .lss v42 v47)) fun v48 =>
        og (gval v39 false false (some v48)) fun v49 =>
        og (gval v49 true true (some v29)) fun v50 =>
        og (gval v49 true true (some y1.1)) fun v51 =>
        og (gval v49 true true (anil v51)) fun v52 =>
        og (gval v49 true true (fldA 0 v52)) fun v53 =>
        og (gval v49 true true (lod v53 σ)) fun v54 =>
        og (gval v49 true true (ibin .neq v50 v54)) fun v55 =>
        og (gval v39 false false (pickV v49 v55 (.val (.bool false)))) fun v56 =>
        og (pickV v39 (.val (.bool true)) v56) fun v57 =>
        apick v57 (
          aret (.val (.int .i64 1)) σ R) (
          og (anil y1.1) fun v60 =>
          og (fldA 1 v60) fun v61 =>
          og (lod v61 σ) fun v62 =>
          og (idx 1 v62 y1.2.2.1 σ) fun v64 =>
          og (fldA 0 v64) fun v65 =>
          og (lod v65 σ) fun v66 =>
          og (lenS v66) fun v67 =>
          og (ibin .add y1.2.1 v67) fun v68 =>
          og (ibin .add y1.2.2.1 (.val (.int .i64 1))) fun v20 =>
          R1 (y1.1, v68, v20, ()) σ)) (
        og (ibin .gtr y1.2.1 (.val (.int .i64 4000))) fun v70 =>
        apick v70 (
          aret (.val (.int .i64 2)) σ R) (
          aret (.val (.int .i64 0)) σ R))) (a0, (.val (.int .i64 0)), (.val (.int .i64 0)), ()) σ)) (fun v σ => apan v σ R))
def x20 : Sx := .og (.anil (.var 0)) (.og (.fldA 0 (.var 0)) (.og (.lod (.var 0)) (.call 36 [(.var 0)] (.og (.aun .not (.var 0)) (.apick (.var 0) (.ret (.lit (.val (.int .i64 3)))) (.lp [0, 3, 4] (.og (.anil (.var 0)) (.og (.fldA 1 (.var 0)) (.og (.lod (.var 0)) (.og (.lenS (.var 0)) (.og (.ibin .lss (.var 6) (.var 0)) (.apick (.var 0) (.og (.anil (.var 5)) (.og (.fldA 1 (.var 0)) (.og (.lod (.var 0)) (.og (.idx 1 (.var 0) (.var 10)) (.og (.fldA 0 (.var 0)) (.og (.lod (.var 0)) (.og (.lenS (.var 0)) (.og (.ibin .lss (.var 0) (.lit (.val (.int .i64 1)))) (.gog (.var 0) false false (.ret (.var 1)) (.gog (.var 1) false false (.ret (.var 14)) (.gog (.var 2) false false (.anil (.var 0)) (.gog (.var 3) false false (.fldA 0 (.var 0)) (.gog (.var 4) false false (.lod (.var 0)) (.gog (.var 5) false false (.ibin .gtr (.var 4) (.var 0)) (.og (.pickV (.var 6) (.lit (.val (.bool true))) (.var 0)) (.gog (.var 0) false false (.ret (.var 22)) (.gog (.var 1) false false (.ibin .add (.var 0) (.lit (.val (.int .i64 1)))) (.gog (.var 2) false false (.ret (.var 22)) (.gog (.var 3) false false (.anil (.var 0)) (.gog (.var 4) false false (.fldA 1 (.var 0)) (.gog (.var 5) false false (.lod (.var 0)) (.gog (.var 6) false false (.lenS (.var 0)) (.gog (.var 7) false false (.ibin .lss (.var 5) (.var 0)) (.gog (.var 8) false false (.ret (.var 0)) (.gog (.var 0) true true (.ret (.var 17)) (.gog (.var 1) true true (.ret (.var 30)) (.gog (.var 2) true true (.anil (.var 0)) (.gog (.var 3) true true (.fldA 0 (.var 0)) (.gog (.var 4) true true (.lod (.var 0)) (.gog (.var 5) true true (.ibin .neq (.var 4) (.var 0)) (.gog (.var 15) false false (.pickV (.var 6) (.var 0) (.lit (.val (.bool false)))) (.og (.pickV (.var 16) (.lit (.val (.bool true))) (.var 0)) (.apick (.var 0) (.ret (.lit (.val (.int .i64 1)))) (.og (.anil (.var 37)) (.og (.fldA 1 (.var 0)) (.og (.lod (.var 0)) (.og (.idx 1 (.var 0) (.var 42)) (.og (.fldA 0 (.var 0)) (.og (.lod (.var 0)) (.og (.lenS (.var 0)) (.og (.ibin .add (.var 45) (.var 0)) (.og (.ibin .add (.var 47) (.lit (.val (.int .i64 1)))) (.jump 0 [(.var 46), (.var 1), (.var 0)]))))))))))))))))))))))))))))))))))))))))))) (.og (.ibin .gtr (.var 6) (.lit (.val (.int .i64 4000)))) (.apick (.var 0) (.ret (.lit (.val (.int .i64 2)))) (.ret (.lit (.val (.int .i64 0)))))))))))) [(.var 5), (.lit (.val (.int .i64 0))), (.lit (.val (.int .i64 0)))]))))))
set_option maxRecDepth 1000000 in
theorem x20_ok : okF TT Try.f20 1 x20 = true := by decide +kernel
set_option maxRecDepth 1000000 in
theorem s_spec_l12Fault_ok {a0 : AV} {σ : AH} {R : AEnd → AH → Prop} (h : s_spec_l12Fault a0 σ R) : acall TP fn_spec_l12Fault [a0] σ R :=
  acall_okF (ρ := [a0]) TT_ok Try.func20 rfl x20 x20_ok rfl h

/-- loop.example/g00349/spec.OpenSegs -/
def s_spec_OpenSegs (a0 a1 : AV) (σ : AH) (R : AEnd → AH → Prop) : Prop :=
  new [(.val (.int .i64 0)), (.val (.int .i64 0)), (.val (.int .i64 0)), (.val (.slice none 0 0))] σ fun v4 σ =>
  acall TP fn_spec_l12Size [a0] σ (onr (fun v6 σ =>
  og (aun .not v6) fun v7 =>
  apick v7 (
    og (bld [(.val (.int .i64 0)), (.val (.int .i64 0)), (.val (.int .i64 0)), (.val (.slice none 0 0))] [(0, 1), (1, 1), (2, 2)] [(0, (.val (.int .i64 3)))]) fun v8 =>
    sto 4 v4 v8 σ fun σ =>
    og (lodA 4 v4 σ) fun r4 =>
    aret r4 σ R) (
    og (lenS a1) fun v10 =>
    og (ibin .gtr v10 (.val (.int .i64 4000))) fun v11 =>
    apick v11 (
      og (bld [(.val (.int .i64 0)), (.val (.int .i64 0)), (.val (.int .i64 0)), (.val (.slice none 0 0))] [(0, 1), (1, 1), (2, 2)] [(0, (.val (.int .i64 2)))]) fun v12 =>
      sto 4 v4 v12 σ fun σ =>
      og (lodA 4 v4 σ) fun r4 =>
      aret r4 σ R) (
      acall TP fn_spec_l12Open [a0, a1] σ (onr (fun v15 σ =>
      og (bld [(.val (.int .i64 0)), (.val (.int .i64 0)), (.val (.int .i64 0)), (.val (.slice none 0 0))] [(0, 1), (1, 1), (2, 2)] [(2, v15)]) fun v16 =>
      sto 4 v4 v16 σ fun σ =>
      og (lodA 4 v4 σ) fun r4 =>
      aret r4 σ R) (fun v σ => apan v σ R))))) (fun v σ => apan v σ R))
def x21 : Sx := .new [(.val (.int .i64 0)), (.val (.int .i64 0)), (.val (.int .i64 0)), (.val (.slice none 0 0))] (.call 36 [(.var 2)] (.og (.aun .not (.var 0)) (.apick (.var 0) (.og (.bld [(.val (.int .i64 0)), (.val (.int .i64 0)), (.val (.int .i64 0)), (.val (.slice none 0 0))] [(0, 1), (1, 1), (2, 2)] [(0, (.lit (.val (.int .i64 3))))]) (.sto 4 (.var 3) (.var 0) (.og (.lodA 4 (.var 3)) (.ret (.var 0))))) (.og (.lenS (.var 3)) (.og (.ibin .gtr (.var 0) (.lit (.val (.int .i64 4000)))) (.apick (.var 0) (.og (.bld [(.val (.int .i64 0)), (.val (.int .i64 0)), (.val (.int .i64 0)), (.val (.slice none 0 0))] [(0, 1), (1, 1), (2, 2)] [(0, (.lit (.val (.int .i64 2))))]) (.sto 4 (.var 5) (.var 0) (.og (.lodA 4 (.var 5)) (.ret (.var 0))))) (.call 30 [(.var 6), (.var 5)] (.og (.bld [(.val (.int .i64 0)), (.val (.int .i64 0)), (.val (.int .i64 0)), (.val (.slice none 0 0))] [(0, 1), (1, 1), (2, 2)] [(2, (.var 0))]) (.sto 4 (.var 6) (.var 0) (.og (.lodA 4 (.var 6)) (.ret (.var 0))))))))))))
set_option maxRecDepth 1000000 in
theorem x21_ok : okF TT Try.f21 2 x21 = true := by decide +kernel
set_option maxRecDepth 1000000 in
theorem s_spec_OpenSegs_ok {a0 a1 : AV} {σ : AH} {R : AEnd → AH → Prop} (h : s_spec_OpenSegs a0 a1 σ R) : acall TP fn_spec_OpenSegs [a0, a1] σ R :=
  acall_okF (ρ := [a1, a0]) TT_ok Try.func21 rfl x21 x21_ok rfl h

/-- loop.example/g00349/spec.l12List -/
def s_spec_l12List (a0 : AV) (σ : AH) (R : AEnd → AH → Prop) : Prop :=
  bsl 1 [(.val (.int .i64 0))] 0 [] σ fun v5 σ =>
  lp (X := Tup [0, 3, 4]) (fun R1 y1 σ =>
    og (anil y1.1) fun v8 =>
    og (fldA 1 v8) fun v9 =>
    og (lod v9 σ) fun v10 =>
    og (lenS v10) fun v11 =>
    og (ibin .lss y1.2.2.1 v11) fun v12 =>
    apick v12 (
      og (anil y1.1) fun v17 =>
      og (fldA 1 v17) fun v18 =>
      og (lod v18 σ) fun v19 =>
      og (idx 1 v19 y1.2.2.1 σ) fun v21 =>
      og (fldA 0 v21) fun v22 =>
      og (lod v22 σ) fun v23 =>
      app 1 y1.2.1 v23 σ fun v24 σ =>
      og (ibin .add y1.2.2.1 (.val (.int .i64 1))) fun v14 =>
      R1 (y1.1, v24, v14, ()) σ) (
      aret y1.2.1 σ R)) (a0, v5, (.val (.int .i64 0)), ()) σ
def x22 : Sx := .bsl 1 [(.val (.int .i64 0))] 0 [] (.lp [0, 3, 4] (.og (.anil (.var 0)) (.og (.fldA 1 (.var 0)) (.og (.lod (.var 0)) (.og (.lenS (.var 0)) (.og (.ibin .lss (.var 6) (.var 0)) (.apick (.var 0) (.og (.anil (.var 5)) (.og (.fldA 1 (.var 0)) (.og (.lod (.var 0)) (.og (.idx 1 (.var 0) (.var 10)) (.og (.fldA 0 (.var 0)) (.og (.lod (.var 0)) (.app 1 (.var 12) (.var 0) (.og (.ibin .add (.var 14) (.lit (.val (.int .i64 1)))) (.jump 0 [(.var 13), (.var 1), (.var 0)]))))))))) (.ret (.var 6)))))))) [(.var 1), (.var 0), (.lit (.val (.int .i64 0)))])
set_option maxRecDepth 1000000 in
theorem x22_ok : okF TT Try.f22 1 x22 = true := by decide +kernel
set_option maxRecDepth 1000000 in
theorem s_spec_l12List_ok {a0 : AV} {σ : AH} {R : AEnd → AH → Prop} (h : s_spec_l12List a0 σ R) : acall TP fn_spec_l12List [a0] σ R :=
  acall_okF (ρ := [a0]) TT_ok Try.func22 rfl x22 x22_ok rfl h

/-- loop.example/g00349/laws.toSegPartS -/
def s_laws_toSegPartS (a0 : AV) (σ : AH) (R : AEnd → AH → Prop) : Prop :=
  og (lenS a0) fun v6 =>
  amake TT ty_LRLiE v6 v6 σ fun v7 σ =>
  lp (X := Tup [0, 3, 4]) (fun R1 y1 σ =>
    og (lenS y1.1) fun v10 =>
    og (ibin .lss y1.2.2.1 v10) fun v11 =>
    apick v11 (
      og (idx 1 y1.1 y1.2.2.1 σ) fun v18 =>
      og (lodA 1 v18 σ) fun v19 =>
      acall TP fn_laws_toSegPart [v19] σ (onr (fun v20 σ =>
      og (idx 1 y1.2.1 y1.2.2.1 σ) fun v21 =>
      sto 1 v21 v20 σ fun σ =>
      og (ibin .add y1.2.2.1 (.val (.int .i64 1))) fun v13 =>
      R1 (y1.1, y1.2.1, v13, ()) σ) (fun v σ => apan v σ R))) (
      aret y1.2.1 σ R)) (a0, v7, (.val (.int .i64 0)), ()) σ
def x23 : Sx := .og (.lenS (.var 0)) (.mks 26 (.var 0) (.var 0) (.lp [0, 3, 4] (.og (.lenS (.var 0)) (.og (.ibin .lss (.var 3) (.var 0)) (.apick (.var 0) (.og (.idx 1 (.var 2) (.var 4)) (.og (.lodA 1 (.var 0)) (.call 37 [(.var 0)] (.og (.idx 1 (.var 6) (.var 7)) (.sto 1 (.var 0) (.var 1) (.og (.ibin .add (.var 8) (.lit (.val (.int .i64 1)))) (.jump 0 [(.var 7), (.var 8), (.var 0)]))))))) (.ret (.var 3))))) [(.var 2), (.var 0), (.lit (.val (.int .i64 0)))]))
set_option maxRecDepth 1000000 in
theorem x23_ok : okF TT Try.f23 1 x23 = true := by decide +kernel
set_option maxRecDepth 1000000 in
theorem s_laws_toSegPartS_ok {a0 : AV} {σ : AH} {R : AEnd → AH → Prop} (h : s_laws_toSegPartS a0 σ R) : acall TP fn_laws_toSegPartS [a0] σ R :=
  acall_okF (ρ := [a0]) TT_ok Try.func23 rfl x23 x23_ok rfl h

/-- loop.example/g00349/impl.SegsFault -/
def s_impl_SegsFault (a0 : AV) (σ : AH) (R : AEnd → AH → Prop) : Prop :=
  abox a0 σ fun v1 σ =>
  og (fldA 0 v1) fun v8 =>
  og (lod v8 σ) fun v9 =>
  acall TP fn_impl_isSize [v9] σ (onr (fun v10 σ =>
  og (aun .not v10) fun v11 =>
  apick v11 (
    aret (.val (.int .i64 3)) σ R) (
    og (fldA 1 v1) fun v12 =>
    og (lod v12 σ) fun v13 =>
    og (lenS v13) fun v14 =>
    og (ibin .sub v14 (.val (.int .i64 1))) fun v15 =>
    og (fldA 1 v1) fun v16 =>
    og (lod v16 σ) fun v17 =>
    og (lenS v17) fun v18 =>
    lp (X := Tup [1, 3, 4, 17, 18, 19]) (fun R1 y1 σ =>
      og (ibin .lss y1.2.2.2.2.2.1 y1.2.2.2.2.1) fun v20 =>
      apick v20 (
        og (idx 1 y1.2.2.2.1 y1.2.2.2.2.2.1 σ) fun v22 =>
        og (lodA 1 v22 σ) fun v23 =>
        new [(.val (.slice none 0 0))] σ fun v6 σ =>
        sto 1 v6 v23 σ fun σ =>
        og (fldA 0 v6) fun v24 =>
        og (lod v24 σ) fun v25 =>
        og (lenS v25) fun v26 =>
        og (fldA 0 y1.1) fun v28 =>
        og (lod v28 σ) fun v29 =>
        acall TP fn_impl_in [v26, (.val (.int .i64 1)), v29] σ (onr (fun v30 σ =>
        og (aun .not v30) fun v31 =>
        og (gval v31 false false (some y1.2.2.2.2.2.1)) fun v33 =>
        og (gval v31 false false (some y1.2.2.1)) fun v34 =>
        og (gval v31 false false (ibin .lss v33 v34)) fun v35 =>
        og (gval v31 false false (some v35)) fun v36 =>
        og (gval v36 true true (some v26)) fun v37 =>
        og (gval v36 true true (fldA 0 y1.1)) fun v38 =>
        og (gval v36 true true (lod v38 σ)) fun v39 =>
        og (gval v36 true true (ibin .neq v37 v39)) fun v40 =>
        og (gval v31 false false (pickV v36 v40 (.val (.bool false)))) fun v41 =>
        og (pickV v31 (.val (.bool true)) v41) fun v42 =>
        apick v42 (
          aret (.val (.int .i64 1)) σ R) (
          og (fldA 0 v6) fun v44 =>
          og (lod v44 σ) fun v45 =>
          og (lenS v45) fun v46 =>
          og (ibin .add y1.2.1 v46) fun v47 =>
          og (ibin .add y1.2.2.2.2.2.1 (.val (.int .i64 1))) fun v48 =>
          R1 (y1.1, v47, y1.2.2.1, y1.2.2.2.1, y1.2.2.2.2.1, v48, ()) σ)) (fun v σ => apan v σ R))) (
        og (ibin .gtr y1.2.1 (.val (.int .i64 4000))) fun v50 =>
        apick v50 (
          aret (.val (.int .i64 2)) σ R) (
          aret (.val (.int .i64 0)) σ R))) (v1, (.val (.int .i64 0)), v15, v17, v18, (.val (.int .i64 0)), ()) σ)) (fun v σ => apan v σ R))
def x24 : Sx := .box (.var 0) (.og (.fldA 0 (.var 0)) (.og (.lod (.var 0)) (.call 38 [(.var 0)] (.og (.aun .not (.var 0)) (.apick (.var 0) (.ret (.lit (.val (.int .i64 3)))) (.ord [0, 1, 2, 3, 4, 5] [0, 1, 3, 7, 0, 31] (.og (.fldA 1 (.var 4)) (.og (.lod (.var 0)) (.og (.lenS (.var 0)) (.og (.ibin .sub (.var 0) (.lit (.val (.int .i64 1)))) (.og (.fldA 1 (.var 8)) (.og (.lod (.var 0)) (.og (.lenS (.var 0)) (.lp [1, 3, 4, 17, 18, 19] (.og (.ibin .lss (.var 5) (.var 4)) (.apick (.var 0) (.og (.idx 1 (.var 4) (.var 6)) (.og (.lodA 1 (.var 0)) (.new [(.val (.slice none 0 0))] (.sto 1 (.var 0) (.var 1) (.og (.fldA 0 (.var 0)) (.og (.lod (.var 0)) (.og (.lenS (.var 0)) (.og (.fldA 0 (.var 7)) (.og (.lod (.var 0)) (.call 39 [(.var 2), (.lit (.val (.int .i64 1))), (.var 0)] (.og (.aun .not (.var 0)) (.gog (.var 0) false false (.ret (.var 16)) (.gog (.var 1) false false (.ret (.var 14)) (.gog (.var 2) false false (.ibin .lss (.var 1) (.var 0)) (.gog (.var 3) false false (.ret (.var 0)) (.gog (.var 0) true true (.ret (.var 8)) (.gog (.var 1) true true (.fldA 0 (.var 16)) (.gog (.var 2) true true (.lod (.var 0)) (.gog (.var 3) true true (.ibin .neq (.var 2) (.var 0)) (.gog (.var 8) false false (.pickV (.var 4) (.var 0) (.lit (.val (.bool false)))) (.og (.pickV (.var 9) (.lit (.val (.bool true))) (.var 0)) (.apick (.var 0) (.ret (.lit (.val (.int .i64 1)))) (.og (.fldA 0 (.var 17)) (.og (.lod (.var 0)) (.og (.lenS (.var 0)) (.og (.ibin .add (.var 25) (.var 0)) (.og (.ibin .add (.var 30) (.lit (.val (.int .i64 1)))) (.jump 0 [(.var 26), (.var 1), (.var 28), (.var 29), (.var 30), (.var 0)])))))))))))))))))))))))))))) (.og (.ibin .gtr (.var 2) (.lit (.val (.int .i64 4000)))) (.apick (.var 0) (.ret (.lit (.val (.int .i64 2)))) (.ret (.lit (.val (.int .i64 0)))))))) [(.var 11), (.lit (.val (.int .i64 0))), (.var 3), (.var 1), (.var 0), (.lit (.val (.int .i64 0)))]))))))))))))))
set_option maxRecDepth 1000000 in
theorem x24_ok : okF TT Try.f24 1 x24 = true := by decide +kernel
set_option maxRecDepth 1000000 in
theorem s_impl_SegsFault_ok {a0 : AV} {σ : AH} {R : AEnd → AH → Prop} (h : s_impl_SegsFault a0 σ R) : acall TP fn_impl_SegsFault [a0] σ R :=
  acall_okF (ρ := [a0]) TT_ok Try.func24 rfl x24 x24_ok rfl h

/-- loop.example/g00349/impl.OpenSegs -/
def s_impl_OpenSegs (a0 a1 : AV) (σ : AH) (R : AEnd → AH → Prop) : Prop :=
  new [(.val (.int .i64 0)), (.val (.int .i64 0)), (.val (.int .i64 0)), (.val (.slice none 0 0))] σ fun v4 σ =>
  acall TP fn_impl_isSize [a0] σ (onr (fun v7 σ =>
  og (aun .not v7) fun v8 =>
  apick v8 (
    og (bld [(.val (.int .i64 0)), (.val (.int .i64 0)), (.val (.int .i64 0)), (.val (.slice none 0 0))] [(0, 1), (1, 1), (2, 2)] [(0, (.val (.int .i64 3)))]) fun v9 =>
    sto 4 v4 v9 σ fun σ =>
    og (lodA 4 v4 σ) fun r4 =>
    aret r4 σ R) (
    og (lenS a1) fun v12 =>
    og (ibin .gtr v12 (.val (.int .i64 4000))) fun v13 =>
    apick v13 (
      og (bld [(.val (.int .i64 0)), (.val (.int .i64 0)), (.val (.int .i64 0)), (.val (.slice none 0 0))] [(0, 1), (1, 1), (2, 2)] [(0, (.val (.int .i64 2)))]) fun v14 =>
      sto 4 v4 v14 σ fun σ =>
      og (lodA 4 v4 σ) fun r4 =>
      aret r4 σ R) (
      acall TP fn_impl_segsOf [a0, a1] σ (onr (fun v17 σ =>
      og (bld [(.val (.int .i64 0)), (.val (.int .i64 0)), (.val (.int .i64 0)), (.val (.slice none 0 0))] [(0, 1), (1, 1), (2, 2)] [(2, v17)]) fun v18 =>
      sto 4 v4 v18 σ fun σ =>
      og (lodA 4 v4 σ) fun r4 =>
      aret r4 σ R) (fun v σ => apan v σ R))))) (fun v σ => apan v σ R))
def x25 : Sx := .new [(.val (.int .i64 0)), (.val (.int .i64 0)), (.val (.int .i64 0)), (.val (.slice none 0 0))] (.call 38 [(.var 2)] (.og (.aun .not (.var 0)) (.apick (.var 0) (.og (.bld [(.val (.int .i64 0)), (.val (.int .i64 0)), (.val (.int .i64 0)), (.val (.slice none 0 0))] [(0, 1), (1, 1), (2, 2)] [(0, (.lit (.val (.int .i64 3))))]) (.sto 4 (.var 3) (.var 0) (.og (.lodA 4 (.var 3)) (.ret (.var 0))))) (.og (.lenS (.var 3)) (.og (.ibin .gtr (.var 0) (.lit (.val (.int .i64 4000)))) (.apick (.var 0) (.og (.bld [(.val (.int .i64 0)), (.val (.int .i64 0)), (.val (.int .i64 0)), (.val (.slice none 0 0))] [(0, 1), (1, 1), (2, 2)] [(0, (.lit (.val (.int .i64 2))))]) (.sto 4 (.var 5) (.var 0) (.og (.lodA 4 (.var 5)) (.ret (.var 0))))) (.call 32 [(.var 6), (.var 5)] (.og (.bld [(.val (.int .i64 0)), (.val (.int .i64 0)), (.val (.int .i64 0)), (.val (.slice none 0 0))] [(0, 1), (1, 1), (2, 2)] [(2, (.var 0))]) (.sto 4 (.var 6) (.var 0) (.og (.lodA 4 (.var 6)) (.ret (.var 0))))))))))))
set_option maxRecDepth 1000000 in
theorem x25_ok : okF TT Try.f25 2 x25 = true := by decide +kernel
set_option maxRecDepth 1000000 in
theorem s_impl_OpenSegs_ok {a0 a1 : AV} {σ : AH} {R : AEnd → AH → Prop} (h : s_impl_OpenSegs a0 a1 σ R) : acall TP fn_impl_OpenSegs [a0, a1] σ R :=
  acall_okF (ρ := [a1, a0]) TT_ok Try.func25 rfl x25 x25_ok rfl h

/-- (loop.example/g00349/impl.Segs).items -/
def s_impl_Segs_items (a0 : AV) (σ : AH) (R : AEnd → AH → Prop) : Prop :=
  abox a0 σ fun v1 σ =>
  bsl 1 [(.val (.int .i64 0))] 0 [] σ fun v6 σ =>
  og (fldA 1 v1) fun v7 =>
  og (lod v7 σ) fun v8 =>
  og (lenS v8) fun v9 =>
  lp (X := Tup [3, 8, 9, 10]) (fun R1 y1 σ =>
    og (ibin .lss y1.2.2.2.1 y1.2.2.1) fun v11 =>
    apick v11 (
      og (idx 1 y1.2.1 y1.2.2.2.1 σ) fun v12 =>
      og (lodA 1 v12 σ) fun v13 =>
      new [(.val (.slice none 0 0))] σ fun v5 σ =>
      sto 1 v5 v13 σ fun σ =>
      og (fldA 0 v5) fun v15 =>
      og (lod v15 σ) fun v16 =>
      app 1 y1.1 v16 σ fun v17 σ =>
      og (ibin .add y1.2.2.2.1 (.val (.int .i64 1))) fun v18 =>
      R1 (v17, y1.2.1, y1.2.2.1, v18, ()) σ) (
      aret y1.1 σ R)) (v6, v8, v9, (.val (.int .i64 0)), ()) σ
def x26 : Sx := .box (.var 0) (.bsl 1 [(.val (.int .i64 0))] 0 [] (.og (.fldA 1 (.var 1)) (.og (.lod (.var 0)) (.og (.lenS (.var 0)) (.lp [3, 8, 9, 10] (.og (.ibin .lss (.var 3) (.var 2)) (.apick (.var 0) (.og (.idx 1 (.var 2) (.var 4)) (.og (.lodA 1 (.var 0)) (.new [(.val (.slice none 0 0))] (.sto 1 (.var 0) (.var 1) (.og (.fldA 0 (.var 0)) (.og (.lod (.var 0)) (.app 1 (.var 6) (.var 0) (.og (.ibin .add (.var 10) (.lit (.val (.int .i64 1)))) (.jump 0 [(.var 1), (.var 9), (.var 10), (.var 0)]))))))))) (.ret (.var 1)))) [(.var 3), (.var 1), (.var 0), (.lit (.val (.int .i64 0)))])))))
set_option maxRecDepth 1000000 in
theorem x26_ok : okF TT Try.f26 1 x26 = true := by decide +kernel
set_option maxRecDepth 1000000 in
theorem s_impl_Segs_items_ok {a0 : AV} {σ : AH} {R : AEnd → AH → Prop} (h : s_impl_Segs_items a0 σ R) : acall TP fn_impl_Segs_items [a0] σ R :=
  acall_okF (ρ := [a0]) TT_ok Try.func26 rfl x26 x26_ok rfl h

/-- loop.example/g00349/laws.eqSegPartS -/
def s_laws_eqSegPartS (a0 a1 : AV) (σ : AH) (R : AEnd → AH → Prop) : Prop :=
  og (lenS a0) fun v7 =>
  og (lenS a1) fun v9 =>
  og (ibin .neq v7 v9) fun v10 =>
  apick v10 (
    aret (.val (.bool false)) σ R) (
    lp (X := Tup [0, 1, 5]) (fun R1 y1 σ =>
      og (lenS y1.1) fun v13 =>
      og (ibin .lss y1.2.2.1 v13) fun v14 =>
      apick v14 (
        og (idx 1 y1.1 y1.2.2.1 σ) fun v19 =>
        og (lodA 1 v19 σ) fun v20 =>
        og (idx 1 y1.2.1 y1.2.2.1 σ) fun v23 =>
        og (lodA 1 v23 σ) fun v24 =>
        acall TP fn_laws_eqSegPart [v20, v24] σ (onr (fun v25 σ =>
        (True) ∧
        og (aun .not v25) fun v26 =>
        apick v26 (
          aret (.val (.bool false)) σ R) (
          og (ibin .add y1.2.2.1 (.val (.int .i64 1))) fun v16 =>
          R1 (y1.1, y1.2.1, v16, ()) σ)) (fun v σ => apan v σ R))) (
        aret (.val (.bool true)) σ R)) (a0, a1, (.val (.int .i64 0)), ()) σ)
def x27 : Sx := .og (.lenS (.var 1)) (.og (.lenS (.var 1)) (.og (.ibin .neq (.var 1) (.var 0)) (.apick (.var 0) (.ret (.lit (.val (.bool false)))) (.lp [0, 1, 5] (.og (.lenS (.var 0)) (.og (.ibin .lss (.var 3) (.var 0)) (.apick (.var 0) (.ord [0, 1, 2, 3, 4, 5, 6, 7, 8, 9] [0, 0, 3, 7, 0, 0, 48, 112, 255, 511] (.og (.idx 1 (.var 2) (.var 4)) (.og (.lodA 1 (.var 0)) (.og (.idx 1 (.var 5) (.var 6)) (.og (.lodA 1 (.var 0)) (.call 40 [(.var 2), (.var 0)] (.wat [] (.og (.aun .not (.var 0)) (.apick (.var 0) (.ret (.lit (.val (.bool false)))) (.og (.ibin .add (.var 10) (.lit (.val (.int .i64 1)))) (.jump 0 [(.var 9), (.var 10), (.var 0)]))))))))))) (.ret (.lit (.val (.bool true))))))) [(.var 4), (.var 3), (.lit (.val (.int .i64 0)))]))))
set_option maxRecDepth 1000000 in
theorem x27_ok : okF TT Try.f27 2 x27 = true := by decide +kernel
set_option maxRecDepth 1000000 in
theorem s_laws_eqSegPartS_ok {a0 a1 : AV} {σ : AH} {R : AEnd → AH → Prop} (h : s_laws_eqSegPartS a0 a1 σ R) : acall TP fn_laws_eqSegPartS [a0, a1] σ R :=
  acall_okF (ρ := [a1, a0]) TT_ok Try.func27 rfl x27 x27_ok rfl h

/-- loop.example/g00349/laws.markSegPartS -/
def s_laws_markSegPartS (a0 a1 : AV) (σ : AH) (R : AEnd → AH → Prop) : Prop :=
  lp (X := Tup [0, 1, 5]) (fun R1 y1 σ =>
    og (lenS y1.1) fun v8 =>
    og (ibin .lss y1.2.2.1 v8) fun v9 =>
    apick v9 (
      og (idx 1 y1.1 y1.2.2.1 σ) fun v14 =>
      og (fldA 0 v14) fun v15 =>
      og (lod v15 σ) fun v16 =>
      acall TP fn_laws_markInt64S [v16, y1.2.1] σ (onr (fun v18 σ =>
      og (ibin .add y1.2.2.1 (.val (.int .i64 1))) fun v11 =>
      R1 (y1.1, v18, v11, ()) σ) (fun v σ => apan v σ R))) (
      aret y1.2.1 σ R)) (a0, a1, (.val (.int .i64 0)), ()) σ
def x28 : Sx := .lp [0, 1, 5] (.og (.lenS (.var 0)) (.og (.ibin .lss (.var 3) (.var 0)) (.apick (.var 0) (.og (.idx 1 (.var 2) (.var 4)) (.og (.fldA 0 (.var 0)) (.og (.lod (.var 0)) (.call 41 [(.var 0), (.var 6)] (.og (.ibin .add (.var 8) (.lit (.val (.int .i64 1)))) (.jump 0 [(.var 7), (.var 1), (.var 0)])))))) (.ret (.var 3))))) [(.var 1), (.var 0), (.lit (.val (.int .i64 0)))]
set_option maxRecDepth 1000000 in
theorem x28_ok : okF TT Try.f28 2 x28 = true := by decide +kernel
set_option maxRecDepth 1000000 in
theorem s_laws_markSegPartS_ok {a0 a1 : AV} {σ : AH} {R : AEnd → AH → Prop} (h : s_laws_markSegPartS a0 a1 σ R) : acall TP fn_laws_markSegPartS [a0, a1] σ R :=
  acall_okF (ρ := [a1, a0]) TT_ok Try.func28 rfl x28 x28_ok rfl h

/-- loop.example/g00349/laws.heldSegs -/
def s_laws_heldSegs (a0 a1 : AV) (σ : AH) (R : AEnd → AH → Prop) : Prop :=
  abox a0 σ fun v2 σ =>
  og (fldA 1 v2) fun v5 =>
  og (lod v5 σ) fun v6 =>
  acall TP fn_laws_heldSegPartS [v6, a1] σ (onr (fun v8 σ =>
  og (ibin .lss v8 (.val (.int .i64 0))) fun v10 =>
  apick v10 (
    aret (.val (.int .i64 (-1))) σ R) (
    aret v8 σ R)) (fun v σ => apan v σ R))
def x29 : Sx := .box (.var 1) (.og (.fldA 1 (.var 0)) (.og (.lod (.var 0)) (.call 42 [(.var 0), (.var 3)] (.og (.ibin .lss (.var 0) (.lit (.val (.int .i64 0)))) (.apick (.var 0) (.ret (.lit (.val (.int .i64 (-1))))) (.ret (.var 1)))))))
set_option maxRecDepth 1000000 in
theorem x29_ok : okF TT Try.f29 2 x29 = true := by decide +kernel
set_option maxRecDepth 1000000 in
theorem s_laws_heldSegs_ok {a0 a1 : AV} {σ : AH} {R : AEnd → AH → Prop} (h : s_laws_heldSegs a0 a1 σ R) : acall TP fn_laws_heldSegs [a0, a1] σ R :=
  acall_okF (ρ := [a1, a0]) TT_ok Try.func29 rfl x29 x29_ok rfl h

/-- loop.example/g00349/spec.l12Open -/
def s_spec_l12Open (a0 a1 : AV) (σ : AH) (R : AEnd → AH → Prop) : Prop :=
  new [(.val (.int .i64 0)), (.val (.slice none 0 0))] σ fun v4 σ =>
  og (bld [(.val (.int .i64 0)), (.val (.slice none 0 0))] [(0, 1), (1, 1)] [(0, a0)]) fun v8 =>
  new [(.val (.int .i64 0)), (.val (.slice none 0 0))] σ fun v5 σ =>
  sto 2 v5 v8 σ fun σ =>
  lp (X := Tup [1, 4, 5, 6]) (fun R1 y1 σ =>
    og (lenS y1.1) fun v11 =>
    og (ibin .lss y1.2.2.2.1 v11) fun v12 =>
    apick v12 (
      og (idx 1 y1.1 y1.2.2.2.1 σ) fun v17 =>
      og (lod v17 σ) fun v18 =>
      acall TP fn_spec_l12Push [y1.2.2.1, v18] σ (onr (fun v19 σ =>
      og (ibin .add y1.2.2.2.1 (.val (.int .i64 1))) fun v14 =>
      R1 (y1.1, y1.2.1, y1.2.2.1, v14, ()) σ) (fun v σ => apan v σ R))) (
      og (lodA 2 y1.2.2.1 σ) fun v20 =>
      sto 2 y1.2.1 v20 σ fun σ =>
      og (lodA 2 y1.2.1 σ) fun r4 =>
      aret r4 σ R)) (a1, v4, v5, (.val (.int .i64 0)), ()) σ
def x30 : Sx := .new [(.val (.int .i64 0)), (.val (.slice none 0 0))] (.og (.bld [(.val (.int .i64 0)), (.val (.slice none 0 0))] [(0, 1), (1, 1)] [(0, (.var 2))]) (.new [(.val (.int .i64 0)), (.val (.slice none 0 0))] (.sto 2 (.var 0) (.var 1) (.lp [1, 4, 5, 6] (.og (.lenS (.var 0)) (.og (.ibin .lss (.var 4) (.var 0)) (.apick (.var 0) (.og (.idx 1 (.var 2) (.var 5)) (.og (.lod (.var 0)) (.call 34 [(.var 6), (.var 0)] (.og (.ibin .add (.var 8) (.lit (.val (.int .i64 1)))) (.jump 0 [(.var 6), (.var 7), (.var 8), (.var 0)]))))) (.og (.lodA 2 (.var 4)) (.sto 2 (.var 4) (.var 0) (.og (.lodA 2 (.var 4)) (.ret (.var 0)))))))) [(.var 3), (.var 2), (.var 0), (.lit (.val (.int .i64 0)))]))))
set_option maxRecDepth 1000000 in
theorem x30_ok : okF TT Try.f30 2 x30 = true := by decide +kernel
set_option maxRecDepth 1000000 in
theorem s_spec_l12Open_ok {a0 a1 : AV} {σ : AH} {R : AEnd → AH → Prop} (h : s_spec_l12Open a0 a1 σ R) : acall TP fn_spec_l12Open [a0, a1] σ R :=
  acall_okF (ρ := [a1, a0]) TT_ok Try.func30 rfl x30 x30_ok rfl h

/-- loop.example/g00349/spec.l12Pop -/
def s_spec_l12Pop (a0 : AV) (σ : AH) (R : AEnd → AH → Prop) : Prop :=
  og (anil a0) fun v7 =>
  og (fldA 1 v7) fun v8 =>
  og (lod v8 σ) fun v9 =>
  og (lenS v9) fun v10 =>
  og (ibin .sub v10 (.val (.int .i64 1))) fun v11 =>
  og (anil a0) fun v13 =>
  og (fldA 1 v13) fun v14 =>
  og (lod v14 σ) fun v15 =>
  og (idx 1 v15 v11 σ) fun v17 =>
  og (fldA 0 v17) fun v18 =>
  og (lod v18 σ) fun v19 =>
  og (lenS v19) fun v21 =>
  og (ibin .sub v21 (.val (.int .i64 1))) fun v22 =>
  og (anil a0) fun v24 =>
  og (fldA 1 v24) fun v25 =>
  og (lod v25 σ) fun v26 =>
  og (slc 1 v19 none (some v22) none σ) fun v30 =>
  og (idx 1 v26 v11 σ) fun v31 =>
  og (fldA 0 v31) fun v32 =>
  sto 1 v32 v30 σ fun σ =>
  (True) ∧
  jn (X := Tup [4, 5]) (fun x1 σ =>
      og (idx 1 x1.1 x1.2.1 σ) fun v46 =>
      og (lod v46 σ) fun v47 =>
      aret v47 σ R) fun k1 =>
    og (ibin .eql v22 (.val (.int .i64 0))) fun v34 =>
    apick v34 (
      og (anil a0) fun v37 =>
      og (fldA 1 v37) fun v38 =>
      og (lod v38 σ) fun v39 =>
      og (slc 1 v39 none (some v11) none σ) fun v41 =>
      og (anil a0) fun v42 =>
      og (fldA 1 v42) fun v43 =>
      sto 1 v43 v41 σ fun σ =>
      k1 (v19, v22, ()) σ) (
      k1 (v19, v22, ()) σ)
def x31 : Sx := .og (.anil (.var 0)) (.og (.fldA 1 (.var 0)) (.og (.lod (.var 0)) (.og (.lenS (.var 0)) (.og (.ibin .sub (.var 0) (.lit (.val (.int .i64 1)))) (.og (.anil (.var 5)) (.og (.fldA 1 (.var 0)) (.og (.lod (.var 0)) (.og (.idx 1 (.var 0) (.var 3)) (.og (.fldA 0 (.var 0)) (.og (.lod (.var 0)) (.og (.lenS (.var 0)) (.og (.ibin .sub (.var 0) (.lit (.val (.int .i64 1)))) (.ord [0, 1, 2, 3, 4, 5, 6, 7, 8, 9, 10] [0, 1, 3, 7, 0, 0, 0, 96, 255, 511, 1023] (.og (.anil (.var 13)) (.og (.fldA 1 (.var 0)) (.og (.lod (.var 0)) (.og (.slc 1 (.var 5) none (some (.var 3)) none) (.og (.idx 1 (.var 1) (.var 12)) (.og (.fldA 0 (.var 0)) (.sto 1 (.var 0) (.var 2) (.wat [] (.jn 127 [4, 5] (.og (.idx 1 (.var 0) (.var 1)) (.og (.lod (.var 0)) (.ret (.var 0)))) (.og (.ibin .eql (.var 6) (.lit (.val (.int .i64 0)))) (.apick (.var 0) (.og (.anil (.var 20)) (.og (.fldA 1 (.var 0)) (.og (.lod (.var 0)) (.og (.slc 1 (.var 0) none (some (.var 18)) none) (.og (.anil (.var 24)) (.og (.fldA 1 (.var 0)) (.sto 1 (.var 0) (.var 2) (.jump 0 [(.var 15), (.var 13)])))))))) (.jump 0 [(.var 9), (.var 7)])))))))))))))))))))))))))
set_option maxRecDepth 1000000 in
theorem x31_ok : okF TT Try.f31 1 x31 = true := by decide +kernel
set_option maxRecDepth 1000000 in
theorem s_spec_l12Pop_ok {a0 : AV} {σ : AH} {R : AEnd → AH → Prop} (h : s_spec_l12Pop a0 σ R) : acall TP fn_spec_l12Pop [a0] σ R :=
  acall_okF (ρ := [a0]) TT_ok Try.func31 rfl x31 x31_ok rfl h

/-- loop.example/g00349/impl.segsOf -/
def s_impl_segsOf (a0 a1 : AV) (σ : AH) (R : AEnd → AH → Prop) : Prop :=
  new [(.val (.int .i64 0)), (.val (.slice none 0 0))] σ fun v4 σ =>
  og (bld [(.val (.int .i64 0)), (.val (.slice none 0 0))] [(0, 1), (1, 1)] [(0, a0)]) fun v8 =>
  new [(.val (.int .i64 0)), (.val (.slice none 0 0))] σ fun v5 σ =>
  sto 2 v5 v8 σ fun σ =>
  acall TP fn_slices_Chunk [a1, a0] σ (onr (fun v11 σ =>
  arange TP v11 (fun v12 σ N1 =>
      og (fldA 1 v5) fun v13 =>
      og (lod v13 σ) fun v14 =>
      acall TP fn_slices_Clone [v12] σ (onr (fun v16 σ =>
      (lod v13 σ = some v14 ∧ True) ∧
      og (bld [(.val (.slice none 0 0))] [(0, 1)] [(0, v16)]) fun v17 =>
      og (bslR 1 [(.val (.slice none 0 0))] 1 [(0, v17)]) fun v18 =>
      app 1 v14 v18 σ fun v19 σ =>
      (True) ∧
      og (fldA 1 v5) fun v20 =>
      sto 1 v20 v19 σ fun σ =>
      (True) ∧
      N1 σ) (fun v σ => apan v σ (fun _ _ => False)))) σ (fun σ =>
    og (lodA 2 v5 σ) fun v21 =>
    sto 2 v4 v21 σ fun σ =>
    og (lodA 2 v4 σ) fun r4 =>
    aret r4 σ R) (fun v σ => apan v σ R)) (fun v σ => apan v σ R))
def x32 : Sx := .new [(.val (.int .i64 0)), (.val (.slice none 0 0))] (.og (.bld [(.val (.int .i64 0)), (.val (.slice none 0 0))] [(0, 1), (1, 1)] [(0, (.var 2))]) (.new [(.val (.int .i64 0)), (.val (.slice none 0 0))] (.sto 2 (.var 0) (.var 1) (.call 43 [(.var 3), (.var 4)] (.rng (.var 0) (.ord [0, 1, 2, 3, 4, 5, 6, 7, 8] [0, 1, 0, 4, 12, 28, 63, 127, 255] (.og (.fldA 1 (.var 2)) (.og (.lod (.var 0)) (.call 44 [(.var 2)] (.wat [⟨none, (.lod (.var 2)), (.var 1)⟩] (.og (.bld [(.val (.slice none 0 0))] [(0, 1)] [(0, (.var 0))]) (.og (.bslR 1 [(.val (.slice none 0 0))] 1 [(0, (.var 0))]) (.app 1 (.var 3) (.var 0) (.wat [] (.og (.fldA 1 (.var 8)) (.sto 1 (.var 0) (.var 1) (.wat [] (.jump 0 []))))))))))))) (.og (.lodA 2 (.var 1)) (.sto 2 (.var 4) (.var 0) (.og (.lodA 2 (.var 4)) (.ret (.var 0))))))))))
set_option maxRecDepth 1000000 in
theorem x32_ok : okF TT Try.f32 2 x32 = true := by decide +kernel
set_option maxRecDepth 1000000 in
theorem s_impl_segsOf_ok {a0 a1 : AV} {σ : AH} {R : AEnd → AH → Prop} (h : s_impl_segsOf a0 a1 σ R) : acall TP fn_impl_segsOf [a0, a1] σ R :=
  acall_okF (ρ := [a1, a0]) TT_ok Try.func32 rfl x32 x32_ok rfl h

/-- loop.example/g00349/spec.l12Depth -/
def s_spec_l12Depth (a0 : AV) (σ : AH) (R : AEnd → AH → Prop) : Prop :=
  og (anil a0) fun v5 =>
  og (fldA 1 v5) fun v6 =>
  og (lod v6 σ) fun v7 =>
  og (lenS v7) fun v8 =>
  og (ibin .eql v8 (.val (.int .i64 0))) fun v10 =>
  apick v10 (
    aret (.val (.int .i64 0)) σ R) (
    og (ibin .sub v8 (.val (.int .i64 1))) fun v12 =>
    og (anil a0) fun v14 =>
    og (fldA 0 v14) fun v15 =>
    og (lod v15 σ) fun v16 =>
    og (ibin .mul v12 v16) fun v17 =>
    og (anil a0) fun v19 =>
    og (fldA 1 v19) fun v20 =>
    og (lod v20 σ) fun v21 =>
    og (ibin .sub v8 (.val (.int .i64 1))) fun v23 =>
    og (idx 1 v21 v23 σ) fun v24 =>
    og (fldA 0 v24) fun v25 =>
    og (lod v25 σ) fun v26 =>
    og (lenS v26) fun v27 =>
    og (ibin .add v17 v27) fun v28 =>
    aret v28 σ R)
def x33 : Sx := .og (.anil (.var 0)) (.og (.fldA 1 (.var 0)) (.og (.lod (.var 0)) (.og (.lenS (.var 0)) (.og (.ibin .eql (.var 0) (.lit (.val (.int .i64 0)))) (.apick (.var 0) (.ret (.lit (.val (.int .i64 0)))) (.ord [0, 1, 2, 3, 4, 5, 6, 7, 8, 9, 10, 11, 12, 13, 14, 15, 16, 17, 18] [0, 1, 0, 4, 12, 28, 63, 0, 128, 384, 896, 0, 2048, 8064, 16256, 32640, 65408, 131071, 262143] (.og (.ibin .sub (.var 1) (.lit (.val (.int .i64 1)))) (.og (.anil (.var 6)) (.og (.fldA 0 (.var 0)) (.og (.lod (.var 0)) (.og (.ibin .mul (.var 3) (.var 0)) (.og (.anil (.var 10)) (.og (.fldA 1 (.var 0)) (.og (.lod (.var 0)) (.og (.ibin .sub (.var 9) (.lit (.val (.int .i64 1)))) (.og (.idx 1 (.var 1) (.var 0)) (.og (.fldA 0 (.var 0)) (.og (.lod (.var 0)) (.og (.lenS (.var 0)) (.og (.ibin .add (.var 8) (.var 0)) (.ret (.var 0))))))))))))))))))))))
set_option maxRecDepth 1000000 in
theorem x33_ok : okF TT Try.f33 1 x33 = true := by decide +kernel
set_option maxRecDepth 1000000 in
theorem s_spec_l12Depth_ok {a0 : AV} {σ : AH} {R : AEnd → AH → Prop} (h : s_spec_l12Depth a0 σ R) : acall TP fn_spec_l12Depth [a0] σ R :=
  acall_okF (ρ := [a0]) TT_ok Try.func33 rfl x33 x33_ok rfl h

/-- loop.example/g00349/spec.l12Push -/
def s_spec_l12Push (a0 a1 : AV) (σ : AH) (R : AEnd → AH → Prop) : Prop :=
  og (anil a0) fun v6 =>
  og (fldA 1 v6) fun v7 =>
  og (lod v7 σ) fun v8 =>
  og (lenS v8) fun v9 =>
  jn (X := Tup [0, 1, 4]) (fun x1 σ =>
      og (anil x1.1) fun v42 =>
      og (fldA 1 v42) fun v43 =>
      og (lod v43 σ) fun v44 =>
      og (ibin .sub x1.2.2.1 (.val (.int .i64 1))) fun v46 =>
      og (anil x1.1) fun v48 =>
      og (fldA 1 v48) fun v49 =>
      og (lod v49 σ) fun v50 =>
      og (ibin .sub x1.2.2.1 (.val (.int .i64 1))) fun v52 =>
      og (idx 1 v50 v52 σ) fun v53 =>
      og (fldA 0 v53) fun v54 =>
      og (lod v54 σ) fun v55 =>
      og (bslR 1 [(.val (.int .i64 0))] 1 [(0, x1.2.1)]) fun v57 =>
      app 1 v55 v57 σ fun v58 σ =>
      (lod v43 σ = some v44 ∧ True) ∧
      og (idx 1 v44 v46 σ) fun v59 =>
      og (fldA 0 v59) fun v60 =>
      sto 1 v60 v58 σ fun σ =>
      (True) ∧
      aret (.tup []) σ R) fun k1 =>
    og (ibin .eql v9 (.val (.int .i64 0))) fun v11 =>
    og (gval v11 false false (some a0)) fun v13 =>
    og (gval v11 false false (anil v13)) fun v14 =>
    og (gval v11 false false (fldA 1 v14)) fun v15 =>
    og (gval v11 false false (lod v15 σ)) fun v16 =>
    og (gval v11 false false (some v9)) fun v17 =>
    og (gval v11 false false (ibin .sub v17 (.val (.int .i64 1)))) fun v18 =>
    og (gval v11 false false (idx 1 v16 v18 σ)) fun v19 =>
    og (gval v11 false false (fldA 0 v19)) fun v20 =>
    og (gval v11 false false (lod v20 σ)) fun v21 =>
    og (gval v11 false false (lenS v21)) fun v22 =>
    og (gval v11 false false (some a0)) fun v23 =>
    og (gval v11 false false (anil v23)) fun v24 =>
    og (gval v11 false false (fldA 0 v24)) fun v25 =>
    og (gval v11 false false (lod v25 σ)) fun v26 =>
    og (gval v11 false false (ibin .eql v22 v26)) fun v27 =>
    og (pickV v11 (.val (.bool true)) v27) fun v28 =>
    apick v28 (
      og (anil a0) fun v31 =>
      og (fldA 1 v31) fun v32 =>
      og (lod v32 σ) fun v33 =>
      og (bld [(.val (.slice none 0 0))] [(0, 1)] []) fun v34 =>
      bsl 1 [(.val (.slice none 0 0))] 1 [(0, v34)] σ fun v35 σ =>
      app 1 v33 v35 σ fun v36 σ =>
      og (anil a0) fun v37 =>
      og (fldA 1 v37) fun v38 =>
      sto 1 v38 v36 σ fun σ =>
      og (ibin .add v9 (.val (.int .i64 1))) fun v40 =>
      k1 (a0, a1, v40, ()) σ) (
      k1 (a0, a1, v9, ()) σ)
def x34 : Sx := .og (.anil (.var 1)) (.og (.fldA 1 (.var 0)) (.og (.lod (.var 0)) (.og (.lenS (.var 0)) (.jn 7 [0, 1, 4] (.ord [0, 1, 2, 3, 4, 5, 6, 7, 8, 9, 10, 11, 12, 13, 14, 15, 16, 17, 18, 19, 20] [0, 1, 3, 7, 0, 16, 0, 64, 192, 448, 0, 1024, 4032, 8128, 16320, 0, 32768, 131008, 262143, 524287, 1048575] (.og (.anil (.var 0)) (.og (.fldA 1 (.var 0)) (.og (.lod (.var 0)) (.og (.ibin .sub (.var 5) (.lit (.val (.int .i64 1)))) (.og (.anil (.var 4)) (.og (.fldA 1 (.var 0)) (.og (.lod (.var 0)) (.og (.ibin .sub (.var 9) (.lit (.val (.int .i64 1)))) (.og (.idx 1 (.var 1) (.var 0)) (.og (.fldA 0 (.var 0)) (.og (.lod (.var 0)) (.og (.bslR 1 [(.val (.int .i64 0))] 1 [(0, (.var 12))]) (.app 1 (.var 1) (.var 0) (.wat [⟨none, (.lod (.var 11)), (.var 10)⟩] (.og (.idx 1 (.var 10) (.var 9)) (.og (.fldA 0 (.var 0)) (.sto 1 (.var 0) (.var 2) (.wat [] (.rets [])))))))))))))))))))) (.ord [0, 1, 2, 3, 4, 5, 6, 7, 8, 9, 10, 11, 12, 13, 14, 15, 16, 17, 18] [0, 1, 3, 7, 15, 31, 63, 7, 135, 511, 1023, 2047, 4095, 7, 8199, 24583, 57351, 131071, 262143] (.og (.ibin .eql (.var 0) (.lit (.val (.int .i64 0)))) (.gog (.var 0) false false (.ret (.var 6)) (.gog (.var 1) false false (.anil (.var 0)) (.gog (.var 2) false false (.fldA 1 (.var 0)) (.gog (.var 3) false false (.lod (.var 0)) (.gog (.var 4) false false (.ret (.var 5)) (.gog (.var 5) false false (.ibin .sub (.var 0) (.lit (.val (.int .i64 1)))) (.gog (.var 6) false false (.idx 1 (.var 2) (.var 0)) (.gog (.var 7) false false (.fldA 0 (.var 0)) (.gog (.var 8) false false (.lod (.var 0)) (.gog (.var 9) false false (.lenS (.var 0)) (.gog (.var 10) false false (.ret (.var 16)) (.gog (.var 11) false false (.anil (.var 0)) (.gog (.var 12) false false (.fldA 0 (.var 0)) (.gog (.var 13) false false (.lod (.var 0)) (.gog (.var 14) false false (.ibin .eql (.var 4) (.var 0)) (.og (.pickV (.var 15) (.lit (.val (.bool true))) (.var 0)) (.apick (.var 0) (.og (.anil (.var 22)) (.og (.fldA 1 (.var 0)) (.og (.lod (.var 0)) (.og (.bld [(.val (.slice none 0 0))] [(0, 1)] []) (.bsl 1 [(.val (.slice none 0 0))] 1 [(0, (.var 0))] (.app 1 (.var 2) (.var 0) (.og (.anil (.var 28)) (.og (.fldA 1 (.var 0)) (.sto 1 (.var 0) (.var 2) (.og (.ibin .add (.var 25) (.lit (.val (.int .i64 1)))) (.jump 0 [(.var 31), (.var 30), (.var 0)]))))))))))) (.jump 0 [(.var 22), (.var 21), (.var 17)]))))))))))))))))))))))))
set_option maxRecDepth 1000000 in
theorem x34_ok : okF TT Try.f34 2 x34 = true := by decide +kernel
set_option maxRecDepth 1000000 in
theorem s_spec_l12Push_ok {a0 a1 : AV} {σ : AH} {R : AEnd → AH → Prop} (h : s_spec_l12Push a0 a1 σ R) : acall TP fn_spec_l12Push [a0, a1] σ R :=
  acall_okF (ρ := [a1, a0]) TT_ok Try.func34 rfl x34 x34_ok rfl h

/-- loop.example/g00349/laws.szSegPart -/
def s_laws_szSegPart (a0 a1 : AV) (σ : AH) (R : AEnd → AH → Prop) : Prop :=
  abox a0 σ fun v2 σ =>
  og (fldA 0 v2) fun v5 =>
  og (lod v5 σ) fun v6 =>
  acall TP fn_laws_szInt64S [v6, a1] σ (onr (fun v8 σ =>
  og (ibin .lss v8 (.val (.int .i64 0))) fun v10 =>
  apick v10 (
    aret (.val (.int .i64 (-1))) σ R) (
    aret v8 σ R)) (fun v σ => apan v σ R))
def x35 : Sx := .box (.var 1) (.og (.fldA 0 (.var 0)) (.og (.lod (.var 0)) (.call 45 [(.var 0), (.var 3)] (.og (.ibin .lss (.var 0) (.lit (.val (.int .i64 0)))) (.apick (.var 0) (.ret (.lit (.val (.int .i64 (-1))))) (.ret (.var 1)))))))
set_option maxRecDepth 1000000 in
theorem x35_ok : okF TT Try.f35 2 x35 = true := by decide +kernel
set_option maxRecDepth 1000000 in
theorem s_laws_szSegPart_ok {a0 a1 : AV} {σ : AH} {R : AEnd → AH → Prop} (h : s_laws_szSegPart a0 a1 σ R) : acall TP fn_laws_szSegPart [a0, a1] σ R :=
  acall_okF (ρ := [a1, a0]) TT_ok Try.func35 rfl x35 x35_ok rfl h

/-- loop.example/g00349/spec.l12Size -/
def s_spec_l12Size (a0 : AV) (σ : AH) (R : AEnd → AH → Prop) : Prop :=
  acall TP fn_spec_l1In [a0, (.val (.int .i64 1)), (.val (.int .i64 64))] σ (onr (fun v4 σ =>
  aret v4 σ R) (fun v σ => apan v σ R))
def x36 : Sx := .call 46 [(.var 0), (.lit (.val (.int .i64 1))), (.lit (.val (.int .i64 64)))] (.ret (.var 0))
set_option maxRecDepth 1000000 in
theorem x36_ok : okF TT Try.f36 1 x36 = true := by decide +kernel
set_option maxRecDepth 1000000 in
theorem s_spec_l12Size_ok {a0 : AV} {σ : AH} {R : AEnd → AH → Prop} (h : s_spec_l12Size a0 σ R) : acall TP fn_spec_l12Size [a0] σ R :=
  acall_okF (ρ := [a0]) TT_ok Try.func36 rfl x36 x36_ok rfl h

/-- loop.example/g00349/laws.toSegPart -/
def s_laws_toSegPart (a0 : AV) (σ : AH) (R : AEnd → AH → Prop) : Prop :=
  abox a0 σ fun v1 σ =>
  new [(.val (.slice none 0 0))] σ fun v2 σ =>
  new [(.val (.slice none 0 0))] σ fun v3 σ =>
  og (fldA 0 v1) fun v4 =>
  og (lod v4 σ) fun v5 =>
  acall TP fn_laws_toInt64S [v5] σ (onr (fun v6 σ =>
  og (fldA 0 v3) fun v7 =>
  sto 1 v7 v6 σ fun σ =>
  og (lodA 1 v3 σ) fun v8 =>
  sto 1 v2 v8 σ fun σ =>
  og (lodA 1 v2 σ) fun r2 =>
  aret r2 σ R) (fun v σ => apan v σ R))
def x37 : Sx := .box (.var 0) (.new [(.val (.slice none 0 0))] (.new [(.val (.slice none 0 0))] (.og (.fldA 0 (.var 2)) (.og (.lod (.var 0)) (.call 47 [(.var 0)] (.og (.fldA 0 (.var 3)) (.sto 1 (.var 0) (.var 1) (.og (.lodA 1 (.var 4)) (.sto 1 (.var 6) (.var 0) (.og (.lodA 1 (.var 6)) (.ret (.var 0))))))))))))
set_option maxRecDepth 1000000 in
theorem x37_ok : okF TT Try.f37 1 x37 = true := by decide +kernel
set_option maxRecDepth 1000000 in
theorem s_laws_toSegPart_ok {a0 : AV} {σ : AH} {R : AEnd → AH → Prop} (h : s_laws_toSegPart a0 σ R) : acall TP fn_laws_toSegPart [a0] σ R :=
  acall_okF (ρ := [a0]) TT_ok Try.func37 rfl x37 x37_ok rfl h

/-- loop.example/g00349/impl.isSize -/
def s_impl_isSize (a0 : AV) (σ : AH) (R : AEnd → AH → Prop) : Prop :=
  acall TP fn_impl_in [a0, (.val (.int .i64 1)), (.val (.int .i64 64))] σ (onr (fun v4 σ =>
  aret v4 σ R) (fun v σ => apan v σ R))
def x38 : Sx := .call 39 [(.var 0), (.lit (.val (.int .i64 1))), (.lit (.val (.int .i64 64)))] (.ret (.var 0))
set_option maxRecDepth 1000000 in
theorem x38_ok : okF TT Try.f38 1 x38 = true := by decide +kernel
set_option maxRecDepth 1000000 in
theorem s_impl_isSize_ok {a0 : AV} {σ : AH} {R : AEnd → AH → Prop} (h : s_impl_isSize a0 σ R) : acall TP fn_impl_isSize [a0] σ R :=
  acall_okF (ρ := [a0]) TT_ok Try.func38 rfl x38 x38_ok rfl h

/-- loop.example/g00349/impl.in -/
def s_impl_in (a0 a1 a2 : AV) (σ : AH) (R : AEnd → AH → Prop) : Prop :=
  og (ibin .leq a1 a0) fun v9 =>
  og (gval v9 true false (some a0)) fun v11 =>
  og (gval v9 true false (some a2)) fun v12 =>
  og (gval v9 true false (ibin .leq v11 v12)) fun v13 =>
  og (pickV v9 v13 (.val (.bool false))) fun v14 =>
  aret v14 σ R
def x39 : Sx := .og (.ibin .leq (.var 1) (.var 2)) (.gog (.var 0) true false (.ret (.var 3)) (.gog (.var 1) true false (.ret (.var 2)) (.gog (.var 2) true false (.ibin .leq (.var 1) (.var 0)) (.og (.pickV (.var 3) (.var 0) (.lit (.val (.bool false)))) (.ret (.var 0))))))
set_option maxRecDepth 1000000 in
theorem x39_ok : okF TT Try.f39 3 x39 = true := by decide +kernel
set_option maxRecDepth 1000000 in
theorem s_impl_in_ok {a0 a1 a2 : AV} {σ : AH} {R : AEnd → AH → Prop} (h : s_impl_in a0 a1 a2 σ R) : acall TP fn_impl_in [a0, a1, a2] σ R :=
  acall_okF (ρ := [a2, a1, a0]) TT_ok Try.func39 rfl x39 x39_ok rfl h

/-- loop.example/g00349/laws.eqSegPart -/
def s_laws_eqSegPart (a0 a1 : AV) (σ : AH) (R : AEnd → AH → Prop) : Prop :=
  abox a0 σ fun v2 σ =>
  abox a1 σ fun v3 σ =>
  og (fldA 0 v2) fun v5 =>
  og (lod v5 σ) fun v6 =>
  og (fldA 0 v3) fun v7 =>
  og (lod v7 σ) fun v8 =>
  acall TP fn_laws_eqInt64S [v6, v8] σ (onr (fun v9 σ =>
  og (aun .not v9) fun v10 =>
  apick v10 (
    aret (.val (.bool false)) σ R) (
    aret (.val (.bool true)) σ R)) (fun v σ => apan v σ R))
def x40 : Sx := .box (.var 1) (.box (.var 1) (.og (.fldA 0 (.var 1)) (.og (.lod (.var 0)) (.og (.fldA 0 (.var 2)) (.og (.lod (.var 0)) (.call 48 [(.var 2), (.var 0)] (.og (.aun .not (.var 0)) (.apick (.var 0) (.ret (.lit (.val (.bool false)))) (.ret (.lit (.val (.bool true))))))))))))
set_option maxRecDepth 1000000 in
theorem x40_ok : okF TT Try.f40 2 x40 = true := by decide +kernel
set_option maxRecDepth 1000000 in
theorem s_laws_eqSegPart_ok {a0 a1 : AV} {σ : AH} {R : AEnd → AH → Prop} (h : s_laws_eqSegPart a0 a1 σ R) : acall TP fn_laws_eqSegPart [a0, a1] σ R :=
  acall_okF (ρ := [a1, a0]) TT_ok Try.func40 rfl x40 x40_ok rfl h

/-- loop.example/g00349/laws.markInt64S -/
def s_laws_markInt64S (a0 a1 : AV) (σ : AH) (R : AEnd → AH → Prop) : Prop :=
  lp (X := Tup [0, 1, 5]) (fun R1 y1 σ =>
    og (lenS y1.1) fun v8 =>
    og (ibin .lss y1.2.2.1 v8) fun v9 =>
    apick v9 (
      og (idx 1 y1.1 y1.2.2.1 σ) fun v15 =>
      sto 1 v15 y1.2.1 σ fun σ =>
      og (ibin .add y1.2.1 (.val (.int .i64 1))) fun v17 =>
      og (ibin .add y1.2.2.1 (.val (.int .i64 1))) fun v11 =>
      R1 (y1.1, v17, v11, ()) σ) (
      aret y1.2.1 σ R)) (a0, a1, (.val (.int .i64 0)), ()) σ
def x41 : Sx := .lp [0, 1, 5] (.og (.lenS (.var 0)) (.og (.ibin .lss (.var 3) (.var 0)) (.apick (.var 0) (.og (.idx 1 (.var 2) (.var 4)) (.sto 1 (.var 0) (.var 4) (.og (.ibin .add (.var 4) (.lit (.val (.int .i64 1)))) (.og (.ibin .add (.var 6) (.lit (.val (.int .i64 1)))) (.jump 0 [(.var 5), (.var 1), (.var 0)]))))) (.ret (.var 3))))) [(.var 1), (.var 0), (.lit (.val (.int .i64 0)))]
set_option maxRecDepth 1000000 in
theorem x41_ok : okF TT Try.f41 2 x41 = true := by decide +kernel
set_option maxRecDepth 1000000 in
theorem s_laws_markInt64S_ok {a0 a1 : AV} {σ : AH} {R : AEnd → AH → Prop} (h : s_laws_markInt64S a0 a1 σ R) : acall TP fn_laws_markInt64S [a0, a1] σ R :=
  acall_okF (ρ := [a1, a0]) TT_ok Try.func41 rfl x41 x41_ok rfl h

/-- loop.example/g00349/laws.heldSegPartS -/
def s_laws_heldSegPartS (a0 a1 : AV) (σ : AH) (R : AEnd → AH → Prop) : Prop :=
  lp (X := Tup [0, 1, 5]) (fun R1 y1 σ =>
    og (lenS y1.1) fun v8 =>
    og (ibin .lss y1.2.2.1 v8) fun v9 =>
    apick v9 (
      og (idx 1 y1.1 y1.2.2.1 σ) fun v14 =>
      og (fldA 0 v14) fun v15 =>
      og (lod v15 σ) fun v16 =>
      acall TP fn_laws_heldInt64S [v16, y1.2.1] σ (onr (fun v18 σ =>
      og (ibin .lss v18 (.val (.int .i64 0))) fun v20 =>
      apick v20 (
        aret (.val (.int .i64 (-1))) σ R) (
        og (ibin .add y1.2.2.1 (.val (.int .i64 1))) fun v11 =>
        R1 (y1.1, v18, v11, ()) σ)) (fun v σ => apan v σ R))) (
      aret y1.2.1 σ R)) (a0, a1, (.val (.int .i64 0)), ()) σ
def x42 : Sx := .lp [0, 1, 5] (.og (.lenS (.var 0)) (.og (.ibin .lss (.var 3) (.var 0)) (.apick (.var 0) (.og (.idx 1 (.var 2) (.var 4)) (.og (.fldA 0 (.var 0)) (.og (.lod (.var 0)) (.call 49 [(.var 0), (.var 6)] (.og (.ibin .lss (.var 0) (.lit (.val (.int .i64 0)))) (.apick (.var 0) (.ret (.lit (.val (.int .i64 (-1))))) (.og (.ibin .add (.var 9) (.lit (.val (.int .i64 1)))) (.jump 0 [(.var 8), (.var 2), (.var 0)])))))))) (.ret (.var 3))))) [(.var 1), (.var 0), (.lit (.val (.int .i64 0)))]
set_option maxRecDepth 1000000 in
theorem x42_ok : okF TT Try.f42 2 x42 = true := by decide +kernel
set_option maxRecDepth 1000000 in
theorem s_laws_heldSegPartS_ok {a0 a1 : AV} {σ : AH} {R : AEnd → AH → Prop} (h : s_laws_heldSegPartS a0 a1 σ R) : acall TP fn_laws_heldSegPartS [a0, a1] σ R :=
  acall_okF (ρ := [a1, a0]) TT_ok Try.func42 rfl x42 x42_ok rfl h

/-- slices.Chunk[[]int64,int64] -/
def s_slices_Chunk (a0 a1 : AV) (σ : AH) (R : AEnd → AH → Prop) : Prop :=
  abox a0 σ fun v2 σ =>
  abox a1 σ fun v3 σ =>
  jn (X := Tup [2, 3]) (fun x1 σ =>
      aret (.clo (.func fn_slices_Chunk_1) [] [x1.1, x1.2.1]) σ R) fun k1 =>
    og (lod v3 σ) fun v5 =>
    og (ibin .lss v5 (.val (.int .i64 1))) fun v6 =>
    apick v6 (
      og (aifc TT ty_s (.val (.string ⟨#[99, 97, 110, 110, 111, 116, 32, 98, 101, 32, 108, 101, 115, 115, 32, 116, 104, 97, 110, 32, 49]⟩))) fun v7 =>
      apanic v7 fun v => apan v σ R) (
      k1 (v2, v3, ()) σ)
def x43 : Sx := .box (.var 1) (.box (.var 1) (.jn 7 [2, 3] (.clo (.func 50) [] [(.var 0), (.var 1)] (.ret (.var 0))) (.og (.lod (.var 0)) (.og (.ibin .lss (.var 0) (.lit (.val (.int .i64 1)))) (.apick (.var 0) (.ifc 9 (.lit (.val (.string ⟨#[99, 97, 110, 110, 111, 116, 32, 98, 101, 32, 108, 101, 115, 115, 32, 116, 104, 97, 110, 32, 49]⟩))) (.pan (.var 0))) (.jump 0 [(.var 3), (.var 2)]))))))
set_option maxRecDepth 1000000 in
theorem x43_ok : okF TT Try.f43 2 x43 = true := by decide +kernel
set_option maxRecDepth 1000000 in
theorem s_slices_Chunk_ok {a0 a1 : AV} {σ : AH} {R : AEnd → AH → Prop} (h : s_slices_Chunk a0 a1 σ R) : acall TP fn_slices_Chunk [a0, a1] σ R :=
  acall_okF (ρ := [a1, a0]) TT_ok Try.func43 rfl x43 x43_ok rfl h

/-- slices.Clone[[]int64,int64] -/
def s_slices_Clone (a0 : AV) (σ : AH) (R : AEnd → AH → Prop) : Prop :=
  abin TT .eql ty_Li a0 (.val (.slice none 0 0)) fun v4 =>
  apick v4 (
    aret (.val (.slice none 0 0)) σ R) (
    bsl 1 [(.val (.int .i64 0))] 0 [] σ fun v5 σ =>
    app 1 v5 a0 σ fun v7 σ =>
    aret v7 σ R)
def x44 : Sx := .cmp .eql 44 (.var 0) (.lit (.val (.slice none 0 0))) (.apick (.var 0) (.ret (.lit (.val (.slice none 0 0)))) (.bsl 1 [(.val (.int .i64 0))] 0 [] (.app 1 (.var 0) (.var 2) (.ret (.var 0)))))
set_option maxRecDepth 1000000 in
theorem x44_ok : okF TT Try.f44 1 x44 = true := by decide +kernel
set_option maxRecDepth 1000000 in
theorem s_slices_Clone_ok {a0 : AV} {σ : AH} {R : AEnd → AH → Prop} (h : s_slices_Clone a0 σ R) : acall TP fn_slices_Clone [a0] σ R :=
  acall_okF (ρ := [a0]) TT_ok Try.func44 rfl x44 x44_ok rfl h

/-- loop.example/g00349/laws.szInt64S -/
def s_laws_szInt64S (a0 a1 : AV) (σ : AH) (R : AEnd → AH → Prop) : Prop :=
  og (lenS a0) fun v7 =>
  og (ibin .sub a1 v7) fun v8 =>
  og (ibin .lss v8 (.val (.int .i64 0))) fun v10 =>
  apick v10 (
    aret (.val (.int .i64 (-1))) σ R) (
    aret v8 σ R)
def x45 : Sx := .og (.lenS (.var 1)) (.og (.ibin .sub (.var 1) (.var 0)) (.og (.ibin .lss (.var 0) (.lit (.val (.int .i64 0)))) (.apick (.var 0) (.ret (.lit (.val (.int .i64 (-1))))) (.ret (.var 1)))))
set_option maxRecDepth 1000000 in
theorem x45_ok : okF TT Try.f45 2 x45 = true := by decide +kernel
set_option maxRecDepth 1000000 in
theorem s_laws_szInt64S_ok {a0 a1 : AV} {σ : AH} {R : AEnd → AH → Prop} (h : s_laws_szInt64S a0 a1 σ R) : acall TP fn_laws_szInt64S [a0, a1] σ R :=
  acall_okF (ρ := [a1, a0]) TT_ok Try.func45 rfl x45 x45_ok rfl h

/-- loop.example/g00349/spec.l1In -/
def s_spec_l1In (a0 a1 a2 : AV) (σ : AH) (R : AEnd → AH → Prop) : Prop :=
  og (ibin .geq a0 a1) fun v9 =>
  og (gval v9 true false (some a0)) fun v11 =>
  og (gval v9 true false (some a2)) fun v12 =>
  og (gval v9 true false (ibin .leq v11 v12)) fun v13 =>
  og (pickV v9 v13 (.val (.bool false))) fun v14 =>
  aret v14 σ R
def x46 : Sx := .og (.ibin .geq (.var 2) (.var 1)) (.gog (.var 0) true false (.ret (.var 3)) (.gog (.var 1) true false (.ret (.var 2)) (.gog (.var 2) true false (.ibin .leq (.var 1) (.var 0)) (.og (.pickV (.var 3) (.var 0) (.lit (.val (.bool false)))) (.ret (.var 0))))))
set_option maxRecDepth 1000000 in
theorem x46_ok : okF TT Try.f46 3 x46 = true := by decide +kernel
set_option maxRecDepth 1000000 in
theorem s_spec_l1In_ok {a0 a1 a2 : AV} {σ : AH} {R : AEnd → AH → Prop} (h : s_spec_l1In a0 a1 a2 σ R) : acall TP fn_spec_l1In [a0, a1, a2] σ R :=
  acall_okF (ρ := [a2, a1, a0]) TT_ok Try.func46 rfl x46 x46_ok rfl h

/-- loop.example/g00349/laws.toInt64S -/
def s_laws_toInt64S (a0 : AV) (σ : AH) (R : AEnd → AH → Prop) : Prop :=
  og (lenS a0) fun v6 =>
  amake TT ty_Li v6 v6 σ fun v7 σ =>
  lp (X := Tup [0, 3, 4]) (fun R1 y1 σ =>
    og (lenS y1.1) fun v10 =>
    og (ibin .lss y1.2.2.1 v10) fun v11 =>
    apick v11 (
      og (idx 1 y1.1 y1.2.2.1 σ) fun v18 =>
      og (lod v18 σ) fun v19 =>
      og (idx 1 y1.2.1 y1.2.2.1 σ) fun v20 =>
      sto 1 v20 v19 σ fun σ =>
      og (ibin .add y1.2.2.1 (.val (.int .i64 1))) fun v13 =>
      R1 (y1.1, y1.2.1, v13, ()) σ) (
      aret y1.2.1 σ R)) (a0, v7, (.val (.int .i64 0)), ()) σ
def x47 : Sx := .og (.lenS (.var 0)) (.mks 44 (.var 0) (.var 0) (.lp [0, 3, 4] (.og (.lenS (.var 0)) (.og (.ibin .lss (.var 3) (.var 0)) (.apick (.var 0) (.og (.idx 1 (.var 2) (.var 4)) (.og (.lod (.var 0)) (.og (.idx 1 (.var 5) (.var 6)) (.sto 1 (.var 0) (.var 1) (.og (.ibin .add (.var 7) (.lit (.val (.int .i64 1)))) (.jump 0 [(.var 6), (.var 7), (.var 0)])))))) (.ret (.var 3))))) [(.var 2), (.var 0), (.lit (.val (.int .i64 0)))]))
set_option maxRecDepth 1000000 in
theorem x47_ok : okF TT Try.f47 1 x47 = true := by decide +kernel
set_option maxRecDepth 1000000 in
theorem s_laws_toInt64S_ok {a0 : AV} {σ : AH} {R : AEnd → AH → Prop} (h : s_laws_toInt64S a0 σ R) : acall TP fn_laws_toInt64S [a0] σ R :=
  acall_okF (ρ := [a0]) TT_ok Try.func47 rfl x47 x47_ok rfl h

/-- loop.example/g00349/laws.eqInt64S -/
def s_laws_eqInt64S (a0 a1 : AV) (σ : AH) (R : AEnd → AH → Prop) : Prop :=
  og (lenS a0) fun v7 =>
  og (lenS a1) fun v9 =>
  og (ibin .neq v7 v9) fun v10 =>
  apick v10 (
    aret (.val (.bool false)) σ R) (
    lp (X := Tup [0, 1, 5]) (fun R1 y1 σ =>
      og (lenS y1.1) fun v13 =>
      og (ibin .lss y1.2.2.1 v13) fun v14 =>
      apick v14 (
        og (idx 1 y1.1 y1.2.2.1 σ) fun v19 =>
        og (lod v19 σ) fun v20 =>
        og (idx 1 y1.2.1 y1.2.2.1 σ) fun v23 =>
        og (lod v23 σ) fun v24 =>
        og (ibin .neq v20 v24) fun v25 =>
        apick v25 (
          aret (.val (.bool false)) σ R) (
          og (ibin .add y1.2.2.1 (.val (.int .i64 1))) fun v16 =>
          R1 (y1.1, y1.2.1, v16, ()) σ)) (
        aret (.val (.bool true)) σ R)) (a0, a1, (.val (.int .i64 0)), ()) σ)
def x48 : Sx := .og (.lenS (.var 1)) (.og (.lenS (.var 1)) (.og (.ibin .neq (.var 1) (.var 0)) (.apick (.var 0) (.ret (.lit (.val (.bool false)))) (.lp [0, 1, 5] (.og (.lenS (.var 0)) (.og (.ibin .lss (.var 3) (.var 0)) (.apick (.var 0) (.ord [0, 1, 2, 3, 4, 5, 6, 7, 8] [0, 0, 3, 7, 0, 0, 48, 112, 255] (.og (.idx 1 (.var 2) (.var 4)) (.og (.lod (.var 0)) (.og (.idx 1 (.var 5) (.var 6)) (.og (.lod (.var 0)) (.og (.ibin .neq (.var 2) (.var 0)) (.apick (.var 0) (.ret (.lit (.val (.bool false)))) (.og (.ibin .add (.var 9) (.lit (.val (.int .i64 1)))) (.jump 0 [(.var 8), (.var 9), (.var 0)]))))))))) (.ret (.lit (.val (.bool true))))))) [(.var 4), (.var 3), (.lit (.val (.int .i64 0)))]))))
set_option maxRecDepth 1000000 in
theorem x48_ok : okF TT Try.f48 2 x48 = true := by decide +kernel
set_option maxRecDepth 1000000 in
theorem s_laws_eqInt64S_ok {a0 a1 : AV} {σ : AH} {R : AEnd → AH → Prop} (h : s_laws_eqInt64S a0 a1 σ R) : acall TP fn_laws_eqInt64S [a0, a1] σ R :=
  acall_okF (ρ := [a1, a0]) TT_ok Try.func48 rfl x48 x48_ok rfl h

/-- loop.example/g00349/laws.heldInt64S -/
def s_laws_heldInt64S (a0 a1 : AV) (σ : AH) (R : AEnd → AH → Prop) : Prop :=
  lp (X := Tup [0, 1, 5]) (fun R1 y1 σ =>
    og (lenS y1.1) fun v8 =>
    og (ibin .lss y1.2.2.1 v8) fun v9 =>
    apick v9 (
      og (idx 1 y1.1 y1.2.2.1 σ) fun v14 =>
      og (lod v14 σ) fun v15 =>
      og (ibin .neq v15 y1.2.1) fun v17 =>
      apick v17 (
        aret (.val (.int .i64 (-1))) σ R) (
        og (ibin .add y1.2.1 (.val (.int .i64 1))) fun v19 =>
        og (ibin .add y1.2.2.1 (.val (.int .i64 1))) fun v11 =>
        R1 (y1.1, v19, v11, ()) σ)) (
      aret y1.2.1 σ R)) (a0, a1, (.val (.int .i64 0)), ()) σ
def x49 : Sx := .lp [0, 1, 5] (.og (.lenS (.var 0)) (.og (.ibin .lss (.var 3) (.var 0)) (.apick (.var 0) (.og (.idx 1 (.var 2) (.var 4)) (.og (.lod (.var 0)) (.og (.ibin .neq (.var 0) (.var 5)) (.apick (.var 0) (.ret (.lit (.val (.int .i64 (-1))))) (.og (.ibin .add (.var 6) (.lit (.val (.int .i64 1)))) (.og (.ibin .add (.var 8) (.lit (.val (.int .i64 1)))) (.jump 0 [(.var 7), (.var 1), (.var 0)]))))))) (.ret (.var 3))))) [(.var 1), (.var 0), (.lit (.val (.int .i64 0)))]
set_option maxRecDepth 1000000 in
theorem x49_ok : okF TT Try.f49 2 x49 = true := by decide +kernel
set_option maxRecDepth 1000000 in
theorem s_laws_heldInt64S_ok {a0 a1 : AV} {σ : AH} {R : AEnd → AH → Prop} (h : s_laws_heldInt64S a0 a1 σ R) : acall TP fn_laws_heldInt64S [a0, a1] σ R :=
  acall_okF (ρ := [a1, a0]) TT_ok Try.func49 rfl x49 x49_ok rfl h

/-- slices.Chunk[[]int64,int64]$1 -/
def s_slices_Chunk_1 (a0 a1 a2 : AV) (σ : AH) (R : AEnd → AH → Prop) : Prop :=
  lp (X := Tup [0, 1, 2, 4]) (fun R1 y1 σ =>
    og (lod y1.2.1 σ) fun v7 =>
    og (lenS v7) fun v8 =>
    og (ibin .lss y1.2.2.2.1 v8) fun v9 =>
    apick v9 (
      og (lod y1.2.2.1 σ) fun v13 =>
      og (lod y1.2.1 σ) fun v14 =>
      og (slc 1 v14 (some y1.2.2.2.1) none none σ) fun v16 =>
      og (lenS v16) fun v17 =>
      og (amm false v13 v17) fun v18 =>
      og (lod y1.2.1 σ) fun v20 =>
      og (ibin .add y1.2.2.2.1 v18) fun v24 =>
      og (ibin .add y1.2.2.2.1 v18) fun v27 =>
      og (slc 1 v20 (some y1.2.2.2.1) (some v24) (some v27) σ) fun v28 =>
      acallv TP y1.1 [v28] σ (onr (fun v29 σ =>
      og (aun .not v29) fun v30 =>
      apick v30 (
        aret (.tup []) σ R) (
        og (lod y1.2.2.1 σ) fun v11 =>
        og (ibin .add y1.2.2.2.1 v11) fun v12 =>
        R1 (y1.1, y1.2.1, y1.2.2.1, v12, ()) σ)) (fun v σ => apan v σ R))) (
      aret (.tup []) σ R)) (a0, a1, a2, (.val (.int .i64 0)), ()) σ
def x50 : Sx := .lp [0, 1, 2, 4] (.og (.lod (.var 1)) (.og (.lenS (.var 0)) (.og (.ibin .lss (.var 5) (.var 0)) (.apick (.var 0) (.ord [0, 1, 2, 3, 4, 5, 6] [0, 0, 0, 6, 14, 31, 63] (.og (.lod (.var 5)) (.og (.lod (.var 5)) (.og (.slc 1 (.var 0) (some (.var 8)) none none) (.og (.lenS (.var 0)) (.og (.amm false (.var 3) (.var 0)) (.og (.lod (.var 9)) (.og (.ibin .add (.var 12) (.var 1)) (.og (.ibin .add (.var 13) (.var 2)) (.og (.slc 1 (.var 2) (some (.var 14)) (some (.var 1)) (some (.var 0))) (.callv (.var 12) [(.var 0)] (.og (.aun .not (.var 0)) (.apick (.var 0) (.rets []) (.og (.lod (.var 16)) (.og (.ibin .add (.var 18) (.var 0)) (.jump 0 [(.var 16), (.var 17), (.var 18), (.var 0)])))))))))))))))) (.rets []))))) [(.var 2), (.var 1), (.var 0), (.lit (.val (.int .i64 0)))]
set_option maxRecDepth 1000000 in
theorem x50_ok : okF TT Try.f50 3 x50 = true := by decide +kernel
set_option maxRecDepth 1000000 in
theorem s_slices_Chunk_1_ok {a0 a1 a2 : AV} {σ : AH} {R : AEnd → AH → Prop} (h : s_slices_Chunk_1 a0 a1 a2 σ R) : acall TP fn_slices_Chunk_1 [a0, a1, a2] σ R :=
  acall_okF (ρ := [a2, a1, a0]) TT_ok Try.func50 rfl x50 x50_ok rfl h

-- 51: not served: list index out of range

-- 52: not served: list index out of range

-- 53: not served: list index out of range

-- 54: not served: list index out of range

-- 55: not served: list index out of range

-- 56: not served: list index out of range

-- 57: not served: list index out of range

-- 58: not served: list index out of range

-- 59: not served: list index out of range

-- 60: not served: list index out of range

-- 61: not served: list index out of range

-- 62: not served: list index out of range

-- 63: not served: list index out of range

-- 64: not served: list index out of range

-- 65: not served: list index out of range

-- 66: not served: list index out of range

end Go.Proofs.Ytoccfncmphipbaa.E
