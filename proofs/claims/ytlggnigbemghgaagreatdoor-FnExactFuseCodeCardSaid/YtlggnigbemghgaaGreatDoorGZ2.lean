/- What functions come to. Printed by mkg.py. -/
import Derived.Test.YtlggnigbemghgaaGreatDoorGZ0
namespace Go.Proofs.YtlggnigbemghgaaGreatDoor.E
open Go Go.RowKit
set_option linter.unusedVariables false
set_option linter.unusedSectionVars false
variable [Lam]
/-- loop.example/g00349/impl.blockFault -/
def s_impl_blockFault (a0 : AV) (σ : AH) (R : AEnd → AH → Prop) : Prop :=
  abox a0 σ fun v1 σ =>
  frz v1 σ fun f1 σ =>
  og (fldA 0 f1) fun v7 =>
  og (lod v7 σ) fun v8 =>
  acall TP fn_impl_in [v8, (.val (.int .i64 0)), (.val (.int .i64 3))] σ (onr (fun v9 σ =>
  og (aun .not v9) fun v10 =>
  apick v10 (
    aret (.val (.int .i64 3)) σ R) (
    og (fldA 1 f1) fun v12 =>
    og (lod v12 σ) fun v13 =>
    og (lenS v13) fun v14 =>
    og (ibin .gtr v14 (.val (.int .i64 200))) fun v15 =>
    apick v15 (
      aret (.val (.int .i64 2)) σ R) (
      og (fldA 1 f1) fun v16 =>
      og (lod v16 σ) fun v17 =>
      og (lenS v17) fun v18 =>
      lp (X := Tup [17, 18, 19]) (fun R1 y1 σ =>
        og (ibin .lss y1.2.2.1 y1.2.1) fun v20 =>
        apick v20 (
          og (idx 7 y1.1 y1.2.2.1 σ) fun v21 =>
          og (lodA 7 v21 σ) fun v22 =>
          new [(.val (.int .i64 0)), (.val (.int .i64 0)), (.val (.int .i64 0)), (.val (.int .i64 0)), (.val (.int .i64 0)), (.val (.string ⟨#[]⟩)), (.val (.slice none 0 0))] σ fun v4 σ =>
          sto 7 v4 v22 σ fun σ =>
          frz v4 σ fun f4 σ =>
          og (lodA 7 f4 σ) fun v23 =>
          acall TP fn_impl_OpFault [v23] σ (onr (fun v24 σ =>
          og (ibin .neq v24 (.val (.int .i64 0))) fun v26 =>
          apick v26 (
            aret v24 σ R) (
            og (ibin .add y1.2.2.1 (.val (.int .i64 1))) fun v28 =>
            R1 (y1.1, y1.2.1, v28, ()) σ)) (fun v σ => apan v σ R))) (
          aret (.val (.int .i64 0)) σ R)) (v17, v18, (.val (.int .i64 0)), ()) σ))) (fun v σ => apan v σ R))
def x61 : Sx := .box (.var 0) (.frz 1 (.var 0) (.og (.fldA 0 (.var 0)) (.og (.lod (.var 0)) (.call 52 [(.var 0), (.lit (.val (.int .i64 0))), (.lit (.val (.int .i64 3)))] (.og (.aun .not (.var 0)) (.apick (.var 0) (.ret (.lit (.val (.int .i64 3)))) (.og (.fldA 1 (.var 4)) (.og (.lod (.var 0)) (.og (.lenS (.var 0)) (.og (.ibin .gtr (.var 0) (.lit (.val (.int .i64 200)))) (.apick (.var 0) (.ret (.lit (.val (.int .i64 2)))) (.og (.fldA 1 (.var 8)) (.og (.lod (.var 0)) (.og (.lenS (.var 0)) (.lp [17, 18, 19] (.og (.ibin .lss (.var 2) (.var 1)) (.apick (.var 0) (.og (.idx 7 (.var 1) (.var 3)) (.og (.lodA 7 (.var 0)) (.new [(.val (.int .i64 0)), (.val (.int .i64 0)), (.val (.int .i64 0)), (.val (.int .i64 0)), (.val (.int .i64 0)), (.val (.string ⟨#[]⟩)), (.val (.slice none 0 0))] (.sto 7 (.var 0) (.var 1) (.frz 6 (.var 0) (.og (.lodA 7 (.var 0)) (.call 78 [(.var 0)] (.og (.ibin .neq (.var 0) (.lit (.val (.int .i64 0)))) (.apick (.var 0) (.ret (.var 1)) (.og (.ibin .add (.var 10) (.lit (.val (.int .i64 1)))) (.jump 0 [(.var 9), (.var 10), (.var 0)]))))))))))) (.ret (.lit (.val (.int .i64 0)))))) [(.var 1), (.var 0), (.lit (.val (.int .i64 0)))])))))))))))))))
set_option maxRecDepth 1000000 in
theorem x61_ok : okF TT Tryz.f61 1 x61 = true := by decide +kernel
set_option maxRecDepth 1000000 in
theorem s_impl_blockFault_ok {a0 : AV} {σ : AH} {R : AEnd → AH → Prop} (h : s_impl_blockFault a0 σ R) : acall TP fn_impl_blockFault [a0] σ R :=
  acall_okF (ρ := [a0]) TT_ok Tryz.func61 rfl x61 x61_ok rfl h

/-- (loop.example/g00349/impl.Op).takes -/
def s_impl_Op_takes (a0 : AV) (σ : AH) (R : AEnd → AH → Prop) : Prop :=
  abox a0 σ fun v1 σ =>
  frz v1 σ fun f1 σ =>
  og (fldA 0 f1) fun v3 =>
  og (lod v3 σ) fun v4 =>
  jn (X := Tup [1, 4, 5]) (fun x1 σ =>
      apick x1.2.2.1 (
        aret (.val (.int .i64 1)) σ R) (
        og (ibin .eql x1.2.1 (.val (.int .i64 10))) fun v11 =>
        apick v11 (
          og (fldA 1 x1.1) fun v12 =>
          og (lod v12 σ) fun v13 =>
          og (ibin .add v13 (.val (.int .i64 1))) fun v14 =>
          aret v14 σ R) (
          aret (.val (.int .i64 0)) σ R))) fun k1 =>
    og (ibin .eql v4 (.val (.int .i64 6))) fun v6 =>
    apick v6 (
      k1 (f1, v4, v6, ()) σ) (
      og (ibin .eql v4 (.val (.int .i64 7))) fun v7 =>
      apick v7 (
        k1 (f1, v4, v7, ()) σ) (
        og (ibin .eql v4 (.val (.int .i64 8))) fun v8 =>
        apick v8 (
          k1 (f1, v4, v8, ()) σ) (
          og (ibin .eql v4 (.val (.int .i64 9))) fun v9 =>
          k1 (f1, v4, v9, ()) σ)))
def x62 : Sx := .box (.var 0) (.frz 1 (.var 0) (.og (.fldA 0 (.var 0)) (.og (.lod (.var 0)) (.jn 53 [1, 4, 5] (.apick (.var 2) (.ret (.lit (.val (.int .i64 1)))) (.og (.ibin .eql (.var 1) (.lit (.val (.int .i64 10)))) (.apick (.var 0) (.og (.fldA 1 (.var 1)) (.og (.lod (.var 0)) (.og (.ibin .add (.var 0) (.lit (.val (.int .i64 1)))) (.ret (.var 0))))) (.ret (.lit (.val (.int .i64 0))))))) (.og (.ibin .eql (.var 0) (.lit (.val (.int .i64 6)))) (.apick (.var 0) (.jump 0 [(.var 3), (.var 1), (.var 0)]) (.og (.ibin .eql (.var 1) (.lit (.val (.int .i64 7)))) (.apick (.var 0) (.jump 0 [(.var 4), (.var 2), (.var 0)]) (.og (.ibin .eql (.var 2) (.lit (.val (.int .i64 8)))) (.apick (.var 0) (.jump 0 [(.var 5), (.var 3), (.var 0)]) (.og (.ibin .eql (.var 3) (.lit (.val (.int .i64 9)))) (.jump 0 [(.var 6), (.var 4), (.var 0)]))))))))))))
set_option maxRecDepth 1000000 in
theorem x62_ok : okF TT Tryz.f62 1 x62 = true := by decide +kernel
set_option maxRecDepth 1000000 in
theorem s_impl_Op_takes_ok {a0 : AV} {σ : AH} {R : AEnd → AH → Prop} (h : s_impl_Op_takes a0 σ R) : acall TP fn_impl_Op_takes [a0] σ R :=
  acall_okF (ρ := [a0]) TT_ok Tryz.func62 rfl x62 x62_ok rfl h

/-- (loop.example/g00349/impl.Op).puts -/
def s_impl_Op_puts (a0 : AV) (σ : AH) (R : AEnd → AH → Prop) : Prop :=
  abox a0 σ fun v1 σ =>
  frz v1 σ fun f1 σ =>
  og (fldA 0 f1) fun v3 =>
  og (lod v3 σ) fun v4 =>
  jn (X := Tup [4, 5]) (fun x1 σ =>
      apick x1.2.1 (
        aret (.val (.int .i64 1)) σ R) (
        og (ibin .eql x1.1 (.val (.int .i64 15))) fun v14 =>
        apick v14 (
          aret (.val (.int .i64 2)) σ R) (
          aret (.val (.int .i64 0)) σ R))) fun k1 =>
    og (ibin .eql v4 (.val (.int .i64 1))) fun v6 =>
    apick v6 (
      k1 (v4, v6, ()) σ) (
      og (ibin .eql v4 (.val (.int .i64 2))) fun v7 =>
      apick v7 (
        k1 (v4, v7, ()) σ) (
        og (ibin .eql v4 (.val (.int .i64 3))) fun v8 =>
        apick v8 (
          k1 (v4, v8, ()) σ) (
          og (ibin .eql v4 (.val (.int .i64 4))) fun v9 =>
          apick v9 (
            k1 (v4, v9, ()) σ) (
            og (ibin .eql v4 (.val (.int .i64 8))) fun v10 =>
            apick v10 (
              k1 (v4, v10, ()) σ) (
              og (ibin .eql v4 (.val (.int .i64 9))) fun v11 =>
              apick v11 (
                k1 (v4, v11, ()) σ) (
                og (ibin .eql v4 (.val (.int .i64 10))) fun v12 =>
                k1 (v4, v12, ()) σ))))))
def x63 : Sx := .box (.var 0) (.frz 1 (.var 0) (.og (.fldA 0 (.var 0)) (.og (.lod (.var 0)) (.jn 53 [4, 5] (.apick (.var 1) (.ret (.lit (.val (.int .i64 1)))) (.og (.ibin .eql (.var 0) (.lit (.val (.int .i64 15)))) (.apick (.var 0) (.ret (.lit (.val (.int .i64 2)))) (.ret (.lit (.val (.int .i64 0))))))) (.og (.ibin .eql (.var 0) (.lit (.val (.int .i64 1)))) (.apick (.var 0) (.jump 0 [(.var 1), (.var 0)]) (.og (.ibin .eql (.var 1) (.lit (.val (.int .i64 2)))) (.apick (.var 0) (.jump 0 [(.var 2), (.var 0)]) (.og (.ibin .eql (.var 2) (.lit (.val (.int .i64 3)))) (.apick (.var 0) (.jump 0 [(.var 3), (.var 0)]) (.og (.ibin .eql (.var 3) (.lit (.val (.int .i64 4)))) (.apick (.var 0) (.jump 0 [(.var 4), (.var 0)]) (.og (.ibin .eql (.var 4) (.lit (.val (.int .i64 8)))) (.apick (.var 0) (.jump 0 [(.var 5), (.var 0)]) (.og (.ibin .eql (.var 5) (.lit (.val (.int .i64 9)))) (.apick (.var 0) (.jump 0 [(.var 6), (.var 0)]) (.og (.ibin .eql (.var 6) (.lit (.val (.int .i64 10)))) (.jump 0 [(.var 7), (.var 0)]))))))))))))))))))
set_option maxRecDepth 1000000 in
theorem x63_ok : okF TT Tryz.f63 1 x63 = true := by decide +kernel
set_option maxRecDepth 1000000 in
theorem s_impl_Op_puts_ok {a0 : AV} {σ : AH} {R : AEnd → AH → Prop} (h : s_impl_Op_puts a0 σ R) : acall TP fn_impl_Op_puts [a0] σ R :=
  acall_okF (ρ := [a0]) TT_ok Tryz.func63 rfl x63 x63_ok rfl h

/-- (loop.example/g00349/impl.Op).ends -/
def s_impl_Op_ends (a0 a1 : AV) (σ : AH) (R : AEnd → AH → Prop) : Prop :=
  abox a0 σ fun v2 σ =>
  frz v2 σ fun f2 σ =>
  og (fldA 0 f2) fun v5 =>
  og (lod v5 σ) fun v6 =>
  og (ibin .eql v6 (.val (.int .i64 12))) fun v8 =>
  apick v8 (
    og (ibin .eql a1 (.val (.int .i64 1))) fun v10 =>
    aret v10 σ R) (
    og (ibin .eql v6 (.val (.int .i64 11))) fun v12 =>
    apick v12 (
      og (fldA 1 f2) fun v14 =>
      og (lod v14 σ) fun v15 =>
      og (ibin .add v15 (.val (.int .i64 1))) fun v16 =>
      og (ibin .eql a1 v16) fun v17 =>
      aret v17 σ R) (
      jn (X := Tup [1, 18]) (fun x1 σ =>
          apick x1.2.1 (
            og (ibin .eql x1.1 (.val (.int .i64 0))) fun v22 =>
            aret v22 σ R) (
            aret (.val (.bool true)) σ R)) fun k1 =>
        og (ibin .eql v6 (.val (.int .i64 13))) fun v19 =>
        apick v19 (
          k1 (a1, v19, ()) σ) (
          og (ibin .eql v6 (.val (.int .i64 14))) fun v20 =>
          k1 (a1, v20, ()) σ)))
def x64 : Sx := .box (.var 1) (.frz 2 (.var 0) (.og (.fldA 0 (.var 0)) (.og (.lod (.var 0)) (.og (.ibin .eql (.var 0) (.lit (.val (.int .i64 12)))) (.apick (.var 0) (.og (.ibin .eql (.var 5) (.lit (.val (.int .i64 1)))) (.ret (.var 0))) (.og (.ibin .eql (.var 1) (.lit (.val (.int .i64 11)))) (.apick (.var 0) (.og (.fldA 1 (.var 4)) (.og (.lod (.var 0)) (.og (.ibin .add (.var 0) (.lit (.val (.int .i64 1)))) (.og (.ibin .eql (.var 9) (.var 0)) (.ret (.var 0)))))) (.jn 863 [1, 18] (.apick (.var 1) (.og (.ibin .eql (.var 0) (.lit (.val (.int .i64 0)))) (.ret (.var 0))) (.ret (.lit (.val (.bool true))))) (.og (.ibin .eql (.var 2) (.lit (.val (.int .i64 13)))) (.apick (.var 0) (.jump 0 [(.var 7), (.var 0)]) (.og (.ibin .eql (.var 3) (.lit (.val (.int .i64 14)))) (.jump 0 [(.var 8), (.var 0)]))))))))))))
set_option maxRecDepth 1000000 in
theorem x64_ok : okF TT Tryz.f64 2 x64 = true := by decide +kernel
set_option maxRecDepth 1000000 in
theorem s_impl_Op_ends_ok {a0 a1 : AV} {σ : AH} {R : AEnd → AH → Prop} (h : s_impl_Op_ends a0 a1 σ R) : acall TP fn_impl_Op_ends [a0, a1] σ R :=
  acall_okF (ρ := [a1, a0]) TT_ok Tryz.func64 rfl x64 x64_ok rfl h

/-- (loop.example/g00349/impl.Op).goesOn -/
def s_impl_Op_goesOn (a0 : AV) (σ : AH) (R : AEnd → AH → Prop) : Prop :=
  abox a0 σ fun v1 σ =>
  frz v1 σ fun f1 σ =>
  og (fldA 0 f1) fun v3 =>
  og (lod v3 σ) fun v4 =>
  jn (X := Tup [5]) (fun x1 σ =>
      apick x1.1 (
        aret (.val (.bool false)) σ R) (
        aret (.val (.bool true)) σ R)) fun k1 =>
    og (ibin .eql v4 (.val (.int .i64 5))) fun v6 =>
    apick v6 (
      k1 (v6, ()) σ) (
      og (ibin .eql v4 (.val (.int .i64 11))) fun v7 =>
      apick v7 (
        k1 (v7, ()) σ) (
        og (ibin .eql v4 (.val (.int .i64 12))) fun v8 =>
        apick v8 (
          k1 (v8, ()) σ) (
          og (ibin .eql v4 (.val (.int .i64 13))) fun v9 =>
          apick v9 (
            k1 (v9, ()) σ) (
            og (ibin .eql v4 (.val (.int .i64 14))) fun v10 =>
            k1 (v10, ()) σ))))
def x65 : Sx := .box (.var 0) (.frz 1 (.var 0) (.og (.fldA 0 (.var 0)) (.og (.lod (.var 0)) (.jn 53 [5] (.apick (.var 0) (.ret (.lit (.val (.bool false)))) (.ret (.lit (.val (.bool true))))) (.og (.ibin .eql (.var 0) (.lit (.val (.int .i64 5)))) (.apick (.var 0) (.jump 0 [(.var 0)]) (.og (.ibin .eql (.var 1) (.lit (.val (.int .i64 11)))) (.apick (.var 0) (.jump 0 [(.var 0)]) (.og (.ibin .eql (.var 2) (.lit (.val (.int .i64 12)))) (.apick (.var 0) (.jump 0 [(.var 0)]) (.og (.ibin .eql (.var 3) (.lit (.val (.int .i64 13)))) (.apick (.var 0) (.jump 0 [(.var 0)]) (.og (.ibin .eql (.var 4) (.lit (.val (.int .i64 14)))) (.jump 0 [(.var 0)]))))))))))))))
set_option maxRecDepth 1000000 in
theorem x65_ok : okF TT Tryz.f65 1 x65 = true := by decide +kernel
set_option maxRecDepth 1000000 in
theorem s_impl_Op_goesOn_ok {a0 : AV} {σ : AH} {R : AEnd → AH → Prop} (h : s_impl_Op_goesOn a0 σ R) : acall TP fn_impl_Op_goesOn [a0] σ R :=
  acall_okF (ρ := [a0]) TT_ok Tryz.func65 rfl x65 x65_ok rfl h

/-- loop.example/g00349/laws.eqOp -/
def s_laws_eqOp (a0 a1 : AV) (σ : AH) (R : AEnd → AH → Prop) : Prop :=
  abox a0 σ fun v2 σ =>
  abox a1 σ fun v3 σ =>
  frz v2 σ fun f2 σ =>
  frz v3 σ fun f3 σ =>
  og (fldA 0 f2) fun v5 =>
  og (lod v5 σ) fun v6 =>
  og (fldA 0 f3) fun v7 =>
  og (lod v7 σ) fun v8 =>
  og (ibin .neq v6 v8) fun v9 =>
  apick v9 (
    aret (.val (.bool false)) σ R) (
    og (fldA 1 f2) fun v10 =>
    og (lod v10 σ) fun v11 =>
    og (fldA 1 f3) fun v12 =>
    og (lod v12 σ) fun v13 =>
    og (ibin .neq v11 v13) fun v14 =>
    apick v14 (
      aret (.val (.bool false)) σ R) (
      og (fldA 2 f2) fun v15 =>
      og (lod v15 σ) fun v16 =>
      og (fldA 2 f3) fun v17 =>
      og (lod v17 σ) fun v18 =>
      og (ibin .neq v16 v18) fun v19 =>
      apick v19 (
        aret (.val (.bool false)) σ R) (
        og (fldA 3 f2) fun v20 =>
        og (lod v20 σ) fun v21 =>
        og (fldA 3 f3) fun v22 =>
        og (lod v22 σ) fun v23 =>
        og (ibin .neq v21 v23) fun v24 =>
        apick v24 (
          aret (.val (.bool false)) σ R) (
          og (fldA 4 f2) fun v25 =>
          og (lod v25 σ) fun v26 =>
          og (fldA 4 f3) fun v27 =>
          og (lod v27 σ) fun v28 =>
          og (ibin .neq v26 v28) fun v29 =>
          apick v29 (
            aret (.val (.bool false)) σ R) (
            og (fldA 5 f2) fun v30 =>
            og (lod v30 σ) fun v31 =>
            og (fldA 5 f3) fun v32 =>
            og (lod v32 σ) fun v33 =>
            og (sbin .neq v31 v33) fun v34 =>
            apick v34 (
              aret (.val (.bool false)) σ R) (
              og (fldA 6 f2) fun v35 =>
              og (lod v35 σ) fun v36 =>
              og (fldA 6 f3) fun v37 =>
              og (lod v37 σ) fun v38 =>
              acall TP fn_laws_eqDatumS [v36, v38] σ (onr (fun v39 σ =>
              og (aun .not v39) fun v40 =>
              apick v40 (
                aret (.val (.bool false)) σ R) (
                aret (.val (.bool true)) σ R)) (fun v σ => apan v σ R))))))))
def x66 : Sx := .box (.var 1) (.box (.var 1) (.frz 2 (.var 1) (.frz 3 (.var 1) (.og (.fldA 0 (.var 1)) (.og (.lod (.var 0)) (.og (.fldA 0 (.var 2)) (.og (.lod (.var 0)) (.og (.ibin .neq (.var 2) (.var 0)) (.apick (.var 0) (.ret (.lit (.val (.bool false)))) (.og (.fldA 1 (.var 6)) (.og (.lod (.var 0)) (.og (.fldA 1 (.var 7)) (.og (.lod (.var 0)) (.og (.ibin .neq (.var 2) (.var 0)) (.apick (.var 0) (.ret (.lit (.val (.bool false)))) (.og (.fldA 2 (.var 11)) (.og (.lod (.var 0)) (.og (.fldA 2 (.var 12)) (.og (.lod (.var 0)) (.og (.ibin .neq (.var 2) (.var 0)) (.apick (.var 0) (.ret (.lit (.val (.bool false)))) (.og (.fldA 3 (.var 16)) (.og (.lod (.var 0)) (.og (.fldA 3 (.var 17)) (.og (.lod (.var 0)) (.og (.ibin .neq (.var 2) (.var 0)) (.apick (.var 0) (.ret (.lit (.val (.bool false)))) (.og (.fldA 4 (.var 21)) (.og (.lod (.var 0)) (.og (.fldA 4 (.var 22)) (.og (.lod (.var 0)) (.og (.ibin .neq (.var 2) (.var 0)) (.apick (.var 0) (.ret (.lit (.val (.bool false)))) (.og (.fldA 5 (.var 26)) (.og (.lod (.var 0)) (.og (.fldA 5 (.var 27)) (.og (.lod (.var 0)) (.og (.sbin .neq (.var 2) (.var 0)) (.apick (.var 0) (.ret (.lit (.val (.bool false)))) (.og (.fldA 6 (.var 31)) (.og (.lod (.var 0)) (.og (.fldA 6 (.var 32)) (.og (.lod (.var 0)) (.call 79 [(.var 2), (.var 0)] (.og (.aun .not (.var 0)) (.apick (.var 0) (.ret (.lit (.val (.bool false)))) (.ret (.lit (.val (.bool true))))))))))))))))))))))))))))))))))))))))))))))))))
set_option maxRecDepth 1000000 in
theorem x66_ok : okF TT Tryz.f66 2 x66 = true := by decide +kernel
set_option maxRecDepth 1000000 in
theorem s_laws_eqOp_ok {a0 a1 : AV} {σ : AH} {R : AEnd → AH → Prop} (h : s_laws_eqOp a0 a1 σ R) : acall TP fn_laws_eqOp [a0, a1] σ R :=
  acall_okF (ρ := [a1, a0]) TT_ok Tryz.func66 rfl x66 x66_ok rfl h

/-- loop.example/g00349/laws.heldDatumS -/
def s_laws_heldDatumS (a0 a1 : AV) (σ : AH) (R : AEnd → AH → Prop) : Prop :=
  lp (X := Tup [0, 1, 5]) (fun R1 y1 σ =>
    og (lenS y1.1) fun v8 =>
    og (ibin .lss y1.2.2.1 v8) fun v9 =>
    apick v9 (
      og (idx 4 y1.1 y1.2.2.1 σ) fun v14 =>
      og (fldA 0 v14) fun v15 =>
      og (lod v15 σ) fun v16 =>
      og (ibin .neq v16 y1.2.1) fun v18 =>
      apick v18 (
        aret (.val (.int .i64 (-1))) σ R) (
        og (ibin .add y1.2.1 (.val (.int .i64 1))) fun v20 =>
        og (idx 4 y1.1 y1.2.2.1 σ) fun v23 =>
        og (fldA 1 v23) fun v24 =>
        og (lod v24 σ) fun v25 =>
        og (ibin .neq v25 v20) fun v27 =>
        apick v27 (
          aret (.val (.int .i64 (-1))) σ R) (
          og (ibin .add v20 (.val (.int .i64 1))) fun v29 =>
          og (idx 4 y1.1 y1.2.2.1 σ) fun v32 =>
          og (fldA 2 v32) fun v33 =>
          og (lod v33 σ) fun v34 =>
          og (ibin .neq v34 v29) fun v36 =>
          apick v36 (
            aret (.val (.int .i64 (-1))) σ R) (
            og (ibin .add v29 (.val (.int .i64 1))) fun v38 =>
            og (idx 4 y1.1 y1.2.2.1 σ) fun v41 =>
            og (fldA 3 v41) fun v42 =>
            og (lod v42 σ) fun v43 =>
            acall TP fn_laws_markText [v38] σ (onr (fun v45 σ =>
            (lod v42 σ = some v43 ∧ idx 4 y1.1 y1.2.2.1 σ = some v41 ∧ True) ∧
            og (sbin .neq v43 v45) fun v46 =>
            apick v46 (
              aret (.val (.int .i64 (-1))) σ R) (
              og (ibin .add v38 (.val (.int .i64 1))) fun v48 =>
              og (ibin .add y1.2.2.1 (.val (.int .i64 1))) fun v11 =>
              R1 (y1.1, v48, v11, ()) σ)) (fun v σ => apan v σ R)))))) (
      aret y1.2.1 σ R)) (a0, a1, (.val (.int .i64 0)), ()) σ
def x67 : Sx := .lp [0, 1, 5] (.og (.lenS (.var 0)) (.og (.ibin .lss (.var 3) (.var 0)) (.apick (.var 0) (.og (.idx 4 (.var 2) (.var 4)) (.og (.fldA 0 (.var 0)) (.og (.lod (.var 0)) (.og (.ibin .neq (.var 0) (.var 6)) (.apick (.var 0) (.ret (.lit (.val (.int .i64 (-1))))) (.og (.ibin .add (.var 7) (.lit (.val (.int .i64 1)))) (.og (.idx 4 (.var 7) (.var 9)) (.og (.fldA 1 (.var 0)) (.og (.lod (.var 0)) (.og (.ibin .neq (.var 0) (.var 3)) (.apick (.var 0) (.ret (.lit (.val (.int .i64 (-1))))) (.og (.ibin .add (.var 4) (.lit (.val (.int .i64 1)))) (.og (.idx 4 (.var 12) (.var 14)) (.og (.fldA 2 (.var 0)) (.og (.lod (.var 0)) (.og (.ibin .neq (.var 0) (.var 3)) (.apick (.var 0) (.ret (.lit (.val (.int .i64 (-1))))) (.og (.ibin .add (.var 4) (.lit (.val (.int .i64 1)))) (.ord [0, 1, 2, 3, 4, 5, 6, 7] [0, 0, 3, 7, 15, 0, 32, 127] (.og (.idx 4 (.var 17) (.var 19)) (.og (.fldA 3 (.var 0)) (.og (.lod (.var 0)) (.call 47 [(.var 3)] (.wat [⟨none, (.lod (.var 2)), (.var 1)⟩, ⟨none, (.idx 4 (.var 21) (.var 23)), (.var 3)⟩] (.og (.sbin .neq (.var 1) (.var 0)) (.apick (.var 0) (.ret (.lit (.val (.int .i64 (-1))))) (.og (.ibin .add (.var 5) (.lit (.val (.int .i64 1)))) (.og (.ibin .add (.var 25) (.lit (.val (.int .i64 1)))) (.jump 0 [(.var 24), (.var 1), (.var 0)]))))))))))))))))))))))))))))) (.ret (.var 3))))) [(.var 1), (.var 0), (.lit (.val (.int .i64 0)))]
set_option maxRecDepth 1000000 in
theorem x67_ok : okF TT Tryz.f67 2 x67 = true := by decide +kernel
set_option maxRecDepth 1000000 in
theorem s_laws_heldDatumS_ok {a0 a1 : AV} {σ : AH} {R : AEnd → AH → Prop} (h : s_laws_heldDatumS a0 a1 σ R) : acall TP fn_laws_heldDatumS [a0, a1] σ R :=
  acall_okF (ρ := [a1, a0]) TT_ok Tryz.func67 rfl x67 x67_ok rfl h

/-- loop.example/g00349/spec.l9IsTarget -/
def s_spec_l9IsTarget (a0 a1 : AV) (σ : AH) (R : AEnd → AH → Prop) : Prop :=
  lp (X := Tup [0, 1, 5]) (fun R1 y1 σ =>
    og (anil y1.1) fun v8 =>
    og (fldA 1 v8) fun v9 =>
    og (lod v9 σ) fun v10 =>
    og (lenS v10) fun v11 =>
    og (ibin .lss y1.2.2.1 v11) fun v12 =>
    apick v12 (
      og (anil y1.1) fun v16 =>
      og (fldA 1 v16) fun v17 =>
      og (lod v17 σ) fun v18 =>
      og (idx 7 v18 y1.2.2.1 σ) fun v20 =>
      acall TP fn_spec_l9Target [v20] σ (onr (fun v21 σ =>
      og (ibin .eql v21 y1.2.1) fun v23 =>
      apick v23 (
        aret (.val (.bool true)) σ R) (
        og (ibin .add y1.2.2.1 (.val (.int .i64 1))) fun v14 =>
        R1 (y1.1, y1.2.1, v14, ()) σ)) (fun v σ => apan v σ R))) (
      aret (.val (.bool false)) σ R)) (a0, a1, (.val (.int .i64 0)), ()) σ
def x68 : Sx := .lp [0, 1, 5] (.og (.anil (.var 0)) (.og (.fldA 1 (.var 0)) (.og (.lod (.var 0)) (.og (.lenS (.var 0)) (.og (.ibin .lss (.var 6) (.var 0)) (.apick (.var 0) (.og (.anil (.var 5)) (.og (.fldA 1 (.var 0)) (.og (.lod (.var 0)) (.og (.idx 7 (.var 0) (.var 10)) (.call 75 [(.var 0)] (.og (.ibin .eql (.var 0) (.var 11)) (.apick (.var 0) (.ret (.lit (.val (.bool true)))) (.og (.ibin .add (.var 13) (.lit (.val (.int .i64 1)))) (.jump 0 [(.var 12), (.var 13), (.var 0)]))))))))) (.ret (.lit (.val (.bool false)))))))))) [(.var 1), (.var 0), (.lit (.val (.int .i64 0)))]
set_option maxRecDepth 1000000 in
theorem x68_ok : okF TT Tryz.f68 2 x68 = true := by decide +kernel
set_option maxRecDepth 1000000 in
theorem s_spec_l9IsTarget_ok {a0 a1 : AV} {σ : AH} {R : AEnd → AH → Prop} (h : s_spec_l9IsTarget a0 a1 σ R) : acall TP fn_spec_l9IsTarget [a0, a1] σ R :=
  acall_okF (ρ := [a1, a0]) TT_ok Tryz.func68 rfl x68 x68_ok rfl h

/-- loop.example/g00349/spec.l11Two -/
def s_spec_l11Two (a0 a1 a2 : AV) (σ : AH) (R : AEnd → AH → Prop) : Prop :=
  new [(.val (.int .i64 0)), (.val (.int .i64 0)), (.val (.int .i64 0)), (.val (.int .i64 0)), (.val (.int .i64 0)), (.val (.string ⟨#[]⟩)), (.val (.slice none 0 0))] σ fun v6 σ =>
  og (anil a0) fun v10 =>
  og (fldA 0 v10) fun v11 =>
  og (lod v11 σ) fun v12 =>
  og (ibin .eql v12 (.val (.int .i64 1))) fun v13 =>
  og (gval v13 true false (some a1)) fun v15 =>
  og (gval v13 true false (anil v15)) fun v16 =>
  og (gval v13 true false (fldA 0 v16)) fun v17 =>
  og (gval v13 true false (lod v17 σ)) fun v18 =>
  og (gval v13 true false (ibin .eql v18 (.val (.int .i64 12)))) fun v19 =>
  og (pickV v13 v19 (.val (.bool false))) fun v20 =>
  apick v20 (
    og (anil a0) fun v22 =>
    og (fldA 6 v22) fun v23 =>
    og (lod v23 σ) fun v24 =>
    og (bld [(.val (.int .i64 0)), (.val (.int .i64 0)), (.val (.int .i64 0)), (.val (.int .i64 0)), (.val (.int .i64 0)), (.val (.string ⟨#[]⟩)), (.val (.slice none 0 0))] [(0, 1), (1, 1), (2, 1), (3, 1), (4, 1), (5, 1), (6, 1)] [(0, (.val (.int .i64 13))), (6, v24)]) fun v25 =>
    acall TP fn_spec_l11Has [a2, (.val (.int .i64 1))] σ (onr (fun v27 σ =>
    (lod v23 σ = some v24 ∧ True) ∧
    sto 7 v6 v25 σ fun σ =>
    (True) ∧
    og (lodA 7 v6 σ) fun r6 =>
    aret (.tup [r6, v27]) σ R) (fun v σ => apan v σ R))) (
    og (anil a0) fun v30 =>
    og (fldA 0 v30) fun v31 =>
    og (lod v31 σ) fun v32 =>
    og (ibin .eql v32 (.val (.int .i64 2))) fun v33 =>
    og (gval v33 true false (some a1)) fun v35 =>
    og (gval v33 true false (anil v35)) fun v36 =>
    og (gval v33 true false (fldA 0 v36)) fun v37 =>
    og (gval v33 true false (lod v37 σ)) fun v38 =>
    og (gval v33 true false (ibin .eql v38 (.val (.int .i64 12)))) fun v39 =>
    og (pickV v33 v39 (.val (.bool false))) fun v40 =>
    apick v40 (
      og (anil a0) fun v42 =>
      og (fldA 1 v42) fun v43 =>
      og (lod v43 σ) fun v44 =>
      og (anil a0) fun v46 =>
      og (fldA 2 v46) fun v47 =>
      og (lod v47 σ) fun v48 =>
      og (bld [(.val (.int .i64 0)), (.val (.int .i64 0)), (.val (.int .i64 0)), (.val (.int .i64 0)), (.val (.int .i64 0)), (.val (.string ⟨#[]⟩)), (.val (.slice none 0 0))] [(0, 1), (1, 1), (2, 1), (3, 1), (4, 1), (5, 1), (6, 1)] [(0, (.val (.int .i64 14))), (1, v44), (2, v48)]) fun v49 =>
      acall TP fn_spec_l11Has [a2, (.val (.int .i64 2))] σ (onr (fun v51 σ =>
      (lod v47 σ = some v48 ∧ lod v43 σ = some v44 ∧ True) ∧
      sto 7 v6 v49 σ fun σ =>
      (True) ∧
      og (lodA 7 v6 σ) fun r6 =>
      aret (.tup [r6, v51]) σ R) (fun v σ => apan v σ R))) (
      og (anil a0) fun v54 =>
      og (fldA 0 v54) fun v55 =>
      og (lod v55 σ) fun v56 =>
      og (ibin .eql v56 (.val (.int .i64 2))) fun v57 =>
      og (gval v57 true false (some a1)) fun v59 =>
      og (gval v57 true false (anil v59)) fun v60 =>
      og (gval v57 true false (fldA 0 v60)) fun v61 =>
      og (gval v57 true false (lod v61 σ)) fun v62 =>
      og (gval v57 true false (ibin .eql v62 (.val (.int .i64 2)))) fun v63 =>
      og (pickV v57 v63 (.val (.bool false))) fun v64 =>
      apick v64 (
        og (anil a0) fun v66 =>
        og (fldA 1 v66) fun v67 =>
        og (lod v67 σ) fun v68 =>
        og (anil a0) fun v70 =>
        og (fldA 2 v70) fun v71 =>
        og (lod v71 σ) fun v72 =>
        og (anil a1) fun v74 =>
        og (fldA 1 v74) fun v75 =>
        og (lod v75 σ) fun v76 =>
        og (anil a1) fun v78 =>
        og (fldA 2 v78) fun v79 =>
        og (lod v79 σ) fun v80 =>
        og (bld [(.val (.int .i64 0)), (.val (.int .i64 0)), (.val (.int .i64 0)), (.val (.int .i64 0)), (.val (.int .i64 0)), (.val (.string ⟨#[]⟩)), (.val (.slice none 0 0))] [(0, 1), (1, 1), (2, 1), (3, 1), (4, 1), (5, 1), (6, 1)] [(0, (.val (.int .i64 15))), (1, v68), (2, v72), (3, v76), (4, v80)]) fun v81 =>
        acall TP fn_spec_l11Has [a2, (.val (.int .i64 4))] σ (onr (fun v83 σ =>
        (lod v79 σ = some v80 ∧ lod v75 σ = some v76 ∧ lod v71 σ = some v72 ∧ lod v67 σ = some v68 ∧ True) ∧
        sto 7 v6 v81 σ fun σ =>
        (True) ∧
        og (lodA 7 v6 σ) fun r6 =>
        aret (.tup [r6, v83]) σ R) (fun v σ => apan v σ R))) (
        og (anil a0) fun v86 =>
        og (fldA 0 v86) fun v87 =>
        og (lod v87 σ) fun v88 =>
        og (ibin .eql v88 (.val (.int .i64 2))) fun v89 =>
        og (gval v89 true false (some a1)) fun v91 =>
        og (gval v89 true false (anil v91)) fun v92 =>
        og (gval v89 true false (fldA 0 v92)) fun v93 =>
        og (gval v89 true false (lod v93 σ)) fun v94 =>
        og (gval v89 true false (ibin .eql v94 (.val (.int .i64 6)))) fun v95 =>
        og (pickV v89 v95 (.val (.bool false))) fun v96 =>
        apick v96 (
          og (anil a0) fun v98 =>
          og (fldA 1 v98) fun v99 =>
          og (lod v99 σ) fun v100 =>
          og (anil a0) fun v102 =>
          og (fldA 2 v102) fun v103 =>
          og (lod v103 σ) fun v104 =>
          og (anil a1) fun v106 =>
          og (fldA 1 v106) fun v107 =>
          og (lod v107 σ) fun v108 =>
          og (bld [(.val (.int .i64 0)), (.val (.int .i64 0)), (.val (.int .i64 0)), (.val (.int .i64 0)), (.val (.int .i64 0)), (.val (.string ⟨#[]⟩)), (.val (.slice none 0 0))] [(0, 1), (1, 1), (2, 1), (3, 1), (4, 1), (5, 1), (6, 1)] [(0, (.val (.int .i64 16))), (1, v100), (2, v104), (3, v108)]) fun v109 =>
          acall TP fn_spec_l11Has [a2, (.val (.int .i64 8))] σ (onr (fun v111 σ =>
          (lod v107 σ = some v108 ∧ lod v103 σ = some v104 ∧ lod v99 σ = some v100 ∧ True) ∧
          sto 7 v6 v109 σ fun σ =>
          (True) ∧
          og (lodA 7 v6 σ) fun r6 =>
          aret (.tup [r6, v111]) σ R) (fun v σ => apan v σ R))) (
          og (bld [(.val (.int .i64 0)), (.val (.int .i64 0)), (.val (.int .i64 0)), (.val (.int .i64 0)), (.val (.int .i64 0)), (.val (.string ⟨#[]⟩)), (.val (.slice none 0 0))] [(0, 1), (1, 1), (2, 1), (3, 1), (4, 1), (5, 1), (6, 1)] []) fun v112 =>
          sto 7 v6 v112 σ fun σ =>
          og (lodA 7 v6 σ) fun r6 =>
          aret (.tup [r6, (.val (.bool false))]) σ R))))
def x69 : Sx := .new [(.val (.int .i64 0)), (.val (.int .i64 0)), (.val (.int .i64 0)), (.val (.int .i64 0)), (.val (.int .i64 0)), (.val (.string ⟨#[]⟩)), (.val (.slice none 0 0))] (.og (.anil (.var 3)) (.og (.fldA 0 (.var 0)) (.og (.lod (.var 0)) (.og (.ibin .eql (.var 0) (.lit (.val (.int .i64 1)))) (.gog (.var 0) true false (.ret (.var 6)) (.gog (.var 1) true false (.anil (.var 0)) (.gog (.var 2) true false (.fldA 0 (.var 0)) (.gog (.var 3) true false (.lod (.var 0)) (.gog (.var 4) true false (.ibin .eql (.var 0) (.lit (.val (.int .i64 12)))) (.og (.pickV (.var 5) (.var 0) (.lit (.val (.bool false)))) (.apick (.var 0) (.ord [0, 1, 2, 3, 4, 5, 6, 7, 8] [0, 1, 3, 7, 15, 0, 32, 127, 255] (.og (.anil (.var 13)) (.og (.fldA 6 (.var 0)) (.og (.lod (.var 0)) (.og (.bld [(.val (.int .i64 0)), (.val (.int .i64 0)), (.val (.int .i64 0)), (.val (.int .i64 0)), (.val (.int .i64 0)), (.val (.string ⟨#[]⟩)), (.val (.slice none 0 0))] [(0, 1), (1, 1), (2, 1), (3, 1), (4, 1), (5, 1), (6, 1)] [(0, (.lit (.val (.int .i64 13)))), (6, (.var 0))]) (.call 80 [(.var 15), (.lit (.val (.int .i64 1)))] (.wat [⟨none, (.lod (.var 3)), (.var 2)⟩] (.sto 7 (.var 15) (.var 1) (.wat [] (.og (.lodA 7 (.var 15)) (.rets [(.var 0), (.var 1)]))))))))))) (.og (.anil (.var 13)) (.og (.fldA 0 (.var 0)) (.og (.lod (.var 0)) (.og (.ibin .eql (.var 0) (.lit (.val (.int .i64 2)))) (.gog (.var 0) true false (.ret (.var 16)) (.gog (.var 1) true false (.anil (.var 0)) (.gog (.var 2) true false (.fldA 0 (.var 0)) (.gog (.var 3) true false (.lod (.var 0)) (.gog (.var 4) true false (.ibin .eql (.var 0) (.lit (.val (.int .i64 12)))) (.og (.pickV (.var 5) (.var 0) (.lit (.val (.bool false)))) (.apick (.var 0) (.ord [0, 1, 2, 3, 4, 5, 6, 7, 8, 9, 10, 11, 12] [0, 1, 3, 7, 0, 16, 48, 112, 255, 0, 512, 2047, 4095] (.og (.anil (.var 23)) (.og (.fldA 1 (.var 0)) (.og (.lod (.var 0)) (.og (.anil (.var 26)) (.og (.fldA 2 (.var 0)) (.og (.lod (.var 0)) (.og (.bld [(.val (.int .i64 0)), (.val (.int .i64 0)), (.val (.int .i64 0)), (.val (.int .i64 0)), (.val (.int .i64 0)), (.val (.string ⟨#[]⟩)), (.val (.slice none 0 0))] [(0, 1), (1, 1), (2, 1), (3, 1), (4, 1), (5, 1), (6, 1)] [(0, (.lit (.val (.int .i64 14)))), (1, (.var 3)), (2, (.var 0))]) (.call 80 [(.var 28), (.lit (.val (.int .i64 2)))] (.wat [⟨none, (.lod (.var 3)), (.var 2)⟩, ⟨none, (.lod (.var 6)), (.var 5)⟩] (.sto 7 (.var 28) (.var 1) (.wat [] (.og (.lodA 7 (.var 28)) (.rets [(.var 0), (.var 1)])))))))))))))) (.og (.anil (.var 23)) (.og (.fldA 0 (.var 0)) (.og (.lod (.var 0)) (.og (.ibin .eql (.var 0) (.lit (.val (.int .i64 2)))) (.gog (.var 0) true false (.ret (.var 26)) (.gog (.var 1) true false (.anil (.var 0)) (.gog (.var 2) true false (.fldA 0 (.var 0)) (.gog (.var 3) true false (.lod (.var 0)) (.gog (.var 4) true false (.ibin .eql (.var 0) (.lit (.val (.int .i64 2)))) (.og (.pickV (.var 5) (.var 0) (.lit (.val (.bool false)))) (.apick (.var 0) (.ord [0, 1, 2, 3, 4, 5, 6, 7, 8, 9, 10, 11, 12, 13, 14, 15, 16, 17, 18, 19, 20] [0, 1, 3, 7, 0, 16, 48, 112, 0, 256, 768, 1792, 0, 4096, 12288, 28672, 65535, 0, 131072, 524287, 1048575] (.og (.anil (.var 33)) (.og (.fldA 1 (.var 0)) (.og (.lod (.var 0)) (.og (.anil (.var 36)) (.og (.fldA 2 (.var 0)) (.og (.lod (.var 0)) (.og (.anil (.var 38)) (.og (.fldA 1 (.var 0)) (.og (.lod (.var 0)) (.og (.anil (.var 41)) (.og (.fldA 2 (.var 0)) (.og (.lod (.var 0)) (.og (.bld [(.val (.int .i64 0)), (.val (.int .i64 0)), (.val (.int .i64 0)), (.val (.int .i64 0)), (.val (.int .i64 0)), (.val (.string ⟨#[]⟩)), (.val (.slice none 0 0))] [(0, 1), (1, 1), (2, 1), (3, 1), (4, 1), (5, 1), (6, 1)] [(0, (.lit (.val (.int .i64 15)))), (1, (.var 9)), (2, (.var 6)), (3, (.var 3)), (4, (.var 0))]) (.call 80 [(.var 44), (.lit (.val (.int .i64 4)))] (.wat [⟨none, (.lod (.var 3)), (.var 2)⟩, ⟨none, (.lod (.var 6)), (.var 5)⟩, ⟨none, (.lod (.var 9)), (.var 8)⟩, ⟨none, (.lod (.var 12)), (.var 11)⟩] (.sto 7 (.var 44) (.var 1) (.wat [] (.og (.lodA 7 (.var 44)) (.rets [(.var 0), (.var 1)])))))))))))))))))))) (.og (.anil (.var 33)) (.og (.fldA 0 (.var 0)) (.og (.lod (.var 0)) (.og (.ibin .eql (.var 0) (.lit (.val (.int .i64 2)))) (.gog (.var 0) true false (.ret (.var 36)) (.gog (.var 1) true false (.anil (.var 0)) (.gog (.var 2) true false (.fldA 0 (.var 0)) (.gog (.var 3) true false (.lod (.var 0)) (.gog (.var 4) true false (.ibin .eql (.var 0) (.lit (.val (.int .i64 6)))) (.og (.pickV (.var 5) (.var 0) (.lit (.val (.bool false)))) (.apick (.var 0) (.ord [0, 1, 2, 3, 4, 5, 6, 7, 8, 9, 10, 11, 12, 13, 14, 15, 16] [0, 1, 3, 7, 0, 16, 48, 112, 0, 256, 768, 1792, 4095, 0, 8192, 32767, 65535] (.og (.anil (.var 43)) (.og (.fldA 1 (.var 0)) (.og (.lod (.var 0)) (.og (.anil (.var 46)) (.og (.fldA 2 (.var 0)) (.og (.lod (.var 0)) (.og (.anil (.var 48)) (.og (.fldA 1 (.var 0)) (.og (.lod (.var 0)) (.og (.bld [(.val (.int .i64 0)), (.val (.int .i64 0)), (.val (.int .i64 0)), (.val (.int .i64 0)), (.val (.int .i64 0)), (.val (.string ⟨#[]⟩)), (.val (.slice none 0 0))] [(0, 1), (1, 1), (2, 1), (3, 1), (4, 1), (5, 1), (6, 1)] [(0, (.lit (.val (.int .i64 16)))), (1, (.var 6)), (2, (.var 3)), (3, (.var 0))]) (.call 80 [(.var 51), (.lit (.val (.int .i64 8)))] (.wat [⟨none, (.lod (.var 3)), (.var 2)⟩, ⟨none, (.lod (.var 6)), (.var 5)⟩, ⟨none, (.lod (.var 9)), (.var 8)⟩] (.sto 7 (.var 51) (.var 1) (.wat [] (.og (.lodA 7 (.var 51)) (.rets [(.var 0), (.var 1)]))))))))))))))))) (.og (.bld [(.val (.int .i64 0)), (.val (.int .i64 0)), (.val (.int .i64 0)), (.val (.int .i64 0)), (.val (.int .i64 0)), (.val (.string ⟨#[]⟩)), (.val (.slice none 0 0))] [(0, 1), (1, 1), (2, 1), (3, 1), (4, 1), (5, 1), (6, 1)] []) (.sto 7 (.var 41) (.var 0) (.og (.lodA 7 (.var 41)) (.rets [(.var 0), (.lit (.val (.bool false)))]))))))))))))))))))))))))))))))))))))))))))))))))
set_option maxRecDepth 1000000 in
theorem x69_ok : okF TT Tryz.f69 3 x69 = true := by decide +kernel
set_option maxRecDepth 1000000 in
theorem s_spec_l11Two_ok {a0 a1 a2 : AV} {σ : AH} {R : AEnd → AH → Prop} (h : s_spec_l11Two a0 a1 a2 σ R) : acall TP fn_spec_l11Two [a0, a1, a2] σ R :=
  acall_okF (ρ := [a2, a1, a0]) TT_ok Tryz.func69 rfl x69 x69_ok rfl h

/-- slices.Index[[]int64,int64] -/
def s_slices_Index (a0 a1 : AV) (σ : AH) (R : AEnd → AH → Prop) : Prop :=
  og (lenS a0) fun v7 =>
  lp (X := Tup [0, 1, 7, 8]) (fun R1 y1 σ =>
    og (ibin .lss y1.2.2.2.1 y1.2.2.1) fun v9 =>
    apick v9 (
      og (idx 1 y1.1 y1.2.2.2.1 σ) fun v14 =>
      og (lod v14 σ) fun v15 =>
      og (ibin .eql y1.2.1 v15) fun v16 =>
      apick v16 (
        aret y1.2.2.2.1 σ R) (
        og (ibin .add y1.2.2.2.1 (.val (.int .i64 1))) fun v18 =>
        R1 (y1.1, y1.2.1, y1.2.2.1, v18, ()) σ)) (
      aret (.val (.int .i64 (-1))) σ R)) (a0, a1, v7, (.val (.int .i64 0)), ()) σ
def x72 : Sx := .og (.lenS (.var 1)) (.lp [0, 1, 7, 8] (.og (.ibin .lss (.var 3) (.var 2)) (.apick (.var 0) (.og (.idx 1 (.var 1) (.var 4)) (.og (.lod (.var 0)) (.og (.ibin .eql (.var 4) (.var 0)) (.apick (.var 0) (.ret (.var 7)) (.og (.ibin .add (.var 7) (.lit (.val (.int .i64 1)))) (.jump 0 [(.var 5), (.var 6), (.var 7), (.var 0)])))))) (.ret (.lit (.val (.int .i64 (-1))))))) [(.var 2), (.var 1), (.var 0), (.lit (.val (.int .i64 0)))])
set_option maxRecDepth 1000000 in
theorem x72_ok : okF TT Tryz.f72 2 x72 = true := by decide +kernel
set_option maxRecDepth 1000000 in
theorem s_slices_Index_ok {a0 a1 : AV} {σ : AH} {R : AEnd → AH → Prop} (h : s_slices_Index a0 a1 σ R) : acall TP fn_slices_Index [a0, a1] σ R :=
  acall_okF (ρ := [a1, a0]) TT_ok Tryz.func72 rfl x72 x72_ok rfl h

/-- loop.example/g00349/laws.szDatumS -/
def s_laws_szDatumS (a0 a1 : AV) (σ : AH) (R : AEnd → AH → Prop) : Prop :=
  og (lenS a0) fun v8 =>
  og (ibin .sub a1 v8) fun v9 =>
  og (ibin .lss v9 (.val (.int .i64 0))) fun v11 =>
  apick v11 (
    aret (.val (.int .i64 (-1))) σ R) (
    lp (X := Tup [0, 1, 5]) (fun R1 y1 σ =>
      og (lenS y1.1) fun v14 =>
      og (ibin .lss y1.2.2.1 v14) fun v15 =>
      apick v15 (
        og (idx 4 y1.1 y1.2.2.1 σ) fun v20 =>
        og (lodA 4 v20 σ) fun v21 =>
        acall TP fn_laws_szDatum [v21, y1.2.1] σ (onr (fun v23 σ =>
        og (ibin .lss v23 (.val (.int .i64 0))) fun v25 =>
        apick v25 (
          aret (.val (.int .i64 (-1))) σ R) (
          og (ibin .add y1.2.2.1 (.val (.int .i64 1))) fun v17 =>
          R1 (y1.1, v23, v17, ()) σ)) (fun v σ => apan v σ R))) (
        aret y1.2.1 σ R)) (a0, v9, (.val (.int .i64 0)), ()) σ)
def x73 : Sx := .og (.lenS (.var 1)) (.og (.ibin .sub (.var 1) (.var 0)) (.og (.ibin .lss (.var 0) (.lit (.val (.int .i64 0)))) (.apick (.var 0) (.ret (.lit (.val (.int .i64 (-1))))) (.lp [0, 1, 5] (.og (.lenS (.var 0)) (.og (.ibin .lss (.var 3) (.var 0)) (.apick (.var 0) (.og (.idx 4 (.var 2) (.var 4)) (.og (.lodA 4 (.var 0)) (.call 83 [(.var 0), (.var 5)] (.og (.ibin .lss (.var 0) (.lit (.val (.int .i64 0)))) (.apick (.var 0) (.ret (.lit (.val (.int .i64 (-1))))) (.og (.ibin .add (.var 8) (.lit (.val (.int .i64 1)))) (.jump 0 [(.var 7), (.var 2), (.var 0)]))))))) (.ret (.var 3))))) [(.var 4), (.var 1), (.lit (.val (.int .i64 0)))]))))
set_option maxRecDepth 1000000 in
theorem x73_ok : okF TT Tryz.f73 2 x73 = true := by decide +kernel
set_option maxRecDepth 1000000 in
theorem s_laws_szDatumS_ok {a0 a1 : AV} {σ : AH} {R : AEnd → AH → Prop} (h : s_laws_szDatumS a0 a1 σ R) : acall TP fn_laws_szDatumS [a0, a1] σ R :=
  acall_okF (ρ := [a1, a0]) TT_ok Tryz.func73 rfl x73 x73_ok rfl h

/-- loop.example/g00349/spec.l9Op -/
def s_spec_l9Op (a0 : AV) (σ : AH) (R : AEnd → AH → Prop) : Prop :=
  og (anil a0) fun v7 =>
  og (fldA 0 v7) fun v8 =>
  og (lod v8 σ) fun v9 =>
  acall TP fn_spec_l1In [v9, (.val (.int .i64 1)), (.val (.int .i64 16))] σ (onr (fun v10 σ =>
  og (aun .not v10) fun v11 =>
  apick v11 (
    aret (.val (.int .i64 1)) σ R) (
    acall TP fn_spec_l9All [a0] σ (onr (fun v13 σ =>
    og (anil a0) fun v15 =>
    og (fldA 0 v15) fun v16 =>
    og (lod v16 σ) fun v17 =>
    acall TP fn_spec_l9Nums [v17] σ (onr (fun v18 σ =>
    lp (X := Tup [0, 3, 4]) (fun R1 y1 σ =>
      og (ibin .lss y1.2.2.1 (.val (.int .i64 4))) fun v20 =>
      apick v20 (
        og (idx 1 y1.2.1 y1.2.2.1 σ) fun v25 =>
        og (lod v25 σ) fun v26 =>
        og (ibin .neq v26 (.val (.int .i64 0))) fun v27 =>
        apick v27 (
          aret (.val (.int .i64 1)) σ R) (
          og (ibin .add y1.2.2.1 (.val (.int .i64 1))) fun v22 =>
          R1 (y1.1, y1.2.1, v22, ()) σ)) (
        jn (X := Tup [0, 3, 56]) (fun x2 σ =>
            apick x2.2.2.1 (
              aret (.val (.int .i64 1)) σ R) (
              lp (X := Tup [0, 3, 5]) (fun R3 y3 σ =>
                og (ibin .lss y3.2.2.1 (.val (.int .i64 4))) fun v58 =>
                apick v58 (
                  og (idx 1 y3.2.1 y3.2.2.1 σ) fun v63 =>
                  og (lod v63 σ) fun v64 =>
                  acall TP fn_spec_l1In [v64, (.val (.int .i64 0)), (.val (.int .i64 999))] σ (onr (fun v65 σ =>
                  og (aun .not v65) fun v66 =>
                  apick v66 (
                    aret (.val (.int .i64 3)) σ R) (
                    og (ibin .add y3.2.2.1 (.val (.int .i64 1))) fun v60 =>
                    R3 (y3.1, y3.2.1, v60, ()) σ)) (fun v σ => apan v σ R))) (
                  og (anil y3.1) fun v68 =>
                  og (fldA 0 v68) fun v69 =>
                  og (lod v69 σ) fun v70 =>
                  og (ibin .eql v70 (.val (.int .i64 10))) fun v71 =>
                  og (gval v71 false false (some y3.1)) fun v73 =>
                  og (gval v71 false false (anil v73)) fun v74 =>
                  og (gval v71 false false (fldA 0 v74)) fun v75 =>
                  og (gval v71 false false (lod v75 σ)) fun v76 =>
                  og (gval v71 false false (ibin .eql v76 (.val (.int .i64 11)))) fun v77 =>
                  og (pickV v71 (.val (.bool true)) v77) fun v78 =>
                  og (gval v78 true false (some y3.1)) fun v80 =>
                  og (gval v78 true false (anil v80)) fun v81 =>
                  og (gval v78 true false (fldA 1 v81)) fun v82 =>
                  og (gval v78 true false (lod v82 σ)) fun v83 =>
                  og (gval v78 true false (ibin .gtr v83 (.val (.int .i64 3)))) fun v84 =>
                  og (pickV v78 v84 (.val (.bool false))) fun v85 =>
                  apick v85 (
                    aret (.val (.int .i64 3)) σ R) (
                    jn (X := Tup [0, 98]) (fun x4 σ =>
                        apick x4.2.1 (
                          aret (.val (.int .i64 5)) σ R) (
                          og (anil x4.1) fun v100 =>
                          og (fldA 0 v100) fun v101 =>
                          og (lod v101 σ) fun v102 =>
                          acall TP fn_spec_l9Const [v102] σ (onr (fun v103 σ =>
                          apick v103 (
                            og (anil x4.1) fun v105 =>
                            og (fldA 6 v105) fun v106 =>
                            og (lod v106 σ) fun v107 =>
                            acall TP fn_spec_l3Fault [v107] σ (onr (fun v108 σ =>
                            aret v108 σ R) (fun v σ => apan v σ R))) (
                            aret (.val (.int .i64 0)) σ R)) (fun v σ => apan v σ R)))) fun k4 =>
                      og (anil y3.1) fun v87 =>
                      og (fldA 0 v87) fun v88 =>
                      og (lod v88 σ) fun v89 =>
                      acall TP fn_spec_l9Named [v89] σ (onr (fun v90 σ =>
                      og (gval v90 true false (some y3.1)) fun v92 =>
                      og (gval v90 true false (anil v92)) fun v93 =>
                      og (gval v90 true false (fldA 5 v93)) fun v94 =>
                      og (gval v90 true false (lod v94 σ)) fun v95 =>
                      gpick v90 (
                        acall TP fn_spec_l2Sym [v95] σ (onr (fun v96 σ =>
                        og (aun .not v96) fun v97 =>
                        k4 (y3.1, v97, ()) σ) (fun v σ => apan v σ R))) (
                        k4 (y3.1, (.val (.bool false)), ()) σ) (False)) (fun v σ => apan v σ R))))) (x2.1, x2.2.1, (.val (.int .i64 0)), ()) σ)) fun k2 =>
          og (anil y1.1) fun v29 =>
          og (fldA 0 v29) fun v30 =>
          og (lod v30 σ) fun v31 =>
          acall TP fn_spec_l9Named [v31] σ (onr (fun v32 σ =>
          og (aun .not v32) fun v33 =>
          og (gval v33 true false (some y1.1)) fun v35 =>
          og (gval v33 true false (anil v35)) fun v36 =>
          og (gval v33 true false (fldA 5 v36)) fun v37 =>
          og (gval v33 true false (lod v37 σ)) fun v38 =>
          og (gval v33 true false (sbin .neq v38 (.val (.string ⟨#[]⟩)))) fun v39 =>
          og (pickV v33 v39 (.val (.bool false))) fun v40 =>
          og (gval v40 false false (some y1.1)) fun v42 =>
          og (gval v40 false false (anil v42)) fun v43 =>
          og (gval v40 false false (fldA 0 v43)) fun v44 =>
          og (gval v40 false false (lod v44 σ)) fun v45 =>
          gpick v40 (
            k2 (y1.1, y1.2.1, (.val (.bool true)), ()) σ) (
            acall TP fn_spec_l9Const [v45] σ (onr (fun v46 σ =>
            og (aun .not v46) fun v47 =>
            og (gval v47 true true (some y1.1)) fun v49 =>
            og (gval v47 true true (anil v49)) fun v50 =>
            og (gval v47 true true (fldA 6 v50)) fun v51 =>
            og (gval v47 true true (lod v51 σ)) fun v52 =>
            og (gval v47 true true (lenS v52)) fun v53 =>
            og (gval v47 true true (ibin .gtr v53 (.val (.int .i64 0)))) fun v54 =>
            og (pickV v47 v54 (.val (.bool false))) fun v55 =>
            k2 (y1.1, y1.2.1, v55, ()) σ) (fun v σ => apan v σ R))) (False)) (fun v σ => apan v σ R)))) (a0, v13, v18, ()) σ) (fun v σ => apan v σ R))) (fun v σ => apan v σ R)))) (fun v σ => apan v σ R))
def x74 : Sx := .og (.anil (.var 0)) (.og (.fldA 0 (.var 0)) (.og (.lod (.var 0)) (.call 50 [(.var 0), (.lit (.val (.int .i64 1))), (.lit (.val (.int .i64 16)))] (.og (.aun .not (.var 0)) (.apick (.var 0) (.ret (.lit (.val (.int .i64 1)))) (.call 84 [(.var 5)] (.og (.anil (.var 6)) (.og (.fldA 0 (.var 0)) (.og (.lod (.var 0)) (.call 85 [(.var 0)] (.lp [0, 3, 4] (.og (.ibin .lss (.var 2) (.lit (.val (.int .i64 4)))) (.apick (.var 0) (.og (.idx 1 (.var 2) (.var 3)) (.og (.lod (.var 0)) (.og (.ibin .neq (.var 0) (.lit (.val (.int .i64 0)))) (.apick (.var 0) (.ret (.lit (.val (.int .i64 1)))) (.og (.ibin .add (.var 6) (.lit (.val (.int .i64 1)))) (.jump 0 [(.var 5), (.var 6), (.var 0)])))))) (.jn 125 [0, 3, 56] (.apick (.var 2) (.ret (.lit (.val (.int .i64 1)))) (.lp [0, 3, 5] (.og (.ibin .lss (.var 2) (.lit (.val (.int .i64 4)))) (.apick (.var 0) (.og (.idx 1 (.var 2) (.var 3)) (.og (.lod (.var 0)) (.call 50 [(.var 0), (.lit (.val (.int .i64 0))), (.lit (.val (.int .i64 999)))] (.og (.aun .not (.var 0)) (.apick (.var 0) (.ret (.lit (.val (.int .i64 3)))) (.og (.ibin .add (.var 7) (.lit (.val (.int .i64 1)))) (.jump 0 [(.var 6), (.var 7), (.var 0)]))))))) (.og (.anil (.var 1)) (.og (.fldA 0 (.var 0)) (.og (.lod (.var 0)) (.og (.ibin .eql (.var 0) (.lit (.val (.int .i64 10)))) (.gog (.var 0) false false (.ret (.var 5)) (.gog (.var 1) false false (.anil (.var 0)) (.gog (.var 2) false false (.fldA 0 (.var 0)) (.gog (.var 3) false false (.lod (.var 0)) (.gog (.var 4) false false (.ibin .eql (.var 0) (.lit (.val (.int .i64 11)))) (.og (.pickV (.var 5) (.lit (.val (.bool true))) (.var 0)) (.gog (.var 0) true false (.ret (.var 11)) (.gog (.var 1) true false (.anil (.var 0)) (.gog (.var 2) true false (.fldA 1 (.var 0)) (.gog (.var 3) true false (.lod (.var 0)) (.gog (.var 4) true false (.ibin .gtr (.var 0) (.lit (.val (.int .i64 3)))) (.og (.pickV (.var 5) (.var 0) (.lit (.val (.bool false)))) (.apick (.var 0) (.ret (.lit (.val (.int .i64 3)))) (.jn 1021 [0, 98] (.apick (.var 1) (.ret (.lit (.val (.int .i64 5)))) (.og (.anil (.var 0)) (.og (.fldA 0 (.var 0)) (.og (.lod (.var 0)) (.call 87 [(.var 0)] (.apick (.var 0) (.og (.anil (.var 4)) (.og (.fldA 6 (.var 0)) (.og (.lod (.var 0)) (.call 89 [(.var 0)] (.ret (.var 0)))))) (.ret (.lit (.val (.int .i64 0)))))))))) (.og (.anil (.var 17)) (.og (.fldA 0 (.var 0)) (.og (.lod (.var 0)) (.call 86 [(.var 0)] (.gog (.var 0) true false (.ret (.var 21)) (.gog (.var 1) true false (.anil (.var 0)) (.gog (.var 2) true false (.fldA 5 (.var 0)) (.gog (.var 3) true false (.lod (.var 0)) (.gpick (.var 4) (.call 88 [(.var 0)] (.og (.aun .not (.var 0)) (.jump 0 [(.var 27), (.var 0)]))) (.jump 0 [(.var 25), (.lit (.val (.bool false)))]) (.no)))))))))))))))))))))))))))))) [(.var 0), (.var 1), (.lit (.val (.int .i64 0)))])) (.og (.anil (.var 1)) (.og (.fldA 0 (.var 0)) (.og (.lod (.var 0)) (.call 86 [(.var 0)] (.og (.aun .not (.var 0)) (.gog (.var 0) true false (.ret (.var 6)) (.gog (.var 1) true false (.anil (.var 0)) (.gog (.var 2) true false (.fldA 5 (.var 0)) (.gog (.var 3) true false (.lod (.var 0)) (.gog (.var 4) true false (.sbin .neq (.var 0) (.lit (.val (.string ⟨#[]⟩)))) (.og (.pickV (.var 5) (.var 0) (.lit (.val (.bool false)))) (.gog (.var 0) false false (.ret (.var 12)) (.gog (.var 1) false false (.anil (.var 0)) (.gog (.var 2) false false (.fldA 0 (.var 0)) (.gog (.var 3) false false (.lod (.var 0)) (.gpick (.var 4) (.jump 0 [(.var 16), (.var 17), (.lit (.val (.bool true)))]) (.call 87 [(.var 0)] (.og (.aun .not (.var 0)) (.gog (.var 0) true true (.ret (.var 18)) (.gog (.var 1) true true (.anil (.var 0)) (.gog (.var 2) true true (.fldA 6 (.var 0)) (.gog (.var 3) true true (.lod (.var 0)) (.gog (.var 4) true true (.lenS (.var 0)) (.gog (.var 5) true true (.ibin .gtr (.var 0) (.lit (.val (.int .i64 0)))) (.og (.pickV (.var 6) (.var 0) (.lit (.val (.bool false)))) (.jump 0 [(.var 25), (.var 26), (.var 0)])))))))))) (.no)))))))))))))))))))) [(.var 10), (.var 4), (.var 0)])))))))))))
set_option maxRecDepth 1000000 in
theorem x74_ok : okF TT Tryz.f74 1 x74 = true := by decide +kernel
set_option maxRecDepth 1000000 in
theorem s_spec_l9Op_ok {a0 : AV} {σ : AH} {R : AEnd → AH → Prop} (h : s_spec_l9Op a0 σ R) : acall TP fn_spec_l9Op [a0] σ R :=
  acall_okF (ρ := [a0]) TT_ok Tryz.func74 rfl x74 x74_ok rfl h

/-- loop.example/g00349/spec.l9Target -/
def s_spec_l9Target (a0 : AV) (σ : AH) (R : AEnd → AH → Prop) : Prop :=
  og (anil a0) fun v4 =>
  og (fldA 0 v4) fun v5 =>
  og (lod v5 σ) fun v6 =>
  jn (X := Tup [0, 6, 7]) (fun x1 σ =>
      apick x1.2.2.1 (
        og (anil x1.1) fun v11 =>
        og (fldA 1 v11) fun v12 =>
        og (lod v12 σ) fun v13 =>
        aret v13 σ R) (
        og (ibin .eql x1.2.1 (.val (.int .i64 16))) fun v15 =>
        apick v15 (
          og (anil x1.1) fun v17 =>
          og (fldA 3 v17) fun v18 =>
          og (lod v18 σ) fun v19 =>
          aret v19 σ R) (
          aret (.val (.int .i64 (-1))) σ R))) fun k1 =>
    og (ibin .eql v6 (.val (.int .i64 5))) fun v8 =>
    apick v8 (
      k1 (a0, v6, v8, ()) σ) (
      og (ibin .eql v6 (.val (.int .i64 6))) fun v9 =>
      k1 (a0, v6, v9, ()) σ)
def x75 : Sx := .og (.anil (.var 0)) (.og (.fldA 0 (.var 0)) (.og (.lod (.var 0)) (.jn 53 [0, 6, 7] (.apick (.var 2) (.og (.anil (.var 0)) (.og (.fldA 1 (.var 0)) (.og (.lod (.var 0)) (.ret (.var 0))))) (.og (.ibin .eql (.var 1) (.lit (.val (.int .i64 16)))) (.apick (.var 0) (.og (.anil (.var 1)) (.og (.fldA 3 (.var 0)) (.og (.lod (.var 0)) (.ret (.var 0))))) (.ret (.lit (.val (.int .i64 (-1)))))))) (.og (.ibin .eql (.var 0) (.lit (.val (.int .i64 5)))) (.apick (.var 0) (.jump 0 [(.var 4), (.var 1), (.var 0)]) (.og (.ibin .eql (.var 1) (.lit (.val (.int .i64 6)))) (.jump 0 [(.var 5), (.var 2), (.var 0)])))))))
set_option maxRecDepth 1000000 in
theorem x75_ok : okF TT Tryz.f75 1 x75 = true := by decide +kernel
set_option maxRecDepth 1000000 in
theorem s_spec_l9Target_ok {a0 : AV} {σ : AH} {R : AEnd → AH → Prop} (h : s_spec_l9Target a0 σ R) : acall TP fn_spec_l9Target [a0] σ R :=
  acall_okF (ρ := [a0]) TT_ok Tryz.func75 rfl x75 x75_ok rfl h

/-- loop.example/g00349/spec.l10Pass -/
def s_spec_l10Pass (a0 a1 : AV) (σ : AH) (R : AEnd → AH → Prop) : Prop :=
  lp (X := Tup [0, 1, 6, 7]) (fun R1 y1 σ =>
    og (anil y1.1) fun v19 =>
    og (fldA 1 v19) fun v20 =>
    og (lod v20 σ) fun v21 =>
    og (lenS v21) fun v22 =>
    og (ibin .lss y1.2.2.2.1 v22) fun v23 =>
    apick v23 (
      jn (X := Tup [0, 1, 6, 7]) (fun x2 σ =>
          og (ibin .add x2.2.2.2.1 (.val (.int .i64 1))) fun v25 =>
          R1 (x2.1, x2.2.1, x2.2.2.1, v25, ()) σ) fun k2 =>
        og (anil y1.1) fun v27 =>
        og (fldA 1 v27) fun v28 =>
        og (lod v28 σ) fun v29 =>
        og (idx 7 v29 y1.2.2.2.1 σ) fun v31 =>
        og (idx 1 y1.2.1 y1.2.2.2.1 σ) fun v34 =>
        og (lod v34 σ) fun v35 =>
        og (ibin .lss v35 (.val (.int .i64 0))) fun v36 =>
        apick v36 (
          k2 (y1.1, y1.2.1, y1.2.2.1, y1.2.2.2.1, ()) σ) (
          og (idx 1 y1.2.1 y1.2.2.2.1 σ) fun v40 =>
          og (lod v40 σ) fun v41 =>
          acall TP fn_spec_l10High [v31, v41] σ (onr (fun v42 σ =>
          og (aun .not v42) fun v43 =>
          apick v43 (
            aret (.tup [(.val (.bool false)), (.val (.bool false))]) σ R) (
            acall TP fn_spec_l10Takes [v31] σ (onr (fun v46 σ =>
            og (aext v46 0) fun v47 =>
            og (aext v46 1) fun v48 =>
            og (idx 1 y1.2.1 y1.2.2.2.1 σ) fun v51 =>
            og (lod v51 σ) fun v52 =>
            og (ibin .sub v52 v47) fun v54 =>
            og (ibin .add v54 v48) fun v56 =>
            jn (X := Tup [0, 1, 6, 7, 8, 11]) (fun x3 σ =>
                acall TP fn_spec_l9Target [x3.2.2.2.2.1] σ (onr (fun v78 σ =>
                og (ibin .geq v78 (.val (.int .i64 0))) fun v80 =>
                apick v80 (
                  acall TP fn_spec_l10Lead [x3.2.1, v78, x3.2.2.2.2.2.1] σ (onr (fun v85 σ =>
                  og (aext v85 0) fun v86 =>
                  og (aext v85 1) fun v87 =>
                  og (aun .not v87) fun v89 =>
                  apick v89 (
                    aret (.tup [(.val (.bool false)), (.val (.bool false))]) σ R) (
                    og (gval x3.2.2.1 false false (some v86)) fun v92 =>
                    og (pickV x3.2.2.1 (.val (.bool true)) v92) fun v93 =>
                    k2 (x3.1, x3.2.1, v93, x3.2.2.2.1, ()) σ)) (fun v σ => apan v σ R))) (
                  k2 (x3.1, x3.2.1, x3.2.2.1, x3.2.2.2.1, ()) σ)) (fun v σ => apan v σ R))) fun k3 =>
              og (anil v31) fun v58 =>
              og (fldA 0 v58) fun v59 =>
              og (lod v59 σ) fun v60 =>
              acall TP fn_spec_l10Ends [v60] σ (onr (fun v61 σ =>
              og (aun .not v61) fun v62 =>
              apick v62 (
                og (ibin .add y1.2.2.2.1 (.val (.int .i64 1))) fun v66 =>
                acall TP fn_spec_l10Lead [y1.2.1, v66, v56] σ (onr (fun v68 σ =>
                og (aext v68 0) fun v69 =>
                og (aext v68 1) fun v70 =>
                og (aun .not v70) fun v72 =>
                apick v72 (
                  aret (.tup [(.val (.bool false)), (.val (.bool false))]) σ R) (
                  og (gval y1.2.2.1 false false (some v69)) fun v75 =>
                  og (pickV y1.2.2.1 (.val (.bool true)) v75) fun v76 =>
                  k3 (y1.1, y1.2.1, v76, y1.2.2.2.1, v31, v56, ()) σ)) (fun v σ => apan v σ R))) (
                k3 (y1.1, y1.2.1, y1.2.2.1, y1.2.2.2.1, v31, v56, ()) σ)) (fun v σ => apan v σ R))) (fun v σ => apan v σ R)))) (fun v σ => apan v σ R)))) (
      aret (.tup [y1.2.2.1, (.val (.bool true))]) σ R)) (a0, a1, (.val (.bool false)), (.val (.int .i64 0)), ()) σ
def x76 : Sx := .lp [0, 1, 6, 7] (.og (.anil (.var 0)) (.og (.fldA 1 (.var 0)) (.og (.lod (.var 0)) (.og (.lenS (.var 0)) (.og (.ibin .lss (.var 7) (.var 0)) (.apick (.var 0) (.jn 467 [0, 1, 6, 7] (.og (.ibin .add (.var 3) (.lit (.val (.int .i64 1)))) (.jump 0 [(.var 1), (.var 2), (.var 3), (.var 0)])) (.og (.anil (.var 5)) (.og (.fldA 1 (.var 0)) (.og (.lod (.var 0)) (.og (.idx 7 (.var 0) (.var 11)) (.og (.idx 1 (.var 10) (.var 12)) (.og (.lod (.var 0)) (.og (.ibin .lss (.var 0) (.lit (.val (.int .i64 0)))) (.apick (.var 0) (.jump 0 [(.var 12), (.var 13), (.var 14), (.var 15)]) (.og (.idx 1 (.var 13) (.var 15)) (.og (.lod (.var 0)) (.call 90 [(.var 5), (.var 0)] (.og (.aun .not (.var 0)) (.apick (.var 0) (.rets [(.lit (.val (.bool false))), (.lit (.val (.bool false)))]) (.call 91 [(.var 7)] (.og (.aext (.var 0) 0) (.og (.aext (.var 1) 1) (.og (.idx 1 (.var 20) (.var 22)) (.og (.lod (.var 0)) (.og (.ibin .sub (.var 0) (.var 3)) (.og (.ibin .add (.var 0) (.var 3)) (.jn 59711 [0, 1, 6, 7, 8, 11] (.call 75 [(.var 4)] (.og (.ibin .geq (.var 0) (.lit (.val (.int .i64 0)))) (.apick (.var 0) (.call 93 [(.var 3), (.var 1), (.var 7)] (.og (.aext (.var 0) 0) (.og (.aext (.var 1) 1) (.og (.aun .not (.var 0)) (.apick (.var 0) (.rets [(.lit (.val (.bool false))), (.lit (.val (.bool false)))]) (.gog (.var 8) false false (.ret (.var 2)) (.og (.pickV (.var 9) (.lit (.val (.bool true))) (.var 0)) (.jump 0 [(.var 8), (.var 9), (.var 0), (.var 11)])))))))) (.jump 0 [(.var 2), (.var 3), (.var 4), (.var 5)])))) (.og (.anil (.var 14)) (.og (.fldA 0 (.var 0)) (.og (.lod (.var 0)) (.call 92 [(.var 0)] (.og (.aun .not (.var 0)) (.apick (.var 0) (.og (.ibin .add (.var 31) (.lit (.val (.int .i64 1)))) (.call 93 [(.var 30), (.var 0), (.var 6)] (.og (.aext (.var 0) 0) (.og (.aext (.var 1) 1) (.og (.aun .not (.var 0)) (.apick (.var 0) (.rets [(.lit (.val (.bool false))), (.lit (.val (.bool false)))]) (.gog (.var 35) false false (.ret (.var 2)) (.og (.pickV (.var 36) (.lit (.val (.bool true))) (.var 0)) (.jump 0 [(.var 35), (.var 36), (.var 0), (.var 38), (.var 26), (.var 12)]))))))))) (.jump 0 [(.var 28), (.var 29), (.var 30), (.var 31), (.var 19), (.var 5)]))))))))))))))))))))))))))))) (.rets [(.var 7), (.lit (.val (.bool true)))]))))))) [(.var 1), (.var 0), (.lit (.val (.bool false))), (.lit (.val (.int .i64 0)))]
set_option maxRecDepth 1000000 in
theorem x76_ok : okF TT Tryz.f76 2 x76 = true := by decide +kernel
set_option maxRecDepth 1000000 in
theorem s_spec_l10Pass_ok {a0 a1 : AV} {σ : AH} {R : AEnd → AH → Prop} (h : s_spec_l10Pass a0 a1 σ R) : acall TP fn_spec_l10Pass [a0, a1] σ R :=
  acall_okF (ρ := [a1, a0]) TT_ok Tryz.func76 rfl x76 x76_ok rfl h

/-- loop.example/g00349/laws.toDatumS -/
def s_laws_toDatumS (a0 : AV) (σ : AH) (R : AEnd → AH → Prop) : Prop :=
  og (lenS a0) fun v6 =>
  amake TT ty_LRiiisE v6 v6 σ fun v7 σ =>
  lp (X := Tup [0, 3, 4]) (fun R1 y1 σ =>
    og (lenS y1.1) fun v10 =>
    og (ibin .lss y1.2.2.1 v10) fun v11 =>
    apick v11 (
      og (idx 4 y1.1 y1.2.2.1 σ) fun v18 =>
      og (lodA 4 v18 σ) fun v19 =>
      acall TP fn_laws_toDatum [v19] σ (onr (fun v20 σ =>
      og (idx 4 y1.2.1 y1.2.2.1 σ) fun v21 =>
      sto 4 v21 v20 σ fun σ =>
      og (ibin .add y1.2.2.1 (.val (.int .i64 1))) fun v13 =>
      R1 (y1.1, y1.2.1, v13, ()) σ) (fun v σ => apan v σ R))) (
      aret y1.2.1 σ R)) (a0, v7, (.val (.int .i64 0)), ()) σ
def x77 : Sx := .og (.lenS (.var 0)) (.mks 51 (.var 0) (.var 0) (.lp [0, 3, 4] (.og (.lenS (.var 0)) (.og (.ibin .lss (.var 3) (.var 0)) (.apick (.var 0) (.og (.idx 4 (.var 2) (.var 4)) (.og (.lodA 4 (.var 0)) (.call 94 [(.var 0)] (.og (.idx 4 (.var 6) (.var 7)) (.sto 4 (.var 0) (.var 1) (.og (.ibin .add (.var 8) (.lit (.val (.int .i64 1)))) (.jump 0 [(.var 7), (.var 8), (.var 0)]))))))) (.ret (.var 3))))) [(.var 2), (.var 0), (.lit (.val (.int .i64 0)))]))
set_option maxRecDepth 1000000 in
theorem x77_ok : okF TT Tryz.f77 1 x77 = true := by decide +kernel
set_option maxRecDepth 1000000 in
theorem s_laws_toDatumS_ok {a0 : AV} {σ : AH} {R : AEnd → AH → Prop} (h : s_laws_toDatumS a0 σ R) : acall TP fn_laws_toDatumS [a0] σ R :=
  acall_okF (ρ := [a0]) TT_ok Tryz.func77 rfl x77 x77_ok rfl h

/-- loop.example/g00349/impl.OpFault -/
def s_impl_OpFault (a0 : AV) (σ : AH) (R : AEnd → AH → Prop) : Prop :=
  abox a0 σ fun v1 σ =>
  frz v1 σ fun f1 σ =>
  og (fldA 1 f1) fun v5 =>
  og (lod v5 σ) fun v6 =>
  og (fldA 2 f1) fun v7 =>
  og (lod v7 σ) fun v8 =>
  og (fldA 3 f1) fun v9 =>
  og (lod v9 σ) fun v10 =>
  og (fldA 4 f1) fun v11 =>
  og (lod v11 σ) fun v12 =>
  bsl 1 [(.val (.int .i64 0))] 4 [(0, v6), (1, v8), (2, v10), (3, v12)] σ fun v13 σ =>
  frz v13 σ fun f13 σ =>
  jn (X := Tup [1, 3, 14]) (fun x1 σ =>
      apick x1.2.2.1 (
        aret (.val (.int .i64 1)) σ R) (
        acall TP fn_slices_ContainsFunc [x1.2.1, (.clo (.func fn_impl_OpFault_2) [] [])] σ (onr (fun v53 σ =>
        og (gval v53 false false (fldA 0 x1.1)) fun v55 =>
        og (gval v53 false false (lod v55 σ)) fun v56 =>
        og (gval v53 false false (ibin .eql v56 (.val (.int .i64 10)))) fun v57 =>
        og (gval v53 false false (some v57)) fun v58 =>
        og (gval v58 false true (fldA 0 x1.1)) fun v59 =>
        og (gval v58 false true (lod v59 σ)) fun v60 =>
        og (gval v58 false true (ibin .eql v60 (.val (.int .i64 11)))) fun v61 =>
        og (gval v53 false false (pickV v58 (.val (.bool true)) v61)) fun v62 =>
        og (gval v53 false false (some v62)) fun v63 =>
        og (gval v63 true true (fldA 1 x1.1)) fun v64 =>
        og (gval v63 true true (lod v64 σ)) fun v65 =>
        og (gval v63 true true (ibin .gtr v65 (.val (.int .i64 3)))) fun v66 =>
        og (gval v53 false false (pickV v63 v66 (.val (.bool false)))) fun v67 =>
        og (pickV v53 (.val (.bool true)) v67) fun v68 =>
        apick v68 (
          aret (.val (.int .i64 3)) σ R) (
          og (fldA 0 x1.1) fun v70 =>
          og (lod v70 σ) fun v71 =>
          acall TP fn_impl_opNamed [v71] σ (onr (fun v72 σ =>
          apick v72 (
            og (fldA 5 x1.1) fun v73 =>
            og (lod v73 σ) fun v74 =>
            acall TP fn_impl_SymFault [v74] σ (onr (fun v75 σ =>
            aret v75 σ R) (fun v σ => apan v σ R))) (
            og (fldA 0 x1.1) fun v77 =>
            og (lod v77 σ) fun v78 =>
            acall TP fn_impl_opData [v78] σ (onr (fun v79 σ =>
            apick v79 (
              og (fldA 6 x1.1) fun v80 =>
              og (lod v80 σ) fun v81 =>
              acall TP fn_impl_DataFault [v81] σ (onr (fun v82 σ =>
              aret v82 σ R) (fun v σ => apan v σ R))) (
              aret (.val (.int .i64 0)) σ R)) (fun v σ => apan v σ R)))) (fun v σ => apan v σ R)))) (fun v σ => apan v σ R)))) fun k1 =>
    og (fldA 0 f1) fun v15 =>
    og (lod v15 σ) fun v16 =>
    acall TP fn_impl_in [v16, (.val (.int .i64 1)), (.val (.int .i64 16))] σ (onr (fun v17 σ =>
    og (aun .not v17) fun v18 =>
    og (gval v18 false false (some f13)) fun v20 =>
    og (gval v18 false false (fldA 0 f1)) fun v21 =>
    og (gval v18 false false (lod v21 σ)) fun v22 =>
    gpick v18 (
      k1 (f1, f13, (.val (.bool true)), ()) σ) (
      acall TP fn_impl_opNums [v22] σ (onr (fun v23 σ =>
      og (slc 1 v20 (some v23) none none σ) fun v24 =>
      acall TP fn_slices_ContainsFunc [v24, (.clo (.func fn_impl_OpFault_1) [] [])] σ (onr (fun v26 σ =>
      og (gval v26 false false (fldA 5 f1)) fun v29 =>
      og (gval v26 false false (lod v29 σ)) fun v30 =>
      og (gval v26 false false (sbin .neq v30 (.val (.string ⟨#[]⟩)))) fun v31 =>
      og (gval v26 false false (some v31)) fun v32 =>
      og (gval v32 true true (fldA 0 f1)) fun v33 =>
      og (gval v32 true true (lod v33 σ)) fun v34 =>
      gpick v32 (
        acall TP fn_impl_opNamed [v34] σ (onr (fun v35 σ =>
        og (aun .not v35) fun v36 =>
        og (gval v26 false false (some v36)) fun v37 =>
        og (pickV v26 (.val (.bool true)) v37) fun v38 =>
        og (gval v38 false false (fldA 6 f1)) fun v40 =>
        og (gval v38 false false (lod v40 σ)) fun v41 =>
        og (gval v38 false false (lenS v41)) fun v42 =>
        og (gval v38 false false (ibin .gtr v42 (.val (.int .i64 0)))) fun v43 =>
        og (gval v38 false false (some v43)) fun v44 =>
        og (gval v44 true true (fldA 0 f1)) fun v45 =>
        og (gval v44 true true (lod v45 σ)) fun v46 =>
        gpick v44 (
          acall TP fn_impl_opData [v46] σ (onr (fun v47 σ =>
          og (aun .not v47) fun v48 =>
          og (gval v38 false false (some v48)) fun v49 =>
          og (pickV v38 (.val (.bool true)) v49) fun v50 =>
          k1 (f1, f13, v50, ()) σ) (fun v σ => apan v σ R))) (
          og (gval v38 false false (some (.val (.bool false)))) fun v49 =>
          og (pickV v38 (.val (.bool true)) v49) fun v50 =>
          k1 (f1, f13, v50, ()) σ) (
          og (gval v38 false false (pickV (.tup []) (.tup []) (.val (.bool false)))) fun v49 =>
          og (pickV v38 (.val (.bool true)) v49) fun v50 =>
          k1 (f1, f13, v50, ()) σ)) (fun v σ => apan v σ R))) (
        og (gval v26 false false (some (.val (.bool false)))) fun v37 =>
        og (pickV v26 (.val (.bool true)) v37) fun v38 =>
        og (gval v38 false false (fldA 6 f1)) fun v40 =>
        og (gval v38 false false (lod v40 σ)) fun v41 =>
        og (gval v38 false false (lenS v41)) fun v42 =>
        og (gval v38 false false (ibin .gtr v42 (.val (.int .i64 0)))) fun v43 =>
        og (gval v38 false false (some v43)) fun v44 =>
        og (gval v44 true true (fldA 0 f1)) fun v45 =>
        og (gval v44 true true (lod v45 σ)) fun v46 =>
        gpick v44 (
          acall TP fn_impl_opData [v46] σ (onr (fun v47 σ =>
          og (aun .not v47) fun v48 =>
          og (gval v38 false false (some v48)) fun v49 =>
          og (pickV v38 (.val (.bool true)) v49) fun v50 =>
          k1 (f1, f13, v50, ()) σ) (fun v σ => apan v σ R))) (
          og (gval v38 false false (some (.val (.bool false)))) fun v49 =>
          og (pickV v38 (.val (.bool true)) v49) fun v50 =>
          k1 (f1, f13, v50, ()) σ) (
          og (gval v38 false false (pickV (.tup []) (.tup []) (.val (.bool false)))) fun v49 =>
          og (pickV v38 (.val (.bool true)) v49) fun v50 =>
          k1 (f1, f13, v50, ()) σ)) (
        og (gval v26 false false (pickV (.tup []) (.tup []) (.val (.bool false)))) fun v37 =>
        og (pickV v26 (.val (.bool true)) v37) fun v38 =>
        og (gval v38 false false (fldA 6 f1)) fun v40 =>
        og (gval v38 false false (lod v40 σ)) fun v41 =>
        og (gval v38 false false (lenS v41)) fun v42 =>
        og (gval v38 false false (ibin .gtr v42 (.val (.int .i64 0)))) fun v43 =>
        og (gval v38 false false (some v43)) fun v44 =>
        og (gval v44 true true (fldA 0 f1)) fun v45 =>
        og (gval v44 true true (lod v45 σ)) fun v46 =>
        gpick v44 (
          acall TP fn_impl_opData [v46] σ (onr (fun v47 σ =>
          og (aun .not v47) fun v48 =>
          og (gval v38 false false (some v48)) fun v49 =>
          og (pickV v38 (.val (.bool true)) v49) fun v50 =>
          k1 (f1, f13, v50, ()) σ) (fun v σ => apan v σ R))) (
          og (gval v38 false false (some (.val (.bool false)))) fun v49 =>
          og (pickV v38 (.val (.bool true)) v49) fun v50 =>
          k1 (f1, f13, v50, ()) σ) (
          og (gval v38 false false (pickV (.tup []) (.tup []) (.val (.bool false)))) fun v49 =>
          og (pickV v38 (.val (.bool true)) v49) fun v50 =>
          k1 (f1, f13, v50, ()) σ))) (fun v σ => apan v σ R))) (fun v σ => apan v σ R))) (False)) (fun v σ => apan v σ R))
def x78 : Sx := .box (.var 0) (.frz 1 (.var 0) (.og (.fldA 1 (.var 0)) (.og (.lod (.var 0)) (.og (.fldA 2 (.var 2)) (.og (.lod (.var 0)) (.og (.fldA 3 (.var 4)) (.og (.lod (.var 0)) (.og (.fldA 4 (.var 6)) (.og (.lod (.var 0)) (.bsl 1 [(.val (.int .i64 0))] 4 [(0, (.var 6)), (1, (.var 4)), (2, (.var 2)), (3, (.var 0))] (.frz 11 (.var 0) (.jn 121 [1, 3, 14] (.apick (.var 2) (.ret (.lit (.val (.int .i64 1)))) (.call 96 [(.var 1), (.lit (.clo (.func fn_impl_OpFault_2) [] []))] (.gog (.var 0) false false (.fldA 0 (.var 1)) (.gog (.var 1) false false (.lod (.var 0)) (.gog (.var 2) false false (.ibin .eql (.var 0) (.lit (.val (.int .i64 10)))) (.gog (.var 3) false false (.ret (.var 0)) (.gog (.var 0) false true (.fldA 0 (.var 5)) (.gog (.var 1) false true (.lod (.var 0)) (.gog (.var 2) false true (.ibin .eql (.var 0) (.lit (.val (.int .i64 11)))) (.gog (.var 7) false false (.pickV (.var 3) (.lit (.val (.bool true))) (.var 0)) (.gog (.var 8) false false (.ret (.var 0)) (.gog (.var 0) true true (.fldA 1 (.var 10)) (.gog (.var 1) true true (.lod (.var 0)) (.gog (.var 2) true true (.ibin .gtr (.var 0) (.lit (.val (.int .i64 3)))) (.gog (.var 12) false false (.pickV (.var 3) (.var 0) (.lit (.val (.bool false)))) (.og (.pickV (.var 13) (.lit (.val (.bool true))) (.var 0)) (.apick (.var 0) (.ret (.lit (.val (.int .i64 3)))) (.og (.fldA 0 (.var 15)) (.og (.lod (.var 0)) (.call 98 [(.var 0)] (.apick (.var 0) (.og (.fldA 5 (.var 18)) (.og (.lod (.var 0)) (.call 101 [(.var 0)] (.ret (.var 0))))) (.og (.fldA 0 (.var 18)) (.og (.lod (.var 0)) (.call 99 [(.var 0)] (.apick (.var 0) (.og (.fldA 6 (.var 21)) (.og (.lod (.var 0)) (.call 102 [(.var 0)] (.ret (.var 0))))) (.ret (.lit (.val (.int .i64 0))))))))))))))))))))))))))))) (.og (.fldA 0 (.var 10)) (.og (.lod (.var 0)) (.call 52 [(.var 0), (.lit (.val (.int .i64 1))), (.lit (.val (.int .i64 16)))] (.og (.aun .not (.var 0)) (.gog (.var 0) false false (.ret (.var 4)) (.gog (.var 1) false false (.fldA 0 (.var 15)) (.gog (.var 2) false false (.lod (.var 0)) (.gpick (.var 3) (.jump 0 [(.var 17), (.var 7), (.lit (.val (.bool true)))]) (.call 97 [(.var 0)] (.og (.slc 1 (.var 3) (some (.var 0)) none none) (.call 96 [(.var 0), (.lit (.clo (.func fn_impl_OpFault_1) [] []))] (.gog (.var 0) false false (.fldA 5 (.var 20)) (.gog (.var 1) false false (.lod (.var 0)) (.gog (.var 2) false false (.sbin .neq (.var 0) (.lit (.val (.string ⟨#[]⟩)))) (.gog (.var 3) false false (.ret (.var 0)) (.gog (.var 0) true true (.fldA 0 (.var 24)) (.gog (.var 1) true true (.lod (.var 0)) (.gpick (.var 2) (.call 98 [(.var 0)] (.og (.aun .not (.var 0)) (.gog (.var 8) false false (.ret (.var 0)) (.og (.pickV (.var 9) (.lit (.val (.bool true))) (.var 0)) (.gog (.var 0) false false (.fldA 6 (.var 30)) (.gog (.var 1) false false (.lod (.var 0)) (.gog (.var 2) false false (.lenS (.var 0)) (.gog (.var 3) false false (.ibin .gtr (.var 0) (.lit (.val (.int .i64 0)))) (.gog (.var 4) false false (.ret (.var 0)) (.gog (.var 0) true true (.fldA 0 (.var 35)) (.gog (.var 1) true true (.lod (.var 0)) (.gpick (.var 2) (.call 99 [(.var 0)] (.og (.aun .not (.var 0)) (.gog (.var 9) false false (.ret (.var 0)) (.og (.pickV (.var 10) (.lit (.val (.bool true))) (.var 0)) (.jump 0 [(.var 41), (.var 31), (.var 0)]))))) (.gog (.var 7) false false (.ret (.lit (.val (.bool false)))) (.og (.pickV (.var 8) (.lit (.val (.bool true))) (.var 0)) (.jump 0 [(.var 39), (.var 29), (.var 0)]))) (.gog (.var 7) false false (.pickV (.lit (.tup [])) (.lit (.tup [])) (.lit (.val (.bool false)))) (.og (.pickV (.var 8) (.lit (.val (.bool true))) (.var 0)) (.jump 0 [(.var 39), (.var 29), (.var 0)]))))))))))))))) (.gog (.var 6) false false (.ret (.lit (.val (.bool false)))) (.og (.pickV (.var 7) (.lit (.val (.bool true))) (.var 0)) (.gog (.var 0) false false (.fldA 6 (.var 28)) (.gog (.var 1) false false (.lod (.var 0)) (.gog (.var 2) false false (.lenS (.var 0)) (.gog (.var 3) false false (.ibin .gtr (.var 0) (.lit (.val (.int .i64 0)))) (.gog (.var 4) false false (.ret (.var 0)) (.gog (.var 0) true true (.fldA 0 (.var 33)) (.gog (.var 1) true true (.lod (.var 0)) (.gpick (.var 2) (.call 99 [(.var 0)] (.og (.aun .not (.var 0)) (.gog (.var 9) false false (.ret (.var 0)) (.og (.pickV (.var 10) (.lit (.val (.bool true))) (.var 0)) (.jump 0 [(.var 39), (.var 29), (.var 0)]))))) (.gog (.var 7) false false (.ret (.lit (.val (.bool false)))) (.og (.pickV (.var 8) (.lit (.val (.bool true))) (.var 0)) (.jump 0 [(.var 37), (.var 27), (.var 0)]))) (.gog (.var 7) false false (.pickV (.lit (.tup [])) (.lit (.tup [])) (.lit (.val (.bool false)))) (.og (.pickV (.var 8) (.lit (.val (.bool true))) (.var 0)) (.jump 0 [(.var 37), (.var 27), (.var 0)]))))))))))))) (.gog (.var 6) false false (.pickV (.lit (.tup [])) (.lit (.tup [])) (.lit (.val (.bool false)))) (.og (.pickV (.var 7) (.lit (.val (.bool true))) (.var 0)) (.gog (.var 0) false false (.fldA 6 (.var 28)) (.gog (.var 1) false false (.lod (.var 0)) (.gog (.var 2) false false (.lenS (.var 0)) (.gog (.var 3) false false (.ibin .gtr (.var 0) (.lit (.val (.int .i64 0)))) (.gog (.var 4) false false (.ret (.var 0)) (.gog (.var 0) true true (.fldA 0 (.var 33)) (.gog (.var 1) true true (.lod (.var 0)) (.gpick (.var 2) (.call 99 [(.var 0)] (.og (.aun .not (.var 0)) (.gog (.var 9) false false (.ret (.var 0)) (.og (.pickV (.var 10) (.lit (.val (.bool true))) (.var 0)) (.jump 0 [(.var 39), (.var 29), (.var 0)]))))) (.gog (.var 7) false false (.ret (.lit (.val (.bool false)))) (.og (.pickV (.var 8) (.lit (.val (.bool true))) (.var 0)) (.jump 0 [(.var 37), (.var 27), (.var 0)]))) (.gog (.var 7) false false (.pickV (.lit (.tup [])) (.lit (.tup [])) (.lit (.val (.bool false)))) (.og (.pickV (.var 8) (.lit (.val (.bool true))) (.var 0)) (.jump 0 [(.var 37), (.var 27), (.var 0)]))))))))))))))))))))))) (.no)))))))))))))))))))))
set_option maxRecDepth 1000000 in
theorem x78_ok : okF TT Tryz.f78 1 x78 = true := by decide +kernel
set_option maxRecDepth 1000000 in
theorem s_impl_OpFault_ok {a0 : AV} {σ : AH} {R : AEnd → AH → Prop} (h : s_impl_OpFault a0 σ R) : acall TP fn_impl_OpFault [a0] σ R :=
  acall_okF (ρ := [a0]) TT_ok Tryz.func78 rfl x78 x78_ok rfl h

/-- loop.example/g00349/laws.eqDatumS -/
def s_laws_eqDatumS (a0 a1 : AV) (σ : AH) (R : AEnd → AH → Prop) : Prop :=
  og (lenS a0) fun v7 =>
  og (lenS a1) fun v9 =>
  og (ibin .neq v7 v9) fun v10 =>
  apick v10 (
    aret (.val (.bool false)) σ R) (
    lp (X := Tup [0, 1, 5]) (fun R1 y1 σ =>
      og (lenS y1.1) fun v13 =>
      og (ibin .lss y1.2.2.1 v13) fun v14 =>
      apick v14 (
        og (idx 4 y1.1 y1.2.2.1 σ) fun v19 =>
        og (lodA 4 v19 σ) fun v20 =>
        og (idx 4 y1.2.1 y1.2.2.1 σ) fun v23 =>
        og (lodA 4 v23 σ) fun v24 =>
        acall TP fn_laws_eqDatum [v20, v24] σ (onr (fun v25 σ =>
        (True) ∧
        og (aun .not v25) fun v26 =>
        apick v26 (
          aret (.val (.bool false)) σ R) (
          og (ibin .add y1.2.2.1 (.val (.int .i64 1))) fun v16 =>
          R1 (y1.1, y1.2.1, v16, ()) σ)) (fun v σ => apan v σ R))) (
        aret (.val (.bool true)) σ R)) (a0, a1, (.val (.int .i64 0)), ()) σ)
def x79 : Sx := .og (.lenS (.var 1)) (.og (.lenS (.var 1)) (.og (.ibin .neq (.var 1) (.var 0)) (.apick (.var 0) (.ret (.lit (.val (.bool false)))) (.lp [0, 1, 5] (.og (.lenS (.var 0)) (.og (.ibin .lss (.var 3) (.var 0)) (.apick (.var 0) (.ord [0, 1, 2, 3, 4, 5, 6, 7, 8, 9] [0, 0, 3, 7, 0, 0, 48, 112, 255, 511] (.og (.idx 4 (.var 2) (.var 4)) (.og (.lodA 4 (.var 0)) (.og (.idx 4 (.var 5) (.var 6)) (.og (.lodA 4 (.var 0)) (.call 103 [(.var 2), (.var 0)] (.wat [] (.og (.aun .not (.var 0)) (.apick (.var 0) (.ret (.lit (.val (.bool false)))) (.og (.ibin .add (.var 10) (.lit (.val (.int .i64 1)))) (.jump 0 [(.var 9), (.var 10), (.var 0)]))))))))))) (.ret (.lit (.val (.bool true))))))) [(.var 4), (.var 3), (.lit (.val (.int .i64 0)))]))))
set_option maxRecDepth 1000000 in
theorem x79_ok : okF TT Tryz.f79 2 x79 = true := by decide +kernel
set_option maxRecDepth 1000000 in
theorem s_laws_eqDatumS_ok {a0 a1 : AV} {σ : AH} {R : AEnd → AH → Prop} (h : s_laws_eqDatumS a0 a1 σ R) : acall TP fn_laws_eqDatumS [a0, a1] σ R :=
  acall_okF (ρ := [a1, a0]) TT_ok Tryz.func79 rfl x79 x79_ok rfl h

/-- loop.example/g00349/spec.l11Has -/
def s_spec_l11Has (a0 a1 : AV) (σ : AH) (R : AEnd → AH → Prop) : Prop :=
  og (ibin .quo a0 a1) fun v7 =>
  og (ibin .rem v7 (.val (.int .i64 2))) fun v8 =>
  og (ibin .eql v8 (.val (.int .i64 1))) fun v9 =>
  aret v9 σ R
def x80 : Sx := .og (.ibin .quo (.var 1) (.var 0)) (.og (.ibin .rem (.var 0) (.lit (.val (.int .i64 2)))) (.og (.ibin .eql (.var 0) (.lit (.val (.int .i64 1)))) (.ret (.var 0))))
set_option maxRecDepth 1000000 in
theorem x80_ok : okF TT Tryz.f80 2 x80 = true := by decide +kernel
set_option maxRecDepth 1000000 in
theorem s_spec_l11Has_ok {a0 a1 : AV} {σ : AH} {R : AEnd → AH → Prop} (h : s_spec_l11Has a0 a1 σ R) : acall TP fn_spec_l11Has [a0, a1] σ R :=
  acall_okF (ρ := [a1, a0]) TT_ok Tryz.func80 rfl x80 x80_ok rfl h

/-- loop.example/g00349/laws.szDatum -/
def s_laws_szDatum (a0 a1 : AV) (σ : AH) (R : AEnd → AH → Prop) : Prop :=
  abox a0 σ fun v2 σ =>
  frz v2 σ fun f2 σ =>
  og (fldA 3 f2) fun v6 =>
  og (lod v6 σ) fun v7 =>
  og (lenStr v7) fun v8 =>
  og (ibin .sub a1 v8) fun v9 =>
  og (ibin .lss v9 (.val (.int .i64 0))) fun v11 =>
  apick v11 (
    aret (.val (.int .i64 (-1))) σ R) (
    aret v9 σ R)
def x83 : Sx := .box (.var 1) (.frz 2 (.var 0) (.og (.fldA 3 (.var 0)) (.og (.lod (.var 0)) (.og (.lenStr (.var 0)) (.og (.ibin .sub (.var 5) (.var 0)) (.og (.ibin .lss (.var 0) (.lit (.val (.int .i64 0)))) (.apick (.var 0) (.ret (.lit (.val (.int .i64 (-1))))) (.ret (.var 1)))))))))
set_option maxRecDepth 1000000 in
theorem x83_ok : okF TT Tryz.f83 2 x83 = true := by decide +kernel
set_option maxRecDepth 1000000 in
theorem s_laws_szDatum_ok {a0 a1 : AV} {σ : AH} {R : AEnd → AH → Prop} (h : s_laws_szDatum a0 a1 σ R) : acall TP fn_laws_szDatum [a0, a1] σ R :=
  acall_okF (ρ := [a1, a0]) TT_ok Tryz.func83 rfl x83 x83_ok rfl h

/-- loop.example/g00349/spec.l9All -/
def s_spec_l9All (a0 : AV) (σ : AH) (R : AEnd → AH → Prop) : Prop :=
  og (anil a0) fun v4 =>
  og (fldA 1 v4) fun v5 =>
  og (lod v5 σ) fun v6 =>
  og (anil a0) fun v8 =>
  og (fldA 2 v8) fun v9 =>
  og (lod v9 σ) fun v10 =>
  og (anil a0) fun v12 =>
  og (fldA 3 v12) fun v13 =>
  og (lod v13 σ) fun v14 =>
  og (anil a0) fun v16 =>
  og (fldA 4 v16) fun v17 =>
  og (lod v17 σ) fun v18 =>
  og (bslR 1 [(.val (.int .i64 0))] 4 [(0, v6), (1, v10), (2, v14), (3, v18)]) fun v19 =>
  aret v19 σ R
def x84 : Sx := .ord [0, 1, 2, 3, 4, 5, 6, 7, 8, 9, 10, 11, 12, 13, 14, 15, 16, 17] [0, 1, 3, 7, 0, 16, 48, 112, 0, 256, 768, 1792, 0, 4096, 12288, 28672, 65535, 131071] (.og (.anil (.var 0)) (.og (.fldA 1 (.var 0)) (.og (.lod (.var 0)) (.og (.anil (.var 3)) (.og (.fldA 2 (.var 0)) (.og (.lod (.var 0)) (.og (.anil (.var 6)) (.og (.fldA 3 (.var 0)) (.og (.lod (.var 0)) (.og (.anil (.var 9)) (.og (.fldA 4 (.var 0)) (.og (.lod (.var 0)) (.og (.bslR 1 [(.val (.int .i64 0))] 4 [(0, (.var 9)), (1, (.var 6)), (2, (.var 3)), (3, (.var 0))]) (.ret (.var 0)))))))))))))))
set_option maxRecDepth 1000000 in
theorem x84_ok : okF TT Tryz.f84 1 x84 = true := by decide +kernel
set_option maxRecDepth 1000000 in
theorem s_spec_l9All_ok {a0 : AV} {σ : AH} {R : AEnd → AH → Prop} (h : s_spec_l9All a0 σ R) : acall TP fn_spec_l9All [a0] σ R :=
  acall_okF (ρ := [a0]) TT_ok Tryz.func84 rfl x84 x84_ok rfl h

/-- loop.example/g00349/spec.l9Nums -/
def s_spec_l9Nums (a0 : AV) (σ : AH) (R : AEnd → AH → Prop) : Prop :=
  jn (X := Tup [3, 4]) (fun x1 σ =>
      apick x1.2.1 (
        aret (.val (.int .i64 1)) σ R) (
        jn (X := Tup [3, 10]) (fun x2 σ =>
            apick x2.2.1 (
              aret (.val (.int .i64 2)) σ R) (
              og (ibin .eql x2.1 (.val (.int .i64 16))) fun v14 =>
              apick v14 (
                aret (.val (.int .i64 3)) σ R) (
                og (ibin .eql x2.1 (.val (.int .i64 15))) fun v16 =>
                apick v16 (
                  aret (.val (.int .i64 4)) σ R) (
                  aret (.val (.int .i64 0)) σ R)))) fun k2 =>
          og (ibin .eql x1.1 (.val (.int .i64 2))) fun v11 =>
          apick v11 (
            k2 (x1.1, v11, ()) σ) (
            og (ibin .eql x1.1 (.val (.int .i64 14))) fun v12 =>
            k2 (x1.1, v12, ()) σ))) fun k1 =>
    og (ibin .eql a0 (.val (.int .i64 4))) fun v5 =>
    apick v5 (
      k1 (a0, v5, ()) σ) (
      og (ibin .eql a0 (.val (.int .i64 5))) fun v6 =>
      apick v6 (
        k1 (a0, v6, ()) σ) (
        og (ibin .eql a0 (.val (.int .i64 6))) fun v7 =>
        apick v7 (
          k1 (a0, v7, ()) σ) (
          og (ibin .eql a0 (.val (.int .i64 10))) fun v8 =>
          apick v8 (
            k1 (a0, v8, ()) σ) (
            og (ibin .eql a0 (.val (.int .i64 11))) fun v9 =>
            k1 (a0, v9, ()) σ))))
def x85 : Sx := .jn 53 [3, 4] (.apick (.var 1) (.ret (.lit (.val (.int .i64 1)))) (.jn 215 [3, 10] (.apick (.var 1) (.ret (.lit (.val (.int .i64 2)))) (.og (.ibin .eql (.var 0) (.lit (.val (.int .i64 16)))) (.apick (.var 0) (.ret (.lit (.val (.int .i64 3)))) (.og (.ibin .eql (.var 1) (.lit (.val (.int .i64 15)))) (.apick (.var 0) (.ret (.lit (.val (.int .i64 4)))) (.ret (.lit (.val (.int .i64 0))))))))) (.og (.ibin .eql (.var 0) (.lit (.val (.int .i64 2)))) (.apick (.var 0) (.jump 0 [(.var 1), (.var 0)]) (.og (.ibin .eql (.var 1) (.lit (.val (.int .i64 14)))) (.jump 0 [(.var 2), (.var 0)])))))) (.og (.ibin .eql (.var 0) (.lit (.val (.int .i64 4)))) (.apick (.var 0) (.jump 0 [(.var 1), (.var 0)]) (.og (.ibin .eql (.var 1) (.lit (.val (.int .i64 5)))) (.apick (.var 0) (.jump 0 [(.var 2), (.var 0)]) (.og (.ibin .eql (.var 2) (.lit (.val (.int .i64 6)))) (.apick (.var 0) (.jump 0 [(.var 3), (.var 0)]) (.og (.ibin .eql (.var 3) (.lit (.val (.int .i64 10)))) (.apick (.var 0) (.jump 0 [(.var 4), (.var 0)]) (.og (.ibin .eql (.var 4) (.lit (.val (.int .i64 11)))) (.jump 0 [(.var 5), (.var 0)]))))))))))
set_option maxRecDepth 1000000 in
theorem x85_ok : okF TT Tryz.f85 1 x85 = true := by decide +kernel
set_option maxRecDepth 1000000 in
theorem s_spec_l9Nums_ok {a0 : AV} {σ : AH} {R : AEnd → AH → Prop} (h : s_spec_l9Nums a0 σ R) : acall TP fn_spec_l9Nums [a0] σ R :=
  acall_okF (ρ := [a0]) TT_ok Tryz.func85 rfl x85 x85_ok rfl h

/-- loop.example/g00349/spec.l9Named -/
def s_spec_l9Named (a0 : AV) (σ : AH) (R : AEnd → AH → Prop) : Prop :=
  og (ibin .eql a0 (.val (.int .i64 3))) fun v4 =>
  og (gval v4 false false (some a0)) fun v6 =>
  og (gval v4 false false (ibin .eql v6 (.val (.int .i64 8)))) fun v7 =>
  og (pickV v4 (.val (.bool true)) v7) fun v8 =>
  og (gval v8 false false (some a0)) fun v10 =>
  og (gval v8 false false (ibin .eql v10 (.val (.int .i64 9)))) fun v11 =>
  og (pickV v8 (.val (.bool true)) v11) fun v12 =>
  aret v12 σ R
def x86 : Sx := .og (.ibin .eql (.var 0) (.lit (.val (.int .i64 3)))) (.gog (.var 0) false false (.ret (.var 1)) (.gog (.var 1) false false (.ibin .eql (.var 0) (.lit (.val (.int .i64 8)))) (.og (.pickV (.var 2) (.lit (.val (.bool true))) (.var 0)) (.gog (.var 0) false false (.ret (.var 4)) (.gog (.var 1) false false (.ibin .eql (.var 0) (.lit (.val (.int .i64 9)))) (.og (.pickV (.var 2) (.lit (.val (.bool true))) (.var 0)) (.ret (.var 0))))))))
set_option maxRecDepth 1000000 in
theorem x86_ok : okF TT Tryz.f86 1 x86 = true := by decide +kernel
set_option maxRecDepth 1000000 in
theorem s_spec_l9Named_ok {a0 : AV} {σ : AH} {R : AEnd → AH → Prop} (h : s_spec_l9Named a0 σ R) : acall TP fn_spec_l9Named [a0] σ R :=
  acall_okF (ρ := [a0]) TT_ok Tryz.func86 rfl x86 x86_ok rfl h

/-- loop.example/g00349/spec.l9Const -/
def s_spec_l9Const (a0 : AV) (σ : AH) (R : AEnd → AH → Prop) : Prop :=
  og (ibin .eql a0 (.val (.int .i64 1))) fun v4 =>
  og (gval v4 false false (some a0)) fun v6 =>
  og (gval v4 false false (ibin .eql v6 (.val (.int .i64 13)))) fun v7 =>
  og (pickV v4 (.val (.bool true)) v7) fun v8 =>
  aret v8 σ R
def x87 : Sx := .og (.ibin .eql (.var 0) (.lit (.val (.int .i64 1)))) (.gog (.var 0) false false (.ret (.var 1)) (.gog (.var 1) false false (.ibin .eql (.var 0) (.lit (.val (.int .i64 13)))) (.og (.pickV (.var 2) (.lit (.val (.bool true))) (.var 0)) (.ret (.var 0)))))
set_option maxRecDepth 1000000 in
theorem x87_ok : okF TT Tryz.f87 1 x87 = true := by decide +kernel
set_option maxRecDepth 1000000 in
theorem s_spec_l9Const_ok {a0 : AV} {σ : AH} {R : AEnd → AH → Prop} (h : s_spec_l9Const a0 σ R) : acall TP fn_spec_l9Const [a0] σ R :=
  acall_okF (ρ := [a0]) TT_ok Tryz.func87 rfl x87 x87_ok rfl h

/-- loop.example/g00349/spec.l2Sym -/
def s_spec_l2Sym (a0 : AV) (σ : AH) (R : AEnd → AH → Prop) : Prop :=
  lp (X := Tup [0, 3]) (fun R1 y1 σ =>
    og (lenStr y1.1) fun v6 =>
    og (ibin .lss y1.2.1 v6) fun v7 =>
    apick v7 (
      og (idxStr y1.1 y1.2.1) fun v12 =>
      acall TP fn_spec_l2Byte [v12] σ (onr (fun v13 σ =>
      og (aun .not v13) fun v14 =>
      apick v14 (
        aret (.val (.bool false)) σ R) (
        og (ibin .add y1.2.1 (.val (.int .i64 1))) fun v9 =>
        R1 (y1.1, v9, ()) σ)) (fun v σ => apan v σ R))) (
      og (lenStr y1.1) fun v16 =>
      acall TP fn_spec_l1In [v16, (.val (.int .i64 1)), (.val (.int .i64 12))] σ (onr (fun v17 σ =>
      aret v17 σ R) (fun v σ => apan v σ R)))) (a0, (.val (.int .i64 0)), ()) σ
def x88 : Sx := .lp [0, 3] (.og (.lenStr (.var 0)) (.og (.ibin .lss (.var 2) (.var 0)) (.apick (.var 0) (.og (.idxStr (.var 2) (.var 3)) (.call 115 [(.var 0)] (.og (.aun .not (.var 0)) (.apick (.var 0) (.ret (.lit (.val (.bool false)))) (.og (.ibin .add (.var 6) (.lit (.val (.int .i64 1)))) (.jump 0 [(.var 6), (.var 0)])))))) (.og (.lenStr (.var 2)) (.call 50 [(.var 0), (.lit (.val (.int .i64 1))), (.lit (.val (.int .i64 12)))] (.ret (.var 0))))))) [(.var 0), (.lit (.val (.int .i64 0)))]
set_option maxRecDepth 1000000 in
theorem x88_ok : okF TT Tryz.f88 1 x88 = true := by decide +kernel
set_option maxRecDepth 1000000 in
theorem s_spec_l2Sym_ok {a0 : AV} {σ : AH} {R : AEnd → AH → Prop} (h : s_spec_l2Sym a0 σ R) : acall TP fn_spec_l2Sym [a0] σ R :=
  acall_okF (ρ := [a0]) TT_ok Tryz.func88 rfl x88 x88_ok rfl h

/-- loop.example/g00349/spec.l3Fault -/
def s_spec_l3Fault (a0 : AV) (σ : AH) (R : AEnd → AH → Prop) : Prop :=
  og (lenS a0) fun v6 =>
  og (ibin .lss v6 (.val (.int .i64 1))) fun v7 =>
  og (gval v7 false false (some a0)) fun v9 =>
  og (gval v7 false false (lenS v9)) fun v10 =>
  og (gval v7 false false (ibin .gtr v10 (.val (.int .i64 80)))) fun v11 =>
  og (pickV v7 (.val (.bool true)) v11) fun v12 =>
  apick v12 (
    aret (.val (.int .i64 2)) σ R) (
    lp (X := Tup [0, 3]) (fun R1 y1 σ =>
      og (lenS y1.1) fun v15 =>
      og (ibin .lss y1.2.1 v15) fun v16 =>
      apick v16 (
        og (idx 4 y1.1 y1.2.1 σ) fun v21 =>
        acall TP fn_spec_l3Bare [v21] σ (onr (fun v23 σ =>
        og (aun .not v23) fun v24 =>
        apick v24 (
          aret (.val (.int .i64 1)) σ R) (
          jn (X := Tup [0, 3, 4, 52]) (fun x2 σ =>
              apick x2.2.2.2.1 (
                aret (.val (.int .i64 3)) σ R) (
                jn (X := Tup [0, 3, 4, 65]) (fun x3 σ =>
                    apick x3.2.2.2.1 (
                      aret (.val (.int .i64 5)) σ R) (
                      jn (X := Tup [0, 3, 88]) (fun x4 σ =>
                          apick x4.2.2.1 (
                            aret (.val (.int .i64 3)) σ R) (
                            jn (X := Tup [0, 3, 96]) (fun x5 σ =>
                                apick x5.2.2.1 (
                                  aret (.val (.int .i64 1)) σ R) (
                                  acall TP fn_spec_l3Deep [x5.1, x5.2.1] σ (onr (fun v99 σ =>
                                  og (ibin .gtr v99 (.val (.int .i64 12))) fun v100 =>
                                  apick v100 (
                                    aret (.val (.int .i64 2)) σ R) (
                                    og (ibin .add x5.2.1 (.val (.int .i64 1))) fun v18 =>
                                    R1 (x5.1, v18, ()) σ)) (fun v σ => apan v σ R)))) fun k5 =>
                              og (ibin .gtr x4.2.1 (.val (.int .i64 0))) fun v90 =>
                              og (gval v90 true false (some x4.1)) fun v92 =>
                              og (gval v90 true false (some x4.2.1)) fun v93 =>
                              gpick v90 (
                                acall TP fn_spec_l3Line [v92, v93] σ (onr (fun v94 σ =>
                                og (aun .not v94) fun v95 =>
                                k5 (x4.1, x4.2.1, v95, ()) σ) (fun v σ => apan v σ R))) (
                                k5 (x4.1, x4.2.1, (.val (.bool false)), ()) σ) (False))) fun k4 =>
                        og (ibin .eql x3.2.1 (.val (.int .i64 0))) fun v67 =>
                        og (gval v67 true false (some x3.2.2.1)) fun v69 =>
                        og (gval v67 true false (anil v69)) fun v70 =>
                        og (gval v67 true false (fldA 1 v70)) fun v71 =>
                        og (gval v67 true false (lod v71 σ)) fun v72 =>
                        og (gval v67 true false (ibin .neq v72 (.val (.int .i64 (-1))))) fun v73 =>
                        og (pickV v67 v73 (.val (.bool false))) fun v74 =>
                        og (gval v74 false false (some x3.2.1)) fun v76 =>
                        og (gval v74 false false (ibin .gtr v76 (.val (.int .i64 0)))) fun v77 =>
                        og (gval v74 false false (some v77)) fun v78 =>
                        og (gval v78 true true (some x3.2.2.1)) fun v79 =>
                        og (gval v78 true true (anil v79)) fun v80 =>
                        og (gval v78 true true (fldA 1 v80)) fun v81 =>
                        og (gval v78 true true (lod v81 σ)) fun v82 =>
                        og (gval v78 true true (some x3.2.1)) fun v83 =>
                        og (gval v78 true true (ibin .sub v83 (.val (.int .i64 1)))) fun v84 =>
                        gpick v78 (
                          acall TP fn_spec_l1In [v82, (.val (.int .i64 0)), v84] σ (onr (fun v85 σ =>
                          og (aun .not v85) fun v86 =>
                          og (gval v74 false false (some v86)) fun v87 =>
                          og (pickV v74 (.val (.bool true)) v87) fun v88 =>
                          k4 (x3.1, x3.2.1, v88, ()) σ) (fun v σ => apan v σ R))) (
                          og (gval v74 false false (some (.val (.bool false)))) fun v87 =>
                          og (pickV v74 (.val (.bool true)) v87) fun v88 =>
                          k4 (x3.1, x3.2.1, v88, ()) σ) (
                          og (gval v74 false false (pickV (.tup []) (.tup []) (.val (.bool false)))) fun v87 =>
                          og (pickV v74 (.val (.bool true)) v87) fun v88 =>
                          k4 (x3.1, x3.2.1, v88, ()) σ))) fun k3 =>
                  og (anil x2.2.2.1) fun v54 =>
                  og (fldA 0 v54) fun v55 =>
                  og (lod v55 σ) fun v56 =>
                  og (ibin .eql v56 (.val (.int .i64 3))) fun v57 =>
                  og (gval v57 true false (some x2.2.2.1)) fun v59 =>
                  og (gval v57 true false (anil v59)) fun v60 =>
                  og (gval v57 true false (fldA 3 v60)) fun v61 =>
                  og (gval v57 true false (lod v61 σ)) fun v62 =>
                  gpick v57 (
                    acall TP fn_spec_l2Sym [v62] σ (onr (fun v63 σ =>
                    og (aun .not v63) fun v64 =>
                    k3 (x2.1, x2.2.1, x2.2.2.1, v64, ()) σ) (fun v σ => apan v σ R))) (
                    k3 (x2.1, x2.2.1, x2.2.2.1, (.val (.bool false)), ()) σ) (False))) fun k2 =>
            og (anil v21) fun v26 =>
            og (fldA 0 v26) fun v27 =>
            og (lod v27 σ) fun v28 =>
            og (ibin .eql v28 (.val (.int .i64 1))) fun v29 =>
            og (gval v29 true false (some v21)) fun v31 =>
            og (gval v29 true false (anil v31)) fun v32 =>
            og (gval v29 true false (fldA 2 v32)) fun v33 =>
            og (gval v29 true false (lod v33 σ)) fun v34 =>
            gpick v29 (
              acall TP fn_spec_l1Num [v34] σ (onr (fun v35 σ =>
              og (aun .not v35) fun v36 =>
              og (gval v36 false false (some v21)) fun v39 =>
              og (gval v36 false false (anil v39)) fun v40 =>
              og (gval v36 false false (fldA 0 v40)) fun v41 =>
              og (gval v36 false false (lod v41 σ)) fun v42 =>
              og (gval v36 false false (ibin .eql v42 (.val (.int .i64 2)))) fun v43 =>
              og (gval v36 false false (some v43)) fun v44 =>
              og (gval v44 true true (some v21)) fun v45 =>
              og (gval v44 true true (anil v45)) fun v46 =>
              og (gval v44 true true (fldA 2 v46)) fun v47 =>
              og (gval v44 true true (lod v47 σ)) fun v48 =>
              gpick v44 (
                acall TP fn_spec_l1In [v48, (.val (.int .i64 0)), (.val (.int .i64 1))] σ (onr (fun v49 σ =>
                og (aun .not v49) fun v50 =>
                og (gval v36 false false (some v50)) fun v51 =>
                og (pickV v36 (.val (.bool true)) v51) fun v52 =>
                k2 (y1.1, y1.2.1, v21, v52, ()) σ) (fun v σ => apan v σ R))) (
                og (gval v36 false false (some (.val (.bool false)))) fun v51 =>
                og (pickV v36 (.val (.bool true)) v51) fun v52 =>
                k2 (y1.1, y1.2.1, v21, v52, ()) σ) (
                og (gval v36 false false (pickV (.tup []) (.tup []) (.val (.bool false)))) fun v51 =>
                og (pickV v36 (.val (.bool true)) v51) fun v52 =>
                k2 (y1.1, y1.2.1, v21, v52, ()) σ)) (fun v σ => apan v σ R))) (
              og (anil v21) fun v40 =>
              og (fldA 0 v40) fun v41 =>
              og (lod v41 σ) fun v42 =>
              og (ibin .eql v42 (.val (.int .i64 2))) fun v43 =>
              og (gval v43 true true (some v21)) fun v45 =>
              og (gval v43 true true (anil v45)) fun v46 =>
              og (gval v43 true true (fldA 2 v46)) fun v47 =>
              og (gval v43 true true (lod v47 σ)) fun v48 =>
              gpick v43 (
                acall TP fn_spec_l1In [v48, (.val (.int .i64 0)), (.val (.int .i64 1))] σ (onr (fun v49 σ =>
                og (aun .not v49) fun v50 =>
                k2 (y1.1, y1.2.1, v21, v50, ()) σ) (fun v σ => apan v σ R))) (
                k2 (y1.1, y1.2.1, v21, (.val (.bool false)), ()) σ) (
                og (pickV (.tup []) (.tup []) (.val (.bool false))) fun v51 =>
                k2 (y1.1, y1.2.1, v21, v51, ()) σ)) (False))) (fun v σ => apan v σ R))) (
        aret (.val (.int .i64 0)) σ R)) (a0, (.val (.int .i64 0)), ()) σ)
def x89 : Sx := .og (.lenS (.var 0)) (.og (.ibin .lss (.var 0) (.lit (.val (.int .i64 1)))) (.gog (.var 0) false false (.ret (.var 2)) (.gog (.var 1) false false (.lenS (.var 0)) (.gog (.var 2) false false (.ibin .gtr (.var 0) (.lit (.val (.int .i64 80)))) (.og (.pickV (.var 3) (.lit (.val (.bool true))) (.var 0)) (.apick (.var 0) (.ret (.lit (.val (.int .i64 2)))) (.lp [0, 3] (.og (.lenS (.var 0)) (.og (.ibin .lss (.var 2) (.var 0)) (.apick (.var 0) (.og (.idx 4 (.var 2) (.var 3)) (.call 116 [(.var 0)] (.og (.aun .not (.var 0)) (.apick (.var 0) (.ret (.lit (.val (.int .i64 1)))) (.jn 14925 [0, 3, 4, 52] (.apick (.var 3) (.ret (.lit (.val (.int .i64 3)))) (.jn 29853 [0, 3, 4, 65] (.apick (.var 3) (.ret (.lit (.val (.int .i64 5)))) (.jn 59709 [0, 3, 88] (.apick (.var 2) (.ret (.lit (.val (.int .i64 3)))) (.jn 119421 [0, 3, 96] (.apick (.var 2) (.ret (.lit (.val (.int .i64 1)))) (.call 119 [(.var 0), (.var 1)] (.og (.ibin .gtr (.var 0) (.lit (.val (.int .i64 12)))) (.apick (.var 0) (.ret (.lit (.val (.int .i64 2)))) (.og (.ibin .add (.var 3) (.lit (.val (.int .i64 1)))) (.jump 0 [(.var 3), (.var 0)])))))) (.og (.ibin .gtr (.var 1) (.lit (.val (.int .i64 0)))) (.gog (.var 0) true false (.ret (.var 1)) (.gog (.var 1) true false (.ret (.var 3)) (.gpick (.var 2) (.call 118 [(.var 1), (.var 0)] (.og (.aun .not (.var 0)) (.jump 0 [(.var 5), (.var 6), (.var 0)]))) (.jump 0 [(.var 3), (.var 4), (.lit (.val (.bool false)))]) (.no))))))) (.og (.ibin .eql (.var 1) (.lit (.val (.int .i64 0)))) (.gog (.var 0) true false (.ret (.var 3)) (.gog (.var 1) true false (.anil (.var 0)) (.gog (.var 2) true false (.fldA 1 (.var 0)) (.gog (.var 3) true false (.lod (.var 0)) (.gog (.var 4) true false (.ibin .neq (.var 0) (.lit (.val (.int .i64 (-1))))) (.og (.pickV (.var 5) (.var 0) (.lit (.val (.bool false)))) (.gog (.var 0) false false (.ret (.var 8)) (.gog (.var 1) false false (.ibin .gtr (.var 0) (.lit (.val (.int .i64 0)))) (.gog (.var 2) false false (.ret (.var 0)) (.gog (.var 0) true true (.ret (.var 12)) (.gog (.var 1) true true (.anil (.var 0)) (.gog (.var 2) true true (.fldA 1 (.var 0)) (.gog (.var 3) true true (.lod (.var 0)) (.gog (.var 4) true true (.ret (.var 15)) (.gog (.var 5) true true (.ibin .sub (.var 0) (.lit (.val (.int .i64 1)))) (.gpick (.var 6) (.call 50 [(.var 2), (.lit (.val (.int .i64 0))), (.var 0)] (.og (.aun .not (.var 0)) (.gog (.var 11) false false (.ret (.var 0)) (.og (.pickV (.var 12) (.lit (.val (.bool true))) (.var 0)) (.jump 0 [(.var 20), (.var 21), (.var 0)]))))) (.gog (.var 9) false false (.ret (.lit (.val (.bool false)))) (.og (.pickV (.var 10) (.lit (.val (.bool true))) (.var 0)) (.jump 0 [(.var 18), (.var 19), (.var 0)]))) (.gog (.var 9) false false (.pickV (.lit (.tup [])) (.lit (.tup [])) (.lit (.val (.bool false)))) (.og (.pickV (.var 10) (.lit (.val (.bool true))) (.var 0)) (.jump 0 [(.var 18), (.var 19), (.var 0)])))))))))))))))))))))) (.og (.anil (.var 2)) (.og (.fldA 0 (.var 0)) (.og (.lod (.var 0)) (.og (.ibin .eql (.var 0) (.lit (.val (.int .i64 3)))) (.gog (.var 0) true false (.ret (.var 6)) (.gog (.var 1) true false (.anil (.var 0)) (.gog (.var 2) true false (.fldA 3 (.var 0)) (.gog (.var 3) true false (.lod (.var 0)) (.gpick (.var 4) (.call 88 [(.var 0)] (.og (.aun .not (.var 0)) (.jump 0 [(.var 10), (.var 11), (.var 12), (.var 0)]))) (.jump 0 [(.var 8), (.var 9), (.var 10), (.lit (.val (.bool false)))]) (.no)))))))))))) (.og (.anil (.var 2)) (.og (.fldA 0 (.var 0)) (.og (.lod (.var 0)) (.og (.ibin .eql (.var 0) (.lit (.val (.int .i64 1)))) (.gog (.var 0) true false (.ret (.var 6)) (.gog (.var 1) true false (.anil (.var 0)) (.gog (.var 2) true false (.fldA 2 (.var 0)) (.gog (.var 3) true false (.lod (.var 0)) (.gpick (.var 4) (.call 117 [(.var 0)] (.og (.aun .not (.var 0)) (.gog (.var 0) false false (.ret (.var 12)) (.gog (.var 1) false false (.anil (.var 0)) (.gog (.var 2) false false (.fldA 0 (.var 0)) (.gog (.var 3) false false (.lod (.var 0)) (.gog (.var 4) false false (.ibin .eql (.var 0) (.lit (.val (.int .i64 2)))) (.gog (.var 5) false false (.ret (.var 0)) (.gog (.var 0) true true (.ret (.var 18)) (.gog (.var 1) true true (.anil (.var 0)) (.gog (.var 2) true true (.fldA 2 (.var 0)) (.gog (.var 3) true true (.lod (.var 0)) (.gpick (.var 4) (.call 50 [(.var 0), (.lit (.val (.int .i64 0))), (.lit (.val (.int .i64 1)))] (.og (.aun .not (.var 0)) (.gog (.var 12) false false (.ret (.var 0)) (.og (.pickV (.var 13) (.lit (.val (.bool true))) (.var 0)) (.jump 0 [(.var 29), (.var 30), (.var 26), (.var 0)]))))) (.gog (.var 10) false false (.ret (.lit (.val (.bool false)))) (.og (.pickV (.var 11) (.lit (.val (.bool true))) (.var 0)) (.jump 0 [(.var 27), (.var 28), (.var 24), (.var 0)]))) (.gog (.var 10) false false (.pickV (.lit (.tup [])) (.lit (.tup [])) (.lit (.val (.bool false)))) (.og (.pickV (.var 11) (.lit (.val (.bool true))) (.var 0)) (.jump 0 [(.var 27), (.var 28), (.var 24), (.var 0)])))))))))))))))) (.og (.anil (.var 10)) (.og (.fldA 0 (.var 0)) (.og (.lod (.var 0)) (.og (.ibin .eql (.var 0) (.lit (.val (.int .i64 2)))) (.gog (.var 0) true true (.ret (.var 14)) (.gog (.var 1) true true (.anil (.var 0)) (.gog (.var 2) true true (.fldA 2 (.var 0)) (.gog (.var 3) true true (.lod (.var 0)) (.gpick (.var 4) (.call 50 [(.var 0), (.lit (.val (.int .i64 0))), (.lit (.val (.int .i64 1)))] (.og (.aun .not (.var 0)) (.jump 0 [(.var 23), (.var 24), (.var 20), (.var 0)]))) (.jump 0 [(.var 21), (.var 22), (.var 18), (.lit (.val (.bool false)))]) (.og (.pickV (.lit (.tup [])) (.lit (.tup [])) (.lit (.val (.bool false)))) (.jump 0 [(.var 22), (.var 23), (.var 19), (.var 0)]))))))))))) (.no))))))))))))))) (.ret (.lit (.val (.int .i64 0))))))) [(.var 6), (.lit (.val (.int .i64 0)))])))))))
set_option maxRecDepth 1000000 in
theorem x89_ok : okF TT Tryz.f89 1 x89 = true := by decide +kernel
set_option maxRecDepth 1000000 in
theorem s_spec_l3Fault_ok {a0 : AV} {σ : AH} {R : AEnd → AH → Prop} (h : s_spec_l3Fault a0 σ R) : acall TP fn_spec_l3Fault [a0] σ R :=
  acall_okF (ρ := [a0]) TT_ok Tryz.func89 rfl x89 x89_ok rfl h

/-- loop.example/g00349/spec.l10High -/
def s_spec_l10High (a0 a1 : AV) (σ : AH) (R : AEnd → AH → Prop) : Prop :=
  og (anil a0) fun v8 =>
  og (fldA 0 v8) fun v9 =>
  og (lod v9 σ) fun v10 =>
  og (ibin .eql v10 (.val (.int .i64 12))) fun v12 =>
  apick v12 (
    og (ibin .eql a1 (.val (.int .i64 1))) fun v14 =>
    aret v14 σ R) (
    og (ibin .eql v10 (.val (.int .i64 11))) fun v16 =>
    apick v16 (
      og (anil a0) fun v19 =>
      og (fldA 1 v19) fun v20 =>
      og (lod v20 σ) fun v21 =>
      og (ibin .add v21 (.val (.int .i64 1))) fun v22 =>
      og (ibin .eql a1 v22) fun v23 =>
      aret v23 σ R) (
      jn (X := Tup [0, 1, 24]) (fun x1 σ =>
          apick x1.2.2.1 (
            og (ibin .eql x1.2.1 (.val (.int .i64 0))) fun v28 =>
            aret v28 σ R) (
            acall TP fn_spec_l10Takes [x1.1] σ (onr (fun v31 σ =>
            og (aext v31 0) fun v32 =>
            og (aext v31 1) fun v33 =>
            og (ibin .geq x1.2.1 v32) fun v36 =>
            aret v36 σ R) (fun v σ => apan v σ R)))) fun k1 =>
        og (ibin .eql v10 (.val (.int .i64 13))) fun v25 =>
        apick v25 (
          k1 (a0, a1, v25, ()) σ) (
          og (ibin .eql v10 (.val (.int .i64 14))) fun v26 =>
          k1 (a0, a1, v26, ()) σ)))
def x90 : Sx := .og (.anil (.var 1)) (.og (.fldA 0 (.var 0)) (.og (.lod (.var 0)) (.og (.ibin .eql (.var 0) (.lit (.val (.int .i64 12)))) (.apick (.var 0) (.og (.ibin .eql (.var 4) (.lit (.val (.int .i64 1)))) (.ret (.var 0))) (.og (.ibin .eql (.var 1) (.lit (.val (.int .i64 11)))) (.apick (.var 0) (.og (.anil (.var 6)) (.og (.fldA 1 (.var 0)) (.og (.lod (.var 0)) (.og (.ibin .add (.var 0) (.lit (.val (.int .i64 1)))) (.og (.ibin .eql (.var 9) (.var 0)) (.ret (.var 0))))))) (.jn 863 [0, 1, 24] (.apick (.var 2) (.og (.ibin .eql (.var 1) (.lit (.val (.int .i64 0)))) (.ret (.var 0))) (.call 91 [(.var 0)] (.og (.aext (.var 0) 0) (.og (.aext (.var 1) 1) (.og (.ibin .geq (.var 4) (.var 1)) (.ret (.var 0))))))) (.og (.ibin .eql (.var 2) (.lit (.val (.int .i64 13)))) (.apick (.var 0) (.jump 0 [(.var 7), (.var 6), (.var 0)]) (.og (.ibin .eql (.var 3) (.lit (.val (.int .i64 14)))) (.jump 0 [(.var 8), (.var 7), (.var 0)])))))))))))
set_option maxRecDepth 1000000 in
theorem x90_ok : okF TT Tryz.f90 2 x90 = true := by decide +kernel
set_option maxRecDepth 1000000 in
theorem s_spec_l10High_ok {a0 a1 : AV} {σ : AH} {R : AEnd → AH → Prop} (h : s_spec_l10High a0 a1 σ R) : acall TP fn_spec_l10High [a0, a1] σ R :=
  acall_okF (ρ := [a1, a0]) TT_ok Tryz.func90 rfl x90 x90_ok rfl h

/-- loop.example/g00349/spec.l10Takes -/
def s_spec_l10Takes (a0 : AV) (σ : AH) (R : AEnd → AH → Prop) : Prop :=
  og (anil a0) fun v5 =>
  og (fldA 0 v5) fun v6 =>
  og (lod v6 σ) fun v7 =>
  jn (X := Tup [0, 7, 8]) (fun x1 σ =>
      apick x1.2.2.1 (
        aret (.tup [(.val (.int .i64 0)), (.val (.int .i64 1))]) σ R) (
        jn (X := Tup [0, 7, 13]) (fun x2 σ =>
            apick x2.2.2.1 (
              aret (.tup [(.val (.int .i64 1)), (.val (.int .i64 0))]) σ R) (
              jn (X := Tup [0, 7, 16]) (fun x3 σ =>
                  apick x3.2.2.1 (
                    aret (.tup [(.val (.int .i64 1)), (.val (.int .i64 1))]) σ R) (
                    og (ibin .eql x3.2.1 (.val (.int .i64 10))) fun v20 =>
                    apick v20 (
                      og (anil x3.1) fun v22 =>
                      og (fldA 1 v22) fun v23 =>
                      og (lod v23 σ) fun v24 =>
                      og (ibin .add v24 (.val (.int .i64 1))) fun v25 =>
                      aret (.tup [v25, (.val (.int .i64 1))]) σ R) (
                      og (ibin .eql x3.2.1 (.val (.int .i64 15))) fun v27 =>
                      apick v27 (
                        aret (.tup [(.val (.int .i64 0)), (.val (.int .i64 2))]) σ R) (
                        aret (.tup [(.val (.int .i64 0)), (.val (.int .i64 0))]) σ R)))) fun k3 =>
                og (ibin .eql x2.2.1 (.val (.int .i64 8))) fun v17 =>
                apick v17 (
                  k3 (x2.1, x2.2.1, v17, ()) σ) (
                  og (ibin .eql x2.2.1 (.val (.int .i64 9))) fun v18 =>
                  k3 (x2.1, x2.2.1, v18, ()) σ))) fun k2 =>
          og (ibin .eql x1.2.1 (.val (.int .i64 6))) fun v14 =>
          apick v14 (
            k2 (x1.1, x1.2.1, v14, ()) σ) (
            og (ibin .eql x1.2.1 (.val (.int .i64 7))) fun v15 =>
            k2 (x1.1, x1.2.1, v15, ()) σ))) fun k1 =>
    og (ibin .eql v7 (.val (.int .i64 1))) fun v9 =>
    apick v9 (
      k1 (a0, v7, v9, ()) σ) (
      og (ibin .eql v7 (.val (.int .i64 2))) fun v10 =>
      apick v10 (
        k1 (a0, v7, v10, ()) σ) (
        og (ibin .eql v7 (.val (.int .i64 3))) fun v11 =>
        apick v11 (
          k1 (a0, v7, v11, ()) σ) (
          og (ibin .eql v7 (.val (.int .i64 4))) fun v12 =>
          k1 (a0, v7, v12, ()) σ)))
def x91 : Sx := .og (.anil (.var 0)) (.og (.fldA 0 (.var 0)) (.og (.lod (.var 0)) (.jn 53 [0, 7, 8] (.apick (.var 2) (.rets [(.lit (.val (.int .i64 0))), (.lit (.val (.int .i64 1)))]) (.jn 215 [0, 7, 13] (.apick (.var 2) (.rets [(.lit (.val (.int .i64 1))), (.lit (.val (.int .i64 0)))]) (.jn 863 [0, 7, 16] (.apick (.var 2) (.rets [(.lit (.val (.int .i64 1))), (.lit (.val (.int .i64 1)))]) (.og (.ibin .eql (.var 1) (.lit (.val (.int .i64 10)))) (.apick (.var 0) (.og (.anil (.var 1)) (.og (.fldA 1 (.var 0)) (.og (.lod (.var 0)) (.og (.ibin .add (.var 0) (.lit (.val (.int .i64 1)))) (.rets [(.var 0), (.lit (.val (.int .i64 1)))]))))) (.og (.ibin .eql (.var 2) (.lit (.val (.int .i64 15)))) (.apick (.var 0) (.rets [(.lit (.val (.int .i64 0))), (.lit (.val (.int .i64 2)))]) (.rets [(.lit (.val (.int .i64 0))), (.lit (.val (.int .i64 0)))])))))) (.og (.ibin .eql (.var 1) (.lit (.val (.int .i64 8)))) (.apick (.var 0) (.jump 0 [(.var 1), (.var 2), (.var 0)]) (.og (.ibin .eql (.var 2) (.lit (.val (.int .i64 9)))) (.jump 0 [(.var 2), (.var 3), (.var 0)])))))) (.og (.ibin .eql (.var 1) (.lit (.val (.int .i64 6)))) (.apick (.var 0) (.jump 0 [(.var 1), (.var 2), (.var 0)]) (.og (.ibin .eql (.var 2) (.lit (.val (.int .i64 7)))) (.jump 0 [(.var 2), (.var 3), (.var 0)])))))) (.og (.ibin .eql (.var 0) (.lit (.val (.int .i64 1)))) (.apick (.var 0) (.jump 0 [(.var 4), (.var 1), (.var 0)]) (.og (.ibin .eql (.var 1) (.lit (.val (.int .i64 2)))) (.apick (.var 0) (.jump 0 [(.var 5), (.var 2), (.var 0)]) (.og (.ibin .eql (.var 2) (.lit (.val (.int .i64 3)))) (.apick (.var 0) (.jump 0 [(.var 6), (.var 3), (.var 0)]) (.og (.ibin .eql (.var 3) (.lit (.val (.int .i64 4)))) (.jump 0 [(.var 7), (.var 4), (.var 0)])))))))))))
set_option maxRecDepth 1000000 in
theorem x91_ok : okF TT Tryz.f91 1 x91 = true := by decide +kernel
set_option maxRecDepth 1000000 in
theorem s_spec_l10Takes_ok {a0 : AV} {σ : AH} {R : AEnd → AH → Prop} (h : s_spec_l10Takes a0 σ R) : acall TP fn_spec_l10Takes [a0] σ R :=
  acall_okF (ρ := [a0]) TT_ok Tryz.func91 rfl x91 x91_ok rfl h

/-- loop.example/g00349/spec.l10Ends -/
def s_spec_l10Ends (a0 : AV) (σ : AH) (R : AEnd → AH → Prop) : Prop :=
  jn (X := Tup [2]) (fun x1 σ =>
      aret x1.1 σ R) fun k1 =>
    og (ibin .eql a0 (.val (.int .i64 5))) fun v4 =>
    og (gval v4 false false (some a0)) fun v6 =>
    og (gval v4 false false (ibin .eql v6 (.val (.int .i64 11)))) fun v7 =>
    og (pickV v4 (.val (.bool true)) v7) fun v8 =>
    og (gval v8 false false (some a0)) fun v10 =>
    gpick v8 (
      k1 ((.val (.bool true)), ()) σ) (
      acall TP fn_spec_l1In [v10, (.val (.int .i64 12)), (.val (.int .i64 14))] σ (onr (fun v11 σ =>
      k1 (v11, ()) σ) (fun v σ => apan v σ R))) (False)
def x92 : Sx := .jn 7 [2] (.ret (.var 0)) (.og (.ibin .eql (.var 0) (.lit (.val (.int .i64 5)))) (.gog (.var 0) false false (.ret (.var 1)) (.gog (.var 1) false false (.ibin .eql (.var 0) (.lit (.val (.int .i64 11)))) (.og (.pickV (.var 2) (.lit (.val (.bool true))) (.var 0)) (.gog (.var 0) false false (.ret (.var 4)) (.gpick (.var 1) (.jump 0 [(.lit (.val (.bool true)))]) (.call 50 [(.var 0), (.lit (.val (.int .i64 12))), (.lit (.val (.int .i64 14)))] (.jump 0 [(.var 0)])) (.no)))))))
set_option maxRecDepth 1000000 in
theorem x92_ok : okF TT Tryz.f92 1 x92 = true := by decide +kernel
set_option maxRecDepth 1000000 in
theorem s_spec_l10Ends_ok {a0 : AV} {σ : AH} {R : AEnd → AH → Prop} (h : s_spec_l10Ends a0 σ R) : acall TP fn_spec_l10Ends [a0] σ R :=
  acall_okF (ρ := [a0]) TT_ok Tryz.func92 rfl x92 x92_ok rfl h

/-- loop.example/g00349/spec.l10Lead -/
def s_spec_l10Lead (a0 a1 a2 : AV) (σ : AH) (R : AEnd → AH → Prop) : Prop :=
  og (lenS a0) fun v10 =>
  og (ibin .sub v10 (.val (.int .i64 1))) fun v11 =>
  acall TP fn_spec_l1In [a1, (.val (.int .i64 0)), v11] σ (onr (fun v12 σ =>
  og (aun .not v12) fun v13 =>
  apick v13 (
    aret (.tup [(.val (.bool false)), (.val (.bool false))]) σ R) (
    og (idx 1 a0 a1 σ) fun v16 =>
    og (lod v16 σ) fun v17 =>
    og (ibin .lss v17 (.val (.int .i64 0))) fun v18 =>
    apick v18 (
      og (idx 1 a0 a1 σ) fun v22 =>
      sto 1 v22 a2 σ fun σ =>
      aret (.tup [(.val (.bool true)), (.val (.bool true))]) σ R) (
      og (idx 1 a0 a1 σ) fun v25 =>
      og (lod v25 σ) fun v26 =>
      og (ibin .eql v26 a2) fun v28 =>
      aret (.tup [(.val (.bool false)), v28]) σ R))) (fun v σ => apan v σ R))
def x93 : Sx := .og (.lenS (.var 2)) (.og (.ibin .sub (.var 0) (.lit (.val (.int .i64 1)))) (.call 50 [(.var 3), (.lit (.val (.int .i64 0))), (.var 0)] (.og (.aun .not (.var 0)) (.apick (.var 0) (.rets [(.lit (.val (.bool false))), (.lit (.val (.bool false)))]) (.og (.idx 1 (.var 6) (.var 5)) (.og (.lod (.var 0)) (.og (.ibin .lss (.var 0) (.lit (.val (.int .i64 0)))) (.apick (.var 0) (.og (.idx 1 (.var 9) (.var 8)) (.sto 1 (.var 0) (.var 8) (.rets [(.lit (.val (.bool true))), (.lit (.val (.bool true)))]))) (.ord [0, 1, 2, 3, 4, 5, 6, 7] [0, 0, 3, 7, 0, 31, 0, 127] (.og (.idx 1 (.var 9) (.var 8)) (.og (.lod (.var 0)) (.og (.ibin .eql (.var 0) (.var 9)) (.rets [(.lit (.val (.bool false))), (.var 0)])))))))))))))
set_option maxRecDepth 1000000 in
theorem x93_ok : okF TT Tryz.f93 3 x93 = true := by decide +kernel
set_option maxRecDepth 1000000 in
theorem s_spec_l10Lead_ok {a0 a1 a2 : AV} {σ : AH} {R : AEnd → AH → Prop} (h : s_spec_l10Lead a0 a1 a2 σ R) : acall TP fn_spec_l10Lead [a0, a1, a2] σ R :=
  acall_okF (ρ := [a2, a1, a0]) TT_ok Tryz.func93 rfl x93 x93_ok rfl h

/-- loop.example/g00349/laws.toDatum -/
def s_laws_toDatum (a0 : AV) (σ : AH) (R : AEnd → AH → Prop) : Prop :=
  abox a0 σ fun v1 σ =>
  new [(.val (.int .i64 0)), (.val (.int .i64 0)), (.val (.int .i64 0)), (.val (.string ⟨#[]⟩))] σ fun v2 σ =>
  frz v1 σ fun f1 σ =>
  new [(.val (.int .i64 0)), (.val (.int .i64 0)), (.val (.int .i64 0)), (.val (.string ⟨#[]⟩))] σ fun v3 σ =>
  og (fldA 0 f1) fun v4 =>
  og (lod v4 σ) fun v5 =>
  og (fldA 0 v3) fun v6 =>
  sto 1 v6 v5 σ fun σ =>
  og (fldA 1 f1) fun v7 =>
  og (lod v7 σ) fun v8 =>
  og (fldA 1 v3) fun v9 =>
  sto 1 v9 v8 σ fun σ =>
  og (fldA 2 f1) fun v10 =>
  og (lod v10 σ) fun v11 =>
  og (fldA 2 v3) fun v12 =>
  sto 1 v12 v11 σ fun σ =>
  og (fldA 3 f1) fun v13 =>
  og (lod v13 σ) fun v14 =>
  og (fldA 3 v3) fun v15 =>
  sto 1 v15 v14 σ fun σ =>
  frz v3 σ fun f3 σ =>
  og (lodA 4 f3 σ) fun v16 =>
  sto 4 v2 v16 σ fun σ =>
  og (lodA 4 v2 σ) fun r2 =>
  aret r2 σ R
def x94 : Sx := .box (.var 0) (.new [(.val (.int .i64 0)), (.val (.int .i64 0)), (.val (.int .i64 0)), (.val (.string ⟨#[]⟩))] (.frz 1 (.var 1) (.new [(.val (.int .i64 0)), (.val (.int .i64 0)), (.val (.int .i64 0)), (.val (.string ⟨#[]⟩))] (.og (.fldA 0 (.var 1)) (.og (.lod (.var 0)) (.og (.fldA 0 (.var 2)) (.sto 1 (.var 0) (.var 1) (.og (.fldA 1 (.var 4)) (.og (.lod (.var 0)) (.og (.fldA 1 (.var 5)) (.sto 1 (.var 0) (.var 1) (.og (.fldA 2 (.var 7)) (.og (.lod (.var 0)) (.og (.fldA 2 (.var 8)) (.sto 1 (.var 0) (.var 1) (.og (.fldA 3 (.var 10)) (.og (.lod (.var 0)) (.og (.fldA 3 (.var 11)) (.sto 1 (.var 0) (.var 1) (.frz 4 (.var 12) (.og (.lodA 4 (.var 0)) (.sto 4 (.var 16) (.var 0) (.og (.lodA 4 (.var 16)) (.ret (.var 0)))))))))))))))))))))))))
set_option maxRecDepth 1000000 in
theorem x94_ok : okF TT Tryz.f94 1 x94 = true := by decide +kernel
set_option maxRecDepth 1000000 in
theorem s_laws_toDatum_ok {a0 : AV} {σ : AH} {R : AEnd → AH → Prop} (h : s_laws_toDatum a0 σ R) : acall TP fn_laws_toDatum [a0] σ R :=
  acall_okF (ρ := [a0]) TT_ok Tryz.func94 rfl x94 x94_ok rfl h

/-- loop.example/g00349/impl.OpFault$1 -/
def s_impl_OpFault_1 (a0 : AV) (σ : AH) (R : AEnd → AH → Prop) : Prop :=
  og (ibin .neq a0 (.val (.int .i64 0))) fun v4 =>
  aret v4 σ R
def x95 : Sx := .og (.ibin .neq (.var 0) (.lit (.val (.int .i64 0)))) (.ret (.var 0))
set_option maxRecDepth 1000000 in
theorem x95_ok : okF TT Tryz.f95 1 x95 = true := by decide +kernel
set_option maxRecDepth 1000000 in
theorem s_impl_OpFault_1_ok {a0 : AV} {σ : AH} {R : AEnd → AH → Prop} (h : s_impl_OpFault_1 a0 σ R) : acall TP fn_impl_OpFault_1 [a0] σ R :=
  acall_okF (ρ := [a0]) TT_ok Tryz.func95 rfl x95 x95_ok rfl h

/-- slices.ContainsFunc[[]int64,int64] -/
def s_slices_ContainsFunc (a0 a1 : AV) (σ : AH) (R : AEnd → AH → Prop) : Prop :=
  acall TP fn_slices_IndexFunc [a0, a1] σ (onr (fun v7 σ =>
  og (ibin .geq v7 (.val (.int .i64 0))) fun v8 =>
  aret v8 σ R) (fun v σ => apan v σ R))
def x96 : Sx := .call 120 [(.var 1), (.var 0)] (.og (.ibin .geq (.var 0) (.lit (.val (.int .i64 0)))) (.ret (.var 0)))
set_option maxRecDepth 1000000 in
theorem x96_ok : okF TT Tryz.f96 2 x96 = true := by decide +kernel
set_option maxRecDepth 1000000 in
theorem s_slices_ContainsFunc_ok {a0 a1 : AV} {σ : AH} {R : AEnd → AH → Prop} (h : s_slices_ContainsFunc a0 a1 σ R) : acall TP fn_slices_ContainsFunc [a0, a1] σ R :=
  acall_okF (ρ := [a1, a0]) TT_ok Tryz.func96 rfl x96 x96_ok rfl h

/-- loop.example/g00349/impl.opNums -/
def s_impl_opNums (a0 : AV) (σ : AH) (R : AEnd → AH → Prop) : Prop :=
  jn (X := Tup [3, 4]) (fun x1 σ =>
      apick x1.2.1 (
        aret (.val (.int .i64 1)) σ R) (
        jn (X := Tup [3, 10]) (fun x2 σ =>
            apick x2.2.1 (
              aret (.val (.int .i64 2)) σ R) (
              og (ibin .eql x2.1 (.val (.int .i64 16))) fun v14 =>
              apick v14 (
                aret (.val (.int .i64 3)) σ R) (
                og (ibin .eql x2.1 (.val (.int .i64 15))) fun v16 =>
                apick v16 (
                  aret (.val (.int .i64 4)) σ R) (
                  aret (.val (.int .i64 0)) σ R)))) fun k2 =>
          og (ibin .eql x1.1 (.val (.int .i64 2))) fun v11 =>
          apick v11 (
            k2 (x1.1, v11, ()) σ) (
            og (ibin .eql x1.1 (.val (.int .i64 14))) fun v12 =>
            k2 (x1.1, v12, ()) σ))) fun k1 =>
    og (ibin .eql a0 (.val (.int .i64 4))) fun v5 =>
    apick v5 (
      k1 (a0, v5, ()) σ) (
      og (ibin .eql a0 (.val (.int .i64 5))) fun v6 =>
      apick v6 (
        k1 (a0, v6, ()) σ) (
        og (ibin .eql a0 (.val (.int .i64 6))) fun v7 =>
        apick v7 (
          k1 (a0, v7, ()) σ) (
          og (ibin .eql a0 (.val (.int .i64 10))) fun v8 =>
          apick v8 (
            k1 (a0, v8, ()) σ) (
            og (ibin .eql a0 (.val (.int .i64 11))) fun v9 =>
            k1 (a0, v9, ()) σ))))
def x97 : Sx := .jn 53 [3, 4] (.apick (.var 1) (.ret (.lit (.val (.int .i64 1)))) (.jn 215 [3, 10] (.apick (.var 1) (.ret (.lit (.val (.int .i64 2)))) (.og (.ibin .eql (.var 0) (.lit (.val (.int .i64 16)))) (.apick (.var 0) (.ret (.lit (.val (.int .i64 3)))) (.og (.ibin .eql (.var 1) (.lit (.val (.int .i64 15)))) (.apick (.var 0) (.ret (.lit (.val (.int .i64 4)))) (.ret (.lit (.val (.int .i64 0))))))))) (.og (.ibin .eql (.var 0) (.lit (.val (.int .i64 2)))) (.apick (.var 0) (.jump 0 [(.var 1), (.var 0)]) (.og (.ibin .eql (.var 1) (.lit (.val (.int .i64 14)))) (.jump 0 [(.var 2), (.var 0)])))))) (.og (.ibin .eql (.var 0) (.lit (.val (.int .i64 4)))) (.apick (.var 0) (.jump 0 [(.var 1), (.var 0)]) (.og (.ibin .eql (.var 1) (.lit (.val (.int .i64 5)))) (.apick (.var 0) (.jump 0 [(.var 2), (.var 0)]) (.og (.ibin .eql (.var 2) (.lit (.val (.int .i64 6)))) (.apick (.var 0) (.jump 0 [(.var 3), (.var 0)]) (.og (.ibin .eql (.var 3) (.lit (.val (.int .i64 10)))) (.apick (.var 0) (.jump 0 [(.var 4), (.var 0)]) (.og (.ibin .eql (.var 4) (.lit (.val (.int .i64 11)))) (.jump 0 [(.var 5), (.var 0)]))))))))))
set_option maxRecDepth 1000000 in
theorem x97_ok : okF TT Tryz.f97 1 x97 = true := by decide +kernel
set_option maxRecDepth 1000000 in
theorem s_impl_opNums_ok {a0 : AV} {σ : AH} {R : AEnd → AH → Prop} (h : s_impl_opNums a0 σ R) : acall TP fn_impl_opNums [a0] σ R :=
  acall_okF (ρ := [a0]) TT_ok Tryz.func97 rfl x97 x97_ok rfl h

/-- loop.example/g00349/impl.opNamed -/
def s_impl_opNamed (a0 : AV) (σ : AH) (R : AEnd → AH → Prop) : Prop :=
  og (ibin .eql a0 (.val (.int .i64 3))) fun v4 =>
  og (gval v4 false false (some a0)) fun v6 =>
  og (gval v4 false false (ibin .eql v6 (.val (.int .i64 8)))) fun v7 =>
  og (pickV v4 (.val (.bool true)) v7) fun v8 =>
  og (gval v8 false false (some a0)) fun v10 =>
  og (gval v8 false false (ibin .eql v10 (.val (.int .i64 9)))) fun v11 =>
  og (pickV v8 (.val (.bool true)) v11) fun v12 =>
  aret v12 σ R
def x98 : Sx := .og (.ibin .eql (.var 0) (.lit (.val (.int .i64 3)))) (.gog (.var 0) false false (.ret (.var 1)) (.gog (.var 1) false false (.ibin .eql (.var 0) (.lit (.val (.int .i64 8)))) (.og (.pickV (.var 2) (.lit (.val (.bool true))) (.var 0)) (.gog (.var 0) false false (.ret (.var 4)) (.gog (.var 1) false false (.ibin .eql (.var 0) (.lit (.val (.int .i64 9)))) (.og (.pickV (.var 2) (.lit (.val (.bool true))) (.var 0)) (.ret (.var 0))))))))
set_option maxRecDepth 1000000 in
theorem x98_ok : okF TT Tryz.f98 1 x98 = true := by decide +kernel
set_option maxRecDepth 1000000 in
theorem s_impl_opNamed_ok {a0 : AV} {σ : AH} {R : AEnd → AH → Prop} (h : s_impl_opNamed a0 σ R) : acall TP fn_impl_opNamed [a0] σ R :=
  acall_okF (ρ := [a0]) TT_ok Tryz.func98 rfl x98 x98_ok rfl h

/-- loop.example/g00349/impl.opData -/
def s_impl_opData (a0 : AV) (σ : AH) (R : AEnd → AH → Prop) : Prop :=
  og (ibin .eql a0 (.val (.int .i64 1))) fun v4 =>
  og (gval v4 false false (some a0)) fun v6 =>
  og (gval v4 false false (ibin .eql v6 (.val (.int .i64 13)))) fun v7 =>
  og (pickV v4 (.val (.bool true)) v7) fun v8 =>
  aret v8 σ R
def x99 : Sx := .og (.ibin .eql (.var 0) (.lit (.val (.int .i64 1)))) (.gog (.var 0) false false (.ret (.var 1)) (.gog (.var 1) false false (.ibin .eql (.var 0) (.lit (.val (.int .i64 13)))) (.og (.pickV (.var 2) (.lit (.val (.bool true))) (.var 0)) (.ret (.var 0)))))
set_option maxRecDepth 1000000 in
theorem x99_ok : okF TT Tryz.f99 1 x99 = true := by decide +kernel
set_option maxRecDepth 1000000 in
theorem s_impl_opData_ok {a0 : AV} {σ : AH} {R : AEnd → AH → Prop} (h : s_impl_opData a0 σ R) : acall TP fn_impl_opData [a0] σ R :=
  acall_okF (ρ := [a0]) TT_ok Tryz.func99 rfl x99 x99_ok rfl h

/-- loop.example/g00349/impl.OpFault$2 -/
def s_impl_OpFault_2 (a0 : AV) (σ : AH) (R : AEnd → AH → Prop) : Prop :=
  acall TP fn_impl_in [a0, (.val (.int .i64 0)), (.val (.int .i64 999))] σ (onr (fun v4 σ =>
  og (aun .not v4) fun v5 =>
  aret v5 σ R) (fun v σ => apan v σ R))
def x100 : Sx := .call 52 [(.var 0), (.lit (.val (.int .i64 0))), (.lit (.val (.int .i64 999)))] (.og (.aun .not (.var 0)) (.ret (.var 0)))
set_option maxRecDepth 1000000 in
theorem x100_ok : okF TT Tryz.f100 1 x100 = true := by decide +kernel
set_option maxRecDepth 1000000 in
theorem s_impl_OpFault_2_ok {a0 : AV} {σ : AH} {R : AEnd → AH → Prop} (h : s_impl_OpFault_2 a0 σ R) : acall TP fn_impl_OpFault_2 [a0] σ R :=
  acall_okF (ρ := [a0]) TT_ok Tryz.func100 rfl x100 x100_ok rfl h

/-- loop.example/g00349/impl.SymFault -/
def s_impl_SymFault (a0 : AV) (σ : AH) (R : AEnd → AH → Prop) : Prop :=
  jn (X := Tup [11]) (fun x1 σ =>
      apick x1.1 (
        aret (.val (.int .i64 5)) σ R) (
        aret (.val (.int .i64 0)) σ R)) fun k1 =>
    og (lenStr a0) fun v4 =>
    acall TP fn_impl_in [v4, (.val (.int .i64 1)), (.val (.int .i64 12))] σ (onr (fun v5 σ =>
    og (aun .not v5) fun v6 =>
    og (gval v6 false false (some a0)) fun v8 =>
    gpick v6 (
      k1 ((.val (.bool true)), ()) σ) (
      acall TP fn_strings_Trim [v8, (.val (.string ⟨#[97, 98, 99, 100, 101, 102, 103, 104, 105, 106, 107, 108, 109, 110, 111, 112, 113, 114, 115, 116, 117, 118, 119, 120, 121, 122, 43, 45, 42, 47, 60, 61, 63, 33]⟩))] σ (onr (fun v9 σ =>
      og (sbin .neq v9 (.val (.string ⟨#[]⟩))) fun v10 =>
      k1 (v10, ()) σ) (fun v σ => apan v σ R))) (False)) (fun v σ => apan v σ R))
def x101 : Sx := .jn 13 [11] (.apick (.var 0) (.ret (.lit (.val (.int .i64 5)))) (.ret (.lit (.val (.int .i64 0))))) (.og (.lenStr (.var 0)) (.call 52 [(.var 0), (.lit (.val (.int .i64 1))), (.lit (.val (.int .i64 12)))] (.og (.aun .not (.var 0)) (.gog (.var 0) false false (.ret (.var 3)) (.gpick (.var 1) (.jump 0 [(.lit (.val (.bool true)))]) (.call 121 [(.var 0), (.lit (.val (.string ⟨#[97, 98, 99, 100, 101, 102, 103, 104, 105, 106, 107, 108, 109, 110, 111, 112, 113, 114, 115, 116, 117, 118, 119, 120, 121, 122, 43, 45, 42, 47, 60, 61, 63, 33]⟩)))] (.og (.sbin .neq (.var 0) (.lit (.val (.string ⟨#[]⟩)))) (.jump 0 [(.var 0)]))) (.no))))))
set_option maxRecDepth 1000000 in
theorem x101_ok : okF TT Tryz.f101 1 x101 = true := by decide +kernel
set_option maxRecDepth 1000000 in
theorem s_impl_SymFault_ok {a0 : AV} {σ : AH} {R : AEnd → AH → Prop} (h : s_impl_SymFault a0 σ R) : acall TP fn_impl_SymFault [a0] σ R :=
  acall_okF (ρ := [a0]) TT_ok Tryz.func101 rfl x101 x101_ok rfl h

/-- loop.example/g00349/impl.DataFault -/
def s_impl_DataFault (a0 : AV) (σ : AH) (R : AEnd → AH → Prop) : Prop :=
  og (lenS a0) fun v6 =>
  acall TP fn_impl_in [v6, (.val (.int .i64 1)), (.val (.int .i64 80))] σ (onr (fun v7 σ =>
  og (aun .not v7) fun v8 =>
  apick v8 (
    aret (.val (.int .i64 2)) σ R) (
    og (lenS a0) fun v10 =>
    lp (X := Tup [0, 10, 11]) (fun R1 y1 σ =>
      og (ibin .lss y1.2.2.1 y1.2.1) fun v12 =>
      apick v12 (
        acall TP fn_impl_datumFault [y1.1, y1.2.2.1] σ (onr (fun v16 σ =>
        og (ibin .neq v16 (.val (.int .i64 0))) fun v18 =>
        apick v18 (
          aret v16 σ R) (
          og (ibin .add y1.2.2.1 (.val (.int .i64 1))) fun v20 =>
          R1 (y1.1, y1.2.1, v20, ()) σ)) (fun v σ => apan v σ R))) (
        aret (.val (.int .i64 0)) σ R)) (a0, v10, (.val (.int .i64 0)), ()) σ)) (fun v σ => apan v σ R))
def x102 : Sx := .og (.lenS (.var 0)) (.call 52 [(.var 0), (.lit (.val (.int .i64 1))), (.lit (.val (.int .i64 80)))] (.og (.aun .not (.var 0)) (.apick (.var 0) (.ret (.lit (.val (.int .i64 2)))) (.og (.lenS (.var 3)) (.lp [0, 10, 11] (.og (.ibin .lss (.var 2) (.var 1)) (.apick (.var 0) (.call 122 [(.var 1), (.var 3)] (.og (.ibin .neq (.var 0) (.lit (.val (.int .i64 0)))) (.apick (.var 0) (.ret (.var 1)) (.og (.ibin .add (.var 5) (.lit (.val (.int .i64 1)))) (.jump 0 [(.var 4), (.var 5), (.var 0)]))))) (.ret (.lit (.val (.int .i64 0)))))) [(.var 4), (.var 0), (.lit (.val (.int .i64 0)))])))))
set_option maxRecDepth 1000000 in
theorem x102_ok : okF TT Tryz.f102 1 x102 = true := by decide +kernel
set_option maxRecDepth 1000000 in
theorem s_impl_DataFault_ok {a0 : AV} {σ : AH} {R : AEnd → AH → Prop} (h : s_impl_DataFault a0 σ R) : acall TP fn_impl_DataFault [a0] σ R :=
  acall_okF (ρ := [a0]) TT_ok Tryz.func102 rfl x102 x102_ok rfl h

/-- loop.example/g00349/laws.eqDatum -/
def s_laws_eqDatum (a0 a1 : AV) (σ : AH) (R : AEnd → AH → Prop) : Prop :=
  abox a0 σ fun v2 σ =>
  abox a1 σ fun v3 σ =>
  frz v2 σ fun f2 σ =>
  frz v3 σ fun f3 σ =>
  og (fldA 0 f2) fun v5 =>
  og (lod v5 σ) fun v6 =>
  og (fldA 0 f3) fun v7 =>
  og (lod v7 σ) fun v8 =>
  og (ibin .neq v6 v8) fun v9 =>
  apick v9 (
    aret (.val (.bool false)) σ R) (
    og (fldA 1 f2) fun v10 =>
    og (lod v10 σ) fun v11 =>
    og (fldA 1 f3) fun v12 =>
    og (lod v12 σ) fun v13 =>
    og (ibin .neq v11 v13) fun v14 =>
    apick v14 (
      aret (.val (.bool false)) σ R) (
      og (fldA 2 f2) fun v15 =>
      og (lod v15 σ) fun v16 =>
      og (fldA 2 f3) fun v17 =>
      og (lod v17 σ) fun v18 =>
      og (ibin .neq v16 v18) fun v19 =>
      apick v19 (
        aret (.val (.bool false)) σ R) (
        og (fldA 3 f2) fun v20 =>
        og (lod v20 σ) fun v21 =>
        og (fldA 3 f3) fun v22 =>
        og (lod v22 σ) fun v23 =>
        og (sbin .neq v21 v23) fun v24 =>
        apick v24 (
          aret (.val (.bool false)) σ R) (
          aret (.val (.bool true)) σ R))))
def x103 : Sx := .box (.var 1) (.box (.var 1) (.frz 2 (.var 1) (.frz 3 (.var 1) (.og (.fldA 0 (.var 1)) (.og (.lod (.var 0)) (.og (.fldA 0 (.var 2)) (.og (.lod (.var 0)) (.og (.ibin .neq (.var 2) (.var 0)) (.apick (.var 0) (.ret (.lit (.val (.bool false)))) (.og (.fldA 1 (.var 6)) (.og (.lod (.var 0)) (.og (.fldA 1 (.var 7)) (.og (.lod (.var 0)) (.og (.ibin .neq (.var 2) (.var 0)) (.apick (.var 0) (.ret (.lit (.val (.bool false)))) (.og (.fldA 2 (.var 11)) (.og (.lod (.var 0)) (.og (.fldA 2 (.var 12)) (.og (.lod (.var 0)) (.og (.ibin .neq (.var 2) (.var 0)) (.apick (.var 0) (.ret (.lit (.val (.bool false)))) (.og (.fldA 3 (.var 16)) (.og (.lod (.var 0)) (.og (.fldA 3 (.var 17)) (.og (.lod (.var 0)) (.og (.sbin .neq (.var 2) (.var 0)) (.apick (.var 0) (.ret (.lit (.val (.bool false)))) (.ret (.lit (.val (.bool true)))))))))))))))))))))))))))))))
set_option maxRecDepth 1000000 in
theorem x103_ok : okF TT Tryz.f103 2 x103 = true := by decide +kernel
set_option maxRecDepth 1000000 in
theorem s_laws_eqDatum_ok {a0 a1 : AV} {σ : AH} {R : AEnd → AH → Prop} (h : s_laws_eqDatum a0 a1 σ R) : acall TP fn_laws_eqDatum [a0, a1] σ R :=
  acall_okF (ρ := [a1, a0]) TT_ok Tryz.func103 rfl x103 x103_ok rfl h

/-- loop.example/g00349/spec.l2Byte -/
def s_spec_l2Byte (a0 : AV) (σ : AH) (R : AEnd → AH → Prop) : Prop :=
  og (ibin .geq a0 (.val (.int .u8 97))) fun v6 =>
  og (gval v6 true false (some a0)) fun v8 =>
  og (gval v6 true false (ibin .leq v8 (.val (.int .u8 122)))) fun v9 =>
  og (pickV v6 v9 (.val (.bool false))) fun v10 =>
  apick v10 (
    aret (.val (.bool true)) σ R) (
    lp (X := Tup [0, 3, 4]) (fun R1 y1 σ =>
      og (lenStr y1.2.1) fun v13 =>
      og (ibin .lss y1.2.2.1 v13) fun v14 =>
      apick v14 (
        og (idxStr y1.2.1 y1.2.2.1) fun v19 =>
        og (ibin .eql v19 y1.1) fun v21 =>
        apick v21 (
          aret (.val (.bool true)) σ R) (
          og (ibin .add y1.2.2.1 (.val (.int .i64 1))) fun v16 =>
          R1 (y1.1, y1.2.1, v16, ()) σ)) (
        aret (.val (.bool false)) σ R)) (a0, (.val (.string ⟨#[43, 45, 42, 47, 60, 61, 63, 33]⟩)), (.val (.int .i64 0)), ()) σ)
def x115 : Sx := .og (.ibin .geq (.var 0) (.lit (.val (.int .u8 97)))) (.gog (.var 0) true false (.ret (.var 1)) (.gog (.var 1) true false (.ibin .leq (.var 0) (.lit (.val (.int .u8 122)))) (.og (.pickV (.var 2) (.var 0) (.lit (.val (.bool false)))) (.apick (.var 0) (.ret (.lit (.val (.bool true)))) (.lp [0, 3, 4] (.og (.lenStr (.var 1)) (.og (.ibin .lss (.var 3) (.var 0)) (.apick (.var 0) (.og (.idxStr (.var 3) (.var 4)) (.og (.ibin .eql (.var 0) (.var 3)) (.apick (.var 0) (.ret (.lit (.val (.bool true)))) (.og (.ibin .add (.var 6) (.lit (.val (.int .i64 1)))) (.jump 0 [(.var 5), (.var 6), (.var 0)]))))) (.ret (.lit (.val (.bool false))))))) [(.var 4), (.lit (.val (.string ⟨#[43, 45, 42, 47, 60, 61, 63, 33]⟩))), (.lit (.val (.int .i64 0)))])))))
set_option maxRecDepth 1000000 in
theorem x115_ok : okF TT Tryz.f115 1 x115 = true := by decide +kernel
set_option maxRecDepth 1000000 in
theorem s_spec_l2Byte_ok {a0 : AV} {σ : AH} {R : AEnd → AH → Prop} (h : s_spec_l2Byte a0 σ R) : acall TP fn_spec_l2Byte [a0] σ R :=
  acall_okF (ρ := [a0]) TT_ok Tryz.func115 rfl x115 x115_ok rfl h

/-- loop.example/g00349/spec.l3Bare -/
def s_spec_l3Bare (a0 : AV) (σ : AH) (R : AEnd → AH → Prop) : Prop :=
  og (anil a0) fun v5 =>
  og (fldA 0 v5) fun v6 =>
  og (lod v6 σ) fun v7 =>
  og (ibin .eql v7 (.val (.int .i64 1))) fun v8 =>
  og (gval v8 false false (some a0)) fun v10 =>
  og (gval v8 false false (anil v10)) fun v11 =>
  og (gval v8 false false (fldA 0 v11)) fun v12 =>
  og (gval v8 false false (lod v12 σ)) fun v13 =>
  og (gval v8 false false (ibin .eql v13 (.val (.int .i64 2)))) fun v14 =>
  og (pickV v8 (.val (.bool true)) v14) fun v15 =>
  og (anil a0) fun v17 =>
  og (fldA 0 v17) fun v18 =>
  og (lod v18 σ) fun v19 =>
  acall TP fn_spec_l1In [v19, (.val (.int .i64 1)), (.val (.int .i64 4))] σ (onr (fun v20 σ =>
  og (gval v20 true false (some v15)) fun v22 =>
  og (gval v20 true false (some v22)) fun v23 =>
  og (gval v23 false true (some a0)) fun v24 =>
  og (gval v23 false true (anil v24)) fun v25 =>
  og (gval v23 false true (fldA 2 v25)) fun v26 =>
  og (gval v23 false true (lod v26 σ)) fun v27 =>
  og (gval v23 false true (ibin .eql v27 (.val (.int .i64 0)))) fun v28 =>
  og (gval v20 true false (pickV v23 (.val (.bool true)) v28)) fun v29 =>
  og (pickV v20 v29 (.val (.bool false))) fun v30 =>
  og (gval v30 true false (some a0)) fun v32 =>
  og (gval v30 true false (anil v32)) fun v33 =>
  og (gval v30 true false (fldA 0 v33)) fun v34 =>
  og (gval v30 true false (lod v34 σ)) fun v35 =>
  og (gval v30 true false (ibin .eql v35 (.val (.int .i64 3)))) fun v36 =>
  og (gval v30 true false (some v36)) fun v37 =>
  og (gval v37 false true (some a0)) fun v38 =>
  og (gval v37 false true (anil v38)) fun v39 =>
  og (gval v37 false true (fldA 3 v39)) fun v40 =>
  og (gval v37 false true (lod v40 σ)) fun v41 =>
  og (gval v37 false true (sbin .eql v41 (.val (.string ⟨#[]⟩)))) fun v42 =>
  og (gval v30 true false (pickV v37 (.val (.bool true)) v42)) fun v43 =>
  og (pickV v30 v43 (.val (.bool false))) fun v44 =>
  aret v44 σ R) (fun v σ => apan v σ R))
def x116 : Sx := .og (.anil (.var 0)) (.og (.fldA 0 (.var 0)) (.og (.lod (.var 0)) (.og (.ibin .eql (.var 0) (.lit (.val (.int .i64 1)))) (.gog (.var 0) false false (.ret (.var 4)) (.gog (.var 1) false false (.anil (.var 0)) (.gog (.var 2) false false (.fldA 0 (.var 0)) (.gog (.var 3) false false (.lod (.var 0)) (.gog (.var 4) false false (.ibin .eql (.var 0) (.lit (.val (.int .i64 2)))) (.og (.pickV (.var 5) (.lit (.val (.bool true))) (.var 0)) (.og (.anil (.var 10)) (.og (.fldA 0 (.var 0)) (.og (.lod (.var 0)) (.call 50 [(.var 0), (.lit (.val (.int .i64 1))), (.lit (.val (.int .i64 4)))] (.gog (.var 0) true false (.ret (.var 4)) (.gog (.var 1) true false (.ret (.var 0)) (.gog (.var 0) false true (.ret (.var 16)) (.gog (.var 1) false true (.anil (.var 0)) (.gog (.var 2) false true (.fldA 2 (.var 0)) (.gog (.var 3) false true (.lod (.var 0)) (.gog (.var 4) false true (.ibin .eql (.var 0) (.lit (.val (.int .i64 0)))) (.gog (.var 7) true false (.pickV (.var 5) (.lit (.val (.bool true))) (.var 0)) (.og (.pickV (.var 8) (.var 0) (.lit (.val (.bool false)))) (.gog (.var 0) true false (.ret (.var 23)) (.gog (.var 1) true false (.anil (.var 0)) (.gog (.var 2) true false (.fldA 0 (.var 0)) (.gog (.var 3) true false (.lod (.var 0)) (.gog (.var 4) true false (.ibin .eql (.var 0) (.lit (.val (.int .i64 3)))) (.gog (.var 5) true false (.ret (.var 0)) (.gog (.var 0) false true (.ret (.var 29)) (.gog (.var 1) false true (.anil (.var 0)) (.gog (.var 2) false true (.fldA 3 (.var 0)) (.gog (.var 3) false true (.lod (.var 0)) (.gog (.var 4) false true (.sbin .eql (.var 0) (.lit (.val (.string ⟨#[]⟩)))) (.gog (.var 11) true false (.pickV (.var 5) (.lit (.val (.bool true))) (.var 0)) (.og (.pickV (.var 12) (.var 0) (.lit (.val (.bool false)))) (.ret (.var 0)))))))))))))))))))))))))))))))))))))
set_option maxRecDepth 1000000 in
theorem x116_ok : okF TT Tryz.f116 1 x116 = true := by decide +kernel
set_option maxRecDepth 1000000 in
theorem s_spec_l3Bare_ok {a0 : AV} {σ : AH} {R : AEnd → AH → Prop} (h : s_spec_l3Bare a0 σ R) : acall TP fn_spec_l3Bare [a0] σ R :=
  acall_okF (ρ := [a0]) TT_ok Tryz.func116 rfl x116 x116_ok rfl h

/-- loop.example/g00349/spec.l1Num -/
def s_spec_l1Num (a0 : AV) (σ : AH) (R : AEnd → AH → Prop) : Prop :=
  acall TP fn_spec_l1In [a0, (.val (.int .i64 (-1000000000))), (.val (.int .i64 1000000000))] σ (onr (fun v4 σ =>
  aret v4 σ R) (fun v σ => apan v σ R))
def x117 : Sx := .call 50 [(.var 0), (.lit (.val (.int .i64 (-1000000000)))), (.lit (.val (.int .i64 1000000000)))] (.ret (.var 0))
set_option maxRecDepth 1000000 in
theorem x117_ok : okF TT Tryz.f117 1 x117 = true := by decide +kernel
set_option maxRecDepth 1000000 in
theorem s_spec_l1Num_ok {a0 : AV} {σ : AH} {R : AEnd → AH → Prop} (h : s_spec_l1Num a0 σ R) : acall TP fn_spec_l1Num [a0] σ R :=
  acall_okF (ρ := [a0]) TT_ok Tryz.func117 rfl x117 x117_ok rfl h

/-- loop.example/g00349/spec.l3Line -/
def s_spec_l3Line (a0 a1 : AV) (σ : AH) (R : AEnd → AH → Prop) : Prop :=
  og (ibin .sub a1 (.val (.int .i64 1))) fun v7 =>
  lp (X := Tup [0, 1, 5]) (fun R1 y1 σ =>
    og (ibin .geq y1.2.2.1 (.val (.int .i64 0))) fun v9 =>
    apick v9 (
      og (idx 4 y1.1 y1.2.1 σ) fun v18 =>
      og (fldA 1 v18) fun v19 =>
      og (lod v19 σ) fun v20 =>
      og (ibin .eql y1.2.2.1 v20) fun v21 =>
      apick v21 (
        og (idx 4 y1.1 y1.2.2.1 σ) fun v24 =>
        og (fldA 0 v24) fun v25 =>
        og (lod v25 σ) fun v26 =>
        og (ibin .eql v26 (.val (.int .i64 4))) fun v27 =>
        aret v27 σ R) (
        og (idx 4 y1.1 y1.2.2.1 σ) fun v12 =>
        og (fldA 1 v12) fun v13 =>
        og (lod v13 σ) fun v14 =>
        R1 (y1.1, y1.2.1, v14, ()) σ)) (
      aret (.val (.bool false)) σ R)) (a0, a1, v7, ()) σ
def x118 : Sx := .og (.ibin .sub (.var 0) (.lit (.val (.int .i64 1)))) (.lp [0, 1, 5] (.og (.ibin .geq (.var 2) (.lit (.val (.int .i64 0)))) (.apick (.var 0) (.og (.idx 4 (.var 1) (.var 2)) (.og (.fldA 1 (.var 0)) (.og (.lod (.var 0)) (.og (.ibin .eql (.var 6) (.var 0)) (.apick (.var 0) (.og (.idx 4 (.var 5) (.var 7)) (.og (.fldA 0 (.var 0)) (.og (.lod (.var 0)) (.og (.ibin .eql (.var 0) (.lit (.val (.int .i64 4)))) (.ret (.var 0)))))) (.og (.idx 4 (.var 5) (.var 7)) (.og (.fldA 1 (.var 0)) (.og (.lod (.var 0)) (.jump 0 [(.var 8), (.var 9), (.var 0)]))))))))) (.ret (.lit (.val (.bool false)))))) [(.var 2), (.var 1), (.var 0)])
set_option maxRecDepth 1000000 in
theorem x118_ok : okF TT Tryz.f118 2 x118 = true := by decide +kernel
set_option maxRecDepth 1000000 in
theorem s_spec_l3Line_ok {a0 a1 : AV} {σ : AH} {R : AEnd → AH → Prop} (h : s_spec_l3Line a0 a1 σ R) : acall TP fn_spec_l3Line [a0, a1] σ R :=
  acall_okF (ρ := [a1, a0]) TT_ok Tryz.func118 rfl x118 x118_ok rfl h

/-- loop.example/g00349/spec.l3Deep -/
def s_spec_l3Deep (a0 a1 : AV) (σ : AH) (R : AEnd → AH → Prop) : Prop :=
  lp (X := Tup [0, 1, 5]) (fun R1 y1 σ =>
    og (ibin .geq y1.2.1 (.val (.int .i64 0))) fun v7 =>
    og (gval v7 true false (some y1.2.2.1)) fun v9 =>
    og (gval v7 true false (ibin .lss v9 (.val (.int .i64 100)))) fun v10 =>
    og (pickV v7 v10 (.val (.bool false))) fun v11 =>
    apick v11 (
      og (ibin .add y1.2.2.1 (.val (.int .i64 1))) fun v13 =>
      og (idx 4 y1.1 y1.2.1 σ) fun v16 =>
      og (fldA 1 v16) fun v17 =>
      og (lod v17 σ) fun v18 =>
      R1 (y1.1, v18, v13, ()) σ) (
      aret y1.2.2.1 σ R)) (a0, a1, (.val (.int .i64 0)), ()) σ
def x119 : Sx := .lp [0, 1, 5] (.og (.ibin .geq (.var 1) (.lit (.val (.int .i64 0)))) (.gog (.var 0) true false (.ret (.var 3)) (.gog (.var 1) true false (.ibin .lss (.var 0) (.lit (.val (.int .i64 100)))) (.og (.pickV (.var 2) (.var 0) (.lit (.val (.bool false)))) (.apick (.var 0) (.og (.ibin .add (.var 6) (.lit (.val (.int .i64 1)))) (.og (.idx 4 (.var 5) (.var 6)) (.og (.fldA 1 (.var 0)) (.og (.lod (.var 0)) (.jump 0 [(.var 8), (.var 0), (.var 3)]))))) (.ret (.var 6))))))) [(.var 1), (.var 0), (.lit (.val (.int .i64 0)))]
set_option maxRecDepth 1000000 in
theorem x119_ok : okF TT Tryz.f119 2 x119 = true := by decide +kernel
set_option maxRecDepth 1000000 in
theorem s_spec_l3Deep_ok {a0 a1 : AV} {σ : AH} {R : AEnd → AH → Prop} (h : s_spec_l3Deep a0 a1 σ R) : acall TP fn_spec_l3Deep [a0, a1] σ R :=
  acall_okF (ρ := [a1, a0]) TT_ok Tryz.func119 rfl x119 x119_ok rfl h

/-- slices.IndexFunc[[]int64,int64] -/
def s_slices_IndexFunc (a0 a1 : AV) (σ : AH) (R : AEnd → AH → Prop) : Prop :=
  og (lenS a0) fun v7 =>
  lp (X := Tup [0, 1, 7, 8]) (fun R1 y1 σ =>
    og (ibin .lss y1.2.2.2.1 y1.2.2.1) fun v9 =>
    apick v9 (
      og (idx 1 y1.1 y1.2.2.2.1 σ) fun v14 =>
      og (lod v14 σ) fun v15 =>
      acallv TP y1.2.1 [v15] σ (onr (fun v16 σ =>
      apick v16 (
        aret y1.2.2.2.1 σ R) (
        og (ibin .add y1.2.2.2.1 (.val (.int .i64 1))) fun v18 =>
        R1 (y1.1, y1.2.1, y1.2.2.1, v18, ()) σ)) (fun v σ => apan v σ R))) (
      aret (.val (.int .i64 (-1))) σ R)) (a0, a1, v7, (.val (.int .i64 0)), ()) σ
def x120 : Sx := .og (.lenS (.var 1)) (.lp [0, 1, 7, 8] (.og (.ibin .lss (.var 3) (.var 2)) (.apick (.var 0) (.og (.idx 1 (.var 1) (.var 4)) (.og (.lod (.var 0)) (.callv (.var 4) [(.var 0)] (.apick (.var 0) (.ret (.var 7)) (.og (.ibin .add (.var 7) (.lit (.val (.int .i64 1)))) (.jump 0 [(.var 5), (.var 6), (.var 7), (.var 0)])))))) (.ret (.lit (.val (.int .i64 (-1))))))) [(.var 2), (.var 1), (.var 0), (.lit (.val (.int .i64 0)))])
set_option maxRecDepth 1000000 in
theorem x120_ok : okF TT Tryz.f120 2 x120 = true := by decide +kernel
set_option maxRecDepth 1000000 in
theorem s_slices_IndexFunc_ok {a0 a1 : AV} {σ : AH} {R : AEnd → AH → Prop} (h : s_slices_IndexFunc a0 a1 σ R) : acall TP fn_slices_IndexFunc [a0, a1] σ R :=
  acall_okF (ρ := [a1, a0]) TT_ok Tryz.func120 rfl x120 x120_ok rfl h

/-- strings.Trim -/
def s_strings_Trim (a0 a1 : AV) (σ : AH) (R : AEnd → AH → Prop) : Prop :=
  og (sbin .eql a0 (.val (.string ⟨#[]⟩))) fun v8 =>
  og (gval v8 false false (some a1)) fun v10 =>
  og (gval v8 false false (sbin .eql v10 (.val (.string ⟨#[]⟩)))) fun v11 =>
  og (pickV v8 (.val (.bool true)) v11) fun v12 =>
  apick v12 (
    aret a0 σ R) (
    og (lenStr a1) fun v15 =>
    og (ibin .eql v15 (.val (.int .i64 1))) fun v16 =>
    og (gval v16 true false (some a1)) fun v18 =>
    og (gval v16 true false (idxStr v18 (.val (.int .i64 0)))) fun v19 =>
    og (gval v16 true false (ibin .lss v19 (.val (.int .u8 128)))) fun v20 =>
    og (pickV v16 v20 (.val (.bool false))) fun v21 =>
    apick v21 (
      og (idxStr a1 (.val (.int .i64 0))) fun v24 =>
      og (idxStr a1 (.val (.int .i64 0))) fun v27 =>
      acall TP fn_strings_trimRightByte [a0, v24] σ (onr (fun v25 σ =>
      (True) ∧
      acall TP fn_strings_trimLeftByte [v25, v27] σ (onr (fun v28 σ =>
      (True) ∧
      aret v28 σ R) (fun v σ => apan v σ R))) (fun v σ => apan v σ R))) (
      acall TP fn_strings_makeASCIISet [a1] σ (onr (fun v31 σ =>
      og (aext v31 0) fun v32 =>
      og (aext v31 1) fun v33 =>
      new (List.replicate 256 (.val (.bool false))) σ fun v5 σ =>
      sto 256 v5 v32 σ fun σ =>
      frz v5 σ fun f5 σ =>
      apick v33 (
        acall TP fn_strings_trimRightASCII [a0, f5] σ (onr (fun v36 σ =>
        acall TP fn_strings_trimLeftASCII [v36, f5] σ (onr (fun v37 σ =>
        aret v37 σ R) (fun v σ => apan v σ R))) (fun v σ => apan v σ R))) (
        acall TP fn_strings_trimRightUnicode [a0, a1] σ (onr (fun v40 σ =>
        acall TP fn_strings_trimLeftUnicode [v40, a1] σ (onr (fun v42 σ =>
        aret v42 σ R) (fun v σ => apan v σ R))) (fun v σ => apan v σ R)))) (fun v σ => apan v σ R))))
def x121 : Sx := .og (.sbin .eql (.var 1) (.lit (.val (.string ⟨#[]⟩)))) (.gog (.var 0) false false (.ret (.var 1)) (.gog (.var 1) false false (.sbin .eql (.var 0) (.lit (.val (.string ⟨#[]⟩)))) (.og (.pickV (.var 2) (.lit (.val (.bool true))) (.var 0)) (.apick (.var 0) (.ret (.var 5)) (.og (.lenStr (.var 4)) (.og (.ibin .eql (.var 0) (.lit (.val (.int .i64 1)))) (.gog (.var 0) true false (.ret (.var 6)) (.gog (.var 1) true false (.idxStr (.var 0) (.lit (.val (.int .i64 0)))) (.gog (.var 2) true false (.ibin .lss (.var 0) (.lit (.val (.int .u8 128)))) (.og (.pickV (.var 3) (.var 0) (.lit (.val (.bool false)))) (.apick (.var 0) (.ord [0, 1, 2, 4, 5, 3, 6, 7] [0, 0, 2, 7, 0, 16, 63, 127] (.og (.idxStr (.var 10) (.lit (.val (.int .i64 0)))) (.og (.idxStr (.var 11) (.lit (.val (.int .i64 0)))) (.call 130 [(.var 13), (.var 1)] (.wat [] (.call 129 [(.var 0), (.var 1)] (.wat [] (.ret (.var 0))))))))) (.call 131 [(.var 10)] (.og (.aext (.var 0) 0) (.og (.aext (.var 1) 1) (.new (List.replicate 256 (.val (.bool false))) (.sto 256 (.var 0) (.var 2) (.frz 15 (.var 0) (.apick (.var 2) (.call 133 [(.var 16), (.var 0)] (.call 132 [(.var 0), (.var 1)] (.ret (.var 0)))) (.call 135 [(.var 16), (.var 15)] (.call 134 [(.var 0), (.var 16)] (.ret (.var 0))))))))))))))))))))))
set_option maxRecDepth 1000000 in
theorem x121_ok : okF TT Tryz.f121 2 x121 = true := by decide +kernel
set_option maxRecDepth 1000000 in
theorem s_strings_Trim_ok {a0 a1 : AV} {σ : AH} {R : AEnd → AH → Prop} (h : s_strings_Trim a0 a1 σ R) : acall TP fn_strings_Trim [a0, a1] σ R :=
  acall_okF (ρ := [a1, a0]) TT_ok Tryz.func121 rfl x121 x121_ok rfl h

/-- loop.example/g00349/impl.datumFault -/
def s_impl_datumFault (a0 a1 : AV) (σ : AH) (R : AEnd → AH → Prop) : Prop :=
  abox a0 σ fun v2 σ =>
  frz v2 σ fun f2 σ =>
  og (lod f2 σ) fun v7 =>
  og (idx 4 v7 a1 σ) fun v9 =>
  og (lodA 4 v9 σ) fun v10 =>
  new [(.val (.int .i64 0)), (.val (.int .i64 0)), (.val (.int .i64 0)), (.val (.string ⟨#[]⟩))] σ fun v5 σ =>
  sto 4 v5 v10 σ fun σ =>
  frz v5 σ fun f5 σ =>
  og (fldA 0 f5) fun v12 =>
  og (lod v12 σ) fun v13 =>
  acall TP fn_impl_in [v13, (.val (.int .i64 1)), (.val (.int .i64 4))] σ (onr (fun v14 σ =>
  og (aun .not v14) fun v15 =>
  og (gval v15 false false (fldA 2 f5)) fun v17 =>
  og (gval v15 false false (lod v17 σ)) fun v18 =>
  og (gval v15 false false (ibin .neq v18 (.val (.int .i64 0)))) fun v19 =>
  og (gval v15 false false (some v19)) fun v20 =>
  og (gval v20 true true (fldA 0 f5)) fun v21 =>
  og (gval v20 true true (lod v21 σ)) fun v22 =>
  og (gval v20 true true (ibin .neq v22 (.val (.int .i64 1)))) fun v23 =>
  og (gval v15 false false (pickV v20 v23 (.val (.bool false)))) fun v24 =>
  og (gval v15 false false (some v24)) fun v25 =>
  og (gval v25 true true (fldA 0 f5)) fun v26 =>
  og (gval v25 true true (lod v26 σ)) fun v27 =>
  og (gval v25 true true (ibin .neq v27 (.val (.int .i64 2)))) fun v28 =>
  og (gval v15 false false (pickV v25 v28 (.val (.bool false)))) fun v29 =>
  og (pickV v15 (.val (.bool true)) v29) fun v30 =>
  og (gval v30 false false (fldA 3 f5)) fun v32 =>
  og (gval v30 false false (lod v32 σ)) fun v33 =>
  og (gval v30 false false (sbin .neq v33 (.val (.string ⟨#[]⟩)))) fun v34 =>
  og (gval v30 false false (some v34)) fun v35 =>
  og (gval v35 true true (fldA 0 f5)) fun v36 =>
  og (gval v35 true true (lod v36 σ)) fun v37 =>
  og (gval v35 true true (ibin .neq v37 (.val (.int .i64 3)))) fun v38 =>
  og (gval v30 false false (pickV v35 v38 (.val (.bool false)))) fun v39 =>
  og (pickV v30 (.val (.bool true)) v39) fun v40 =>
  apick v40 (
    aret (.val (.int .i64 1)) σ R) (
    og (fldA 0 f5) fun v41 =>
    og (lod v41 σ) fun v42 =>
    og (fldA 2 f5) fun v43 =>
    og (lod v43 σ) fun v44 =>
    og (fldA 3 f5) fun v45 =>
    og (lod v45 σ) fun v46 =>
    acall TP fn_impl_kindFault [v42, (.val (.int .i64 1)), (.val (.int .i64 3)), (.val (.int .i64 2)), v44, v46] σ (onr (fun v47 σ =>
    og (ibin .neq v47 (.val (.int .i64 0))) fun v49 =>
    apick v49 (
      aret v47 σ R) (
      og (ibin .eql a1 (.val (.int .i64 0))) fun v52 =>
      apick v52 (
        og (fldA 1 f5) fun v53 =>
        og (lod v53 σ) fun v54 =>
        og (ibin .neq v54 (.val (.int .i64 (-1)))) fun v55 =>
        apick v55 (
          aret (.val (.int .i64 3)) σ R) (
          aret (.val (.int .i64 0)) σ R)) (
        og (fldA 1 f5) fun v57 =>
        og (lod v57 σ) fun v58 =>
        og (ibin .sub a1 (.val (.int .i64 1))) fun v60 =>
        acall TP fn_impl_in [v58, (.val (.int .i64 0)), v60] σ (onr (fun v61 σ =>
        og (aun .not v61) fun v62 =>
        apick v62 (
          aret (.val (.int .i64 3)) σ R) (
          jn (X := Tup [1, 2, 63]) (fun x1 σ =>
              apick x1.2.2.1 (
                aret (.val (.int .i64 1)) σ R) (
                og (lod x1.2.1 σ) fun v81 =>
                acall TP fn_impl_deep [v81, x1.1] σ (onr (fun v83 σ =>
                og (ibin .gtr v83 (.val (.int .i64 12))) fun v84 =>
                apick v84 (
                  aret (.val (.int .i64 2)) σ R) (
                  aret (.val (.int .i64 0)) σ R)) (fun v σ => apan v σ R)))) fun k1 =>
            og (lod f2 σ) fun v64 =>
            og (fldA 1 f5) fun v65 =>
            og (lod v65 σ) fun v66 =>
            og (idx 4 v64 v66 σ) fun v67 =>
            og (fldA 0 v67) fun v68 =>
            og (lod v68 σ) fun v69 =>
            og (ibin .neq v69 (.val (.int .i64 4))) fun v70 =>
            gpick v70 (
              k1 (a1, f2, (.val (.bool true)), ()) σ) (
              og (ibin .sub a1 (.val (.int .i64 1))) fun v74 =>
              og (fldA 1 f5) fun v75 =>
              og (lod v75 σ) fun v76 =>
              acall TP fn_impl_isUp [(.clo (.func fn_impl_datumFault_1) [] [f2]), v74, v76] σ (onr (fun v77 σ =>
              og (aun .not v77) fun v78 =>
              k1 (a1, f2, v78, ()) σ) (fun v σ => apan v σ R))) (False))) (fun v σ => apan v σ R))))) (fun v σ => apan v σ R)))) (fun v σ => apan v σ R))
def x122 : Sx := .box (.var 1) (.frz 2 (.var 0) (.og (.lod (.var 0)) (.og (.idx 4 (.var 0) (.var 3)) (.og (.lodA 4 (.var 0)) (.new [(.val (.int .i64 0)), (.val (.int .i64 0)), (.val (.int .i64 0)), (.val (.string ⟨#[]⟩))] (.sto 4 (.var 0) (.var 1) (.frz 7 (.var 0) (.og (.fldA 0 (.var 0)) (.og (.lod (.var 0)) (.call 52 [(.var 0), (.lit (.val (.int .i64 1))), (.lit (.val (.int .i64 4)))] (.og (.aun .not (.var 0)) (.gog (.var 0) false false (.fldA 2 (.var 4)) (.gog (.var 1) false false (.lod (.var 0)) (.gog (.var 2) false false (.ibin .neq (.var 0) (.lit (.val (.int .i64 0)))) (.gog (.var 3) false false (.ret (.var 0)) (.gog (.var 0) true true (.fldA 0 (.var 8)) (.gog (.var 1) true true (.lod (.var 0)) (.gog (.var 2) true true (.ibin .neq (.var 0) (.lit (.val (.int .i64 1)))) (.gog (.var 7) false false (.pickV (.var 3) (.var 0) (.lit (.val (.bool false)))) (.gog (.var 8) false false (.ret (.var 0)) (.gog (.var 0) true true (.fldA 0 (.var 13)) (.gog (.var 1) true true (.lod (.var 0)) (.gog (.var 2) true true (.ibin .neq (.var 0) (.lit (.val (.int .i64 2)))) (.gog (.var 12) false false (.pickV (.var 3) (.var 0) (.lit (.val (.bool false)))) (.og (.pickV (.var 13) (.lit (.val (.bool true))) (.var 0)) (.gog (.var 0) false false (.fldA 3 (.var 18)) (.gog (.var 1) false false (.lod (.var 0)) (.gog (.var 2) false false (.sbin .neq (.var 0) (.lit (.val (.string ⟨#[]⟩)))) (.gog (.var 3) false false (.ret (.var 0)) (.gog (.var 0) true true (.fldA 0 (.var 22)) (.gog (.var 1) true true (.lod (.var 0)) (.gog (.var 2) true true (.ibin .neq (.var 0) (.lit (.val (.int .i64 3)))) (.gog (.var 7) false false (.pickV (.var 3) (.var 0) (.lit (.val (.bool false)))) (.og (.pickV (.var 8) (.lit (.val (.bool true))) (.var 0)) (.apick (.var 0) (.ret (.lit (.val (.int .i64 1)))) (.og (.fldA 0 (.var 27)) (.og (.lod (.var 0)) (.og (.fldA 2 (.var 29)) (.og (.lod (.var 0)) (.og (.fldA 3 (.var 31)) (.og (.lod (.var 0)) (.call 136 [(.var 4), (.lit (.val (.int .i64 1))), (.lit (.val (.int .i64 3))), (.lit (.val (.int .i64 2))), (.var 2), (.var 0)] (.og (.ibin .neq (.var 0) (.lit (.val (.int .i64 0)))) (.apick (.var 0) (.ret (.var 1)) (.og (.ibin .eql (.var 42) (.lit (.val (.int .i64 0)))) (.apick (.var 0) (.og (.fldA 1 (.var 36)) (.og (.lod (.var 0)) (.og (.ibin .neq (.var 0) (.lit (.val (.int .i64 (-1))))) (.apick (.var 0) (.ret (.lit (.val (.int .i64 3)))) (.ret (.lit (.val (.int .i64 0)))))))) (.og (.fldA 1 (.var 36)) (.og (.lod (.var 0)) (.og (.ibin .sub (.var 45) (.lit (.val (.int .i64 1)))) (.call 52 [(.var 1), (.lit (.val (.int .i64 0))), (.var 0)] (.og (.aun .not (.var 0)) (.apick (.var 0) (.ret (.lit (.val (.int .i64 3)))) (.jn 2023 [1, 2, 63] (.apick (.var 2) (.ret (.lit (.val (.int .i64 1)))) (.og (.lod (.var 1)) (.call 139 [(.var 0), (.var 1)] (.og (.ibin .gtr (.var 0) (.lit (.val (.int .i64 12)))) (.apick (.var 0) (.ret (.lit (.val (.int .i64 2)))) (.ret (.lit (.val (.int .i64 0))))))))) (.og (.lod (.var 46)) (.og (.fldA 1 (.var 42)) (.og (.lod (.var 0)) (.og (.idx 4 (.var 2) (.var 0)) (.og (.fldA 0 (.var 0)) (.og (.lod (.var 0)) (.og (.ibin .neq (.var 0) (.lit (.val (.int .i64 4)))) (.gpick (.var 0) (.jump 0 [(.var 55), (.var 53), (.lit (.val (.bool true)))]) (.clo (.func 138) [] [(.var 53)] (.og (.ibin .sub (.var 56) (.lit (.val (.int .i64 1)))) (.og (.fldA 1 (.var 50)) (.og (.lod (.var 0)) (.call 137 [(.var 3), (.var 2), (.var 0)] (.og (.aun .not (.var 0)) (.jump 0 [(.var 61), (.var 59), (.var 0)]))))))) (.no))))))))))))))))))))))))))))))))))))))))))))))))))))))))))))))
set_option maxRecDepth 1000000 in
theorem x122_ok : okF TT Tryz.f122 2 x122 = true := by decide +kernel
set_option maxRecDepth 1000000 in
theorem s_impl_datumFault_ok {a0 a1 : AV} {σ : AH} {R : AEnd → AH → Prop} (h : s_impl_datumFault a0 a1 σ R) : acall TP fn_impl_datumFault [a0, a1] σ R :=
  acall_okF (ρ := [a1, a0]) TT_ok Tryz.func122 rfl x122 x122_ok rfl h

/-- strings.trimLeftByte -/
def s_strings_trimLeftByte (a0 a1 : AV) (σ : AH) (R : AEnd → AH → Prop) : Prop :=
  lp (X := Tup [0, 1]) (fun R1 y1 σ =>
    og (lenStr y1.1) fun v6 =>
    og (ibin .gtr v6 (.val (.int .i64 0))) fun v7 =>
    og (gval v7 true false (some y1.1)) fun v9 =>
    og (gval v7 true false (idxStr v9 (.val (.int .i64 0)))) fun v10 =>
    og (gval v7 true false (some y1.2.1)) fun v11 =>
    og (gval v7 true false (ibin .eql v10 v11)) fun v12 =>
    og (pickV v7 v12 (.val (.bool false))) fun v13 =>
    apick v13 (
      og (slcStr y1.1 (some (.val (.int .i64 1))) none) fun v15 =>
      R1 (v15, y1.2.1, ()) σ) (
      aret y1.1 σ R)) (a0, a1, ()) σ
def x129 : Sx := .lp [0, 1] (.og (.lenStr (.var 0)) (.og (.ibin .gtr (.var 0) (.lit (.val (.int .i64 0)))) (.gog (.var 0) true false (.ret (.var 2)) (.gog (.var 1) true false (.idxStr (.var 0) (.lit (.val (.int .i64 0)))) (.gog (.var 2) true false (.ret (.var 5)) (.gog (.var 3) true false (.ibin .eql (.var 1) (.var 0)) (.og (.pickV (.var 4) (.var 0) (.lit (.val (.bool false)))) (.apick (.var 0) (.og (.slcStr (.var 7) (some (.lit (.val (.int .i64 1)))) none) (.jump 0 [(.var 0), (.var 9)])) (.ret (.var 7)))))))))) [(.var 1), (.var 0)]
set_option maxRecDepth 1000000 in
theorem x129_ok : okF TT Tryz.f129 2 x129 = true := by decide +kernel
set_option maxRecDepth 1000000 in
theorem s_strings_trimLeftByte_ok {a0 a1 : AV} {σ : AH} {R : AEnd → AH → Prop} (h : s_strings_trimLeftByte a0 a1 σ R) : acall TP fn_strings_trimLeftByte [a0, a1] σ R :=
  acall_okF (ρ := [a1, a0]) TT_ok Tryz.func129 rfl x129 x129_ok rfl h

/-- strings.trimRightByte -/
def s_strings_trimRightByte (a0 a1 : AV) (σ : AH) (R : AEnd → AH → Prop) : Prop :=
  lp (X := Tup [0, 1]) (fun R1 y1 σ =>
    og (lenStr y1.1) fun v6 =>
    og (ibin .gtr v6 (.val (.int .i64 0))) fun v7 =>
    og (gval v7 true false (some y1.1)) fun v9 =>
    og (gval v7 true false (some y1.1)) fun v10 =>
    og (gval v7 true false (lenStr v10)) fun v11 =>
    og (gval v7 true false (ibin .sub v11 (.val (.int .i64 1)))) fun v12 =>
    og (gval v7 true false (idxStr v9 v12)) fun v13 =>
    og (gval v7 true false (some y1.2.1)) fun v14 =>
    og (gval v7 true false (ibin .eql v13 v14)) fun v15 =>
    og (pickV v7 v15 (.val (.bool false))) fun v16 =>
    apick v16 (
      og (lenStr y1.1) fun v19 =>
      og (ibin .sub v19 (.val (.int .i64 1))) fun v20 =>
      og (slcStr y1.1 none (some v20)) fun v21 =>
      R1 (v21, y1.2.1, ()) σ) (
      aret y1.1 σ R)) (a0, a1, ()) σ
def x130 : Sx := .lp [0, 1] (.og (.lenStr (.var 0)) (.og (.ibin .gtr (.var 0) (.lit (.val (.int .i64 0)))) (.gog (.var 0) true false (.ret (.var 2)) (.gog (.var 1) true false (.ret (.var 3)) (.gog (.var 2) true false (.lenStr (.var 0)) (.gog (.var 3) true false (.ibin .sub (.var 0) (.lit (.val (.int .i64 1)))) (.gog (.var 4) true false (.idxStr (.var 3) (.var 0)) (.gog (.var 5) true false (.ret (.var 8)) (.gog (.var 6) true false (.ibin .eql (.var 1) (.var 0)) (.og (.pickV (.var 7) (.var 0) (.lit (.val (.bool false)))) (.apick (.var 0) (.og (.lenStr (.var 10)) (.og (.ibin .sub (.var 0) (.lit (.val (.int .i64 1)))) (.og (.slcStr (.var 12) none (some (.var 0))) (.jump 0 [(.var 0), (.var 14)])))) (.ret (.var 10))))))))))))) [(.var 1), (.var 0)]
set_option maxRecDepth 1000000 in
theorem x130_ok : okF TT Tryz.f130 2 x130 = true := by decide +kernel
set_option maxRecDepth 1000000 in
theorem s_strings_trimRightByte_ok {a0 a1 : AV} {σ : AH} {R : AEnd → AH → Prop} (h : s_strings_trimRightByte a0 a1 σ R) : acall TP fn_strings_trimRightByte [a0, a1] σ R :=
  acall_okF (ρ := [a1, a0]) TT_ok Tryz.func130 rfl x130 x130_ok rfl h

/-- strings.makeASCIISet -/
def s_strings_makeASCIISet (a0 : AV) (σ : AH) (R : AEnd → AH → Prop) : Prop :=
  new (List.replicate 256 (.val (.bool false))) σ fun v2 σ =>
  lp (X := Tup [0, 2, 4]) (fun R1 y1 σ =>
    og (lenStr y1.1) fun v8 =>
    og (ibin .lss y1.2.2.1 v8) fun v9 =>
    apick v9 (
      og (idxStr y1.1 y1.2.2.1) fun v14 =>
      og (ibin .geq v14 (.val (.int .u8 128))) fun v16 =>
      apick v16 (
        og (lodA 256 y1.2.1 σ) fun v17 =>
        sto 256 y1.2.1 v17 σ fun σ =>
        og (lodA 256 y1.2.1 σ) fun r2 =>
        aret (.tup [r2, (.val (.bool false))]) σ R) (
        og (idxArr 256 1 y1.2.1 v14) fun v19 =>
        sto 1 v19 (.val (.bool true)) σ fun σ =>
        og (ibin .add y1.2.2.1 (.val (.int .i64 1))) fun v11 =>
        R1 (y1.1, y1.2.1, v11, ()) σ)) (
      og (lodA 256 y1.2.1 σ) fun v20 =>
      sto 256 y1.2.1 v20 σ fun σ =>
      og (lodA 256 y1.2.1 σ) fun r2 =>
      aret (.tup [r2, (.val (.bool true))]) σ R)) (a0, v2, (.val (.int .i64 0)), ()) σ
def x131 : Sx := .new (List.replicate 256 (.val (.bool false))) (.lp [0, 2, 4] (.og (.lenStr (.var 0)) (.og (.ibin .lss (.var 3) (.var 0)) (.apick (.var 0) (.og (.idxStr (.var 2) (.var 4)) (.og (.ibin .geq (.var 0) (.lit (.val (.int .u8 128)))) (.apick (.var 0) (.og (.lodA 256 (.var 5)) (.sto 256 (.var 6) (.var 0) (.og (.lodA 256 (.var 6)) (.rets [(.var 0), (.lit (.val (.bool false)))])))) (.og (.idxArr 256 1 (.var 5) (.var 1)) (.sto 1 (.var 0) (.lit (.val (.bool true))) (.og (.ibin .add (.var 7) (.lit (.val (.int .i64 1)))) (.jump 0 [(.var 6), (.var 7), (.var 0)]))))))) (.og (.lodA 256 (.var 3)) (.sto 256 (.var 4) (.var 0) (.og (.lodA 256 (.var 4)) (.rets [(.var 0), (.lit (.val (.bool true)))]))))))) [(.var 1), (.var 0), (.lit (.val (.int .i64 0)))])
set_option maxRecDepth 1000000 in
theorem x131_ok : okF TT Tryz.f131 1 x131 = true := by decide +kernel
set_option maxRecDepth 1000000 in
theorem s_strings_makeASCIISet_ok {a0 : AV} {σ : AH} {R : AEnd → AH → Prop} (h : s_strings_makeASCIISet a0 σ R) : acall TP fn_strings_makeASCIISet [a0] σ R :=
  acall_okF (ρ := [a0]) TT_ok Tryz.func131 rfl x131 x131_ok rfl h

/-- strings.trimLeftASCII -/
def s_strings_trimLeftASCII (a0 a1 : AV) (σ : AH) (R : AEnd → AH → Prop) : Prop :=
  jn (X := Tup [0]) (fun x1 σ =>
      aret x1.1 σ R) fun k1 =>
    lp (X := Tup [0, 1]) (fun R2 y2 σ =>
      og (lenStr y2.1) fun v6 =>
      og (ibin .gtr v6 (.val (.int .i64 0))) fun v7 =>
      apick v7 (
        og (idxStr y2.1 (.val (.int .i64 0))) fun v10 =>
        acall TP fn_strings_asciiSet_contains [y2.2.1, v10] σ (onr (fun v11 σ =>
        og (aun .not v11) fun v12 =>
        apick v12 (
          k1 (y2.1, ()) σ) (
          og (slcStr y2.1 (some (.val (.int .i64 1))) none) fun v14 =>
          R2 (v14, y2.2.1, ()) σ)) (fun v σ => apan v σ R))) (
        k1 (y2.1, ()) σ)) (a0, a1, ()) σ
def x132 : Sx := .jn 7 [0] (.ret (.var 0)) (.lp [0, 1] (.og (.lenStr (.var 0)) (.og (.ibin .gtr (.var 0) (.lit (.val (.int .i64 0)))) (.apick (.var 0) (.og (.idxStr (.var 2) (.lit (.val (.int .i64 0)))) (.call 141 [(.var 4), (.var 0)] (.og (.aun .not (.var 0)) (.apick (.var 0) (.jump 1 [(.var 5)]) (.og (.slcStr (.var 5) (some (.lit (.val (.int .i64 1)))) none) (.jump 0 [(.var 0), (.var 7)])))))) (.jump 1 [(.var 2)])))) [(.var 1), (.var 0)])
set_option maxRecDepth 1000000 in
theorem x132_ok : okF TT Tryz.f132 2 x132 = true := by decide +kernel
set_option maxRecDepth 1000000 in
theorem s_strings_trimLeftASCII_ok {a0 a1 : AV} {σ : AH} {R : AEnd → AH → Prop} (h : s_strings_trimLeftASCII a0 a1 σ R) : acall TP fn_strings_trimLeftASCII [a0, a1] σ R :=
  acall_okF (ρ := [a1, a0]) TT_ok Tryz.func132 rfl x132 x132_ok rfl h

/-- strings.trimRightASCII -/
def s_strings_trimRightASCII (a0 a1 : AV) (σ : AH) (R : AEnd → AH → Prop) : Prop :=
  jn (X := Tup [0]) (fun x1 σ =>
      aret x1.1 σ R) fun k1 =>
    lp (X := Tup [0, 1]) (fun R2 y2 σ =>
      og (lenStr y2.1) fun v6 =>
      og (ibin .gtr v6 (.val (.int .i64 0))) fun v7 =>
      apick v7 (
        og (lenStr y2.1) fun v11 =>
        og (ibin .sub v11 (.val (.int .i64 1))) fun v12 =>
        og (idxStr y2.1 v12) fun v13 =>
        acall TP fn_strings_asciiSet_contains [y2.2.1, v13] σ (onr (fun v14 σ =>
        og (aun .not v14) fun v15 =>
        apick v15 (
          k1 (y2.1, ()) σ) (
          og (lenStr y2.1) fun v18 =>
          og (ibin .sub v18 (.val (.int .i64 1))) fun v19 =>
          og (slcStr y2.1 none (some v19)) fun v20 =>
          R2 (v20, y2.2.1, ()) σ)) (fun v σ => apan v σ R))) (
        k1 (y2.1, ()) σ)) (a0, a1, ()) σ
def x133 : Sx := .jn 7 [0] (.ret (.var 0)) (.lp [0, 1] (.og (.lenStr (.var 0)) (.og (.ibin .gtr (.var 0) (.lit (.val (.int .i64 0)))) (.apick (.var 0) (.og (.lenStr (.var 2)) (.og (.ibin .sub (.var 0) (.lit (.val (.int .i64 1)))) (.og (.idxStr (.var 4) (.var 0)) (.call 141 [(.var 6), (.var 0)] (.og (.aun .not (.var 0)) (.apick (.var 0) (.jump 1 [(.var 7)]) (.og (.lenStr (.var 7)) (.og (.ibin .sub (.var 0) (.lit (.val (.int .i64 1)))) (.og (.slcStr (.var 9) none (some (.var 0))) (.jump 0 [(.var 0), (.var 11)])))))))))) (.jump 1 [(.var 2)])))) [(.var 1), (.var 0)])
set_option maxRecDepth 1000000 in
theorem x133_ok : okF TT Tryz.f133 2 x133 = true := by decide +kernel
set_option maxRecDepth 1000000 in
theorem s_strings_trimRightASCII_ok {a0 a1 : AV} {σ : AH} {R : AEnd → AH → Prop} (h : s_strings_trimRightASCII a0 a1 σ R) : acall TP fn_strings_trimRightASCII [a0, a1] σ R :=
  acall_okF (ρ := [a1, a0]) TT_ok Tryz.func133 rfl x133 x133_ok rfl h

/-- loop.example/g00349/impl.kindFault -/
def s_impl_kindFault (a0 a1 a2 a3 a4 a5 : AV) (σ : AH) (R : AEnd → AH → Prop) : Prop :=
  jn (X := Tup []) (fun x1 σ =>
      aret (.val (.int .i64 0)) σ R) fun k1 =>
    og (ibin .eql a0 a1) fun v16 =>
    apick v16 (
      acall TP fn_impl_NumFault [a4] σ (onr (fun v18 σ =>
      aret v18 σ R) (fun v σ => apan v σ R))) (
      og (ibin .eql a0 a3) fun v21 =>
      apick v21 (
        acall TP fn_impl_in [a4, (.val (.int .i64 0)), (.val (.int .i64 1))] σ (onr (fun v23 σ =>
        og (aun .not v23) fun v24 =>
        apick v24 (
          aret (.val (.int .i64 3)) σ R) (
          k1 (()) σ)) (fun v σ => apan v σ R))) (
        og (ibin .eql a0 a2) fun v27 =>
        apick v27 (
          acall TP fn_impl_SymFault [a5] σ (onr (fun v29 σ =>
          aret v29 σ R) (fun v σ => apan v σ R))) (
          k1 (()) σ)))
def x136 : Sx := .jn 7 [] (.ret (.lit (.val (.int .i64 0)))) (.og (.ibin .eql (.var 5) (.var 4)) (.apick (.var 0) (.call 145 [(.var 2)] (.ret (.var 0))) (.og (.ibin .eql (.var 6) (.var 3)) (.apick (.var 0) (.call 52 [(.var 3), (.lit (.val (.int .i64 0))), (.lit (.val (.int .i64 1)))] (.og (.aun .not (.var 0)) (.apick (.var 0) (.ret (.lit (.val (.int .i64 3)))) (.jump 0 [])))) (.og (.ibin .eql (.var 7) (.var 5)) (.apick (.var 0) (.call 101 [(.var 3)] (.ret (.var 0))) (.jump 0 [])))))))
set_option maxRecDepth 1000000 in
theorem x136_ok : okF TT Tryz.f136 6 x136 = true := by decide +kernel
set_option maxRecDepth 1000000 in
theorem s_impl_kindFault_ok {a0 a1 a2 a3 a4 a5 : AV} {σ : AH} {R : AEnd → AH → Prop} (h : s_impl_kindFault a0 a1 a2 a3 a4 a5 σ R) : acall TP fn_impl_kindFault [a0, a1, a2, a3, a4, a5] σ R :=
  acall_okF (ρ := [a5, a4, a3, a2, a1, a0]) TT_ok Tryz.func136 rfl x136 x136_ok rfl h

/-- loop.example/g00349/impl.isUp -/
def s_impl_isUp (a0 a1 a2 : AV) (σ : AH) (R : AEnd → AH → Prop) : Prop :=
  lp (X := Tup [0, 2, 7]) (fun R1 y1 σ =>
    og (ibin .geq y1.2.2.1 (.val (.int .i64 0))) fun v10 =>
    apick v10 (
      og (ibin .eql y1.2.2.1 y1.2.1) fun v16 =>
      apick v16 (
        aret (.val (.bool true)) σ R) (
        acallv TP y1.1 [y1.2.2.1] σ (onr (fun v13 σ =>
        R1 (y1.1, y1.2.1, v13, ()) σ) (fun v σ => apan v σ R)))) (
      aret (.val (.bool false)) σ R)) (a0, a2, a1, ()) σ
def x137 : Sx := .lp [0, 2, 7] (.og (.ibin .geq (.var 2) (.lit (.val (.int .i64 0)))) (.apick (.var 0) (.og (.ibin .eql (.var 3) (.var 2)) (.apick (.var 0) (.ret (.lit (.val (.bool true)))) (.callv (.var 2) [(.var 4)] (.jump 0 [(.var 3), (.var 4), (.var 0)])))) (.ret (.lit (.val (.bool false)))))) [(.var 2), (.var 0), (.var 1)]
set_option maxRecDepth 1000000 in
theorem x137_ok : okF TT Tryz.f137 3 x137 = true := by decide +kernel
set_option maxRecDepth 1000000 in
theorem s_impl_isUp_ok {a0 a1 a2 : AV} {σ : AH} {R : AEnd → AH → Prop} (h : s_impl_isUp a0 a1 a2 σ R) : acall TP fn_impl_isUp [a0, a1, a2] σ R :=
  acall_okF (ρ := [a2, a1, a0]) TT_ok Tryz.func137 rfl x137 x137_ok rfl h

/-- loop.example/g00349/impl.datumFault$1 -/
def s_impl_datumFault_1 (a0 a1 : AV) (σ : AH) (R : AEnd → AH → Prop) : Prop :=
  og (lod a1 σ) fun v4 =>
  og (idx 4 v4 a0 σ) fun v6 =>
  og (fldA 1 v6) fun v7 =>
  og (lod v7 σ) fun v8 =>
  aret v8 σ R
def x138 : Sx := .og (.lod (.var 0)) (.og (.idx 4 (.var 0) (.var 2)) (.og (.fldA 1 (.var 0)) (.og (.lod (.var 0)) (.ret (.var 0)))))
set_option maxRecDepth 1000000 in
theorem x138_ok : okF TT Tryz.f138 2 x138 = true := by decide +kernel
set_option maxRecDepth 1000000 in
theorem s_impl_datumFault_1_ok {a0 a1 : AV} {σ : AH} {R : AEnd → AH → Prop} (h : s_impl_datumFault_1 a0 a1 σ R) : acall TP fn_impl_datumFault_1 [a0, a1] σ R :=
  acall_okF (ρ := [a1, a0]) TT_ok Tryz.func138 rfl x138 x138_ok rfl h

/-- loop.example/g00349/impl.deep -/
def s_impl_deep (a0 a1 : AV) (σ : AH) (R : AEnd → AH → Prop) : Prop :=
  lp (X := Tup [0, 1, 5]) (fun R1 y1 σ =>
    og (ibin .geq y1.2.1 (.val (.int .i64 0))) fun v7 =>
    apick v7 (
      og (ibin .add y1.2.2.1 (.val (.int .i64 1))) fun v14 =>
      og (idx 4 y1.1 y1.2.1 σ) fun v10 =>
      og (fldA 1 v10) fun v11 =>
      og (lod v11 σ) fun v12 =>
      R1 (y1.1, v12, v14, ()) σ) (
      aret y1.2.2.1 σ R)) (a0, a1, (.val (.int .i64 0)), ()) σ
def x139 : Sx := .lp [0, 1, 5] (.og (.ibin .geq (.var 1) (.lit (.val (.int .i64 0)))) (.apick (.var 0) (.og (.ibin .add (.var 3) (.lit (.val (.int .i64 1)))) (.og (.idx 4 (.var 2) (.var 3)) (.og (.fldA 1 (.var 0)) (.og (.lod (.var 0)) (.jump 0 [(.var 5), (.var 0), (.var 3)]))))) (.ret (.var 3)))) [(.var 1), (.var 0), (.lit (.val (.int .i64 0)))]
set_option maxRecDepth 1000000 in
theorem x139_ok : okF TT Tryz.f139 2 x139 = true := by decide +kernel
set_option maxRecDepth 1000000 in
theorem s_impl_deep_ok {a0 a1 : AV} {σ : AH} {R : AEnd → AH → Prop} (h : s_impl_deep a0 a1 σ R) : acall TP fn_impl_deep [a0, a1] σ R :=
  acall_okF (ρ := [a1, a0]) TT_ok Tryz.func139 rfl x139 x139_ok rfl h

/-- (*strings.asciiSet).contains -/
def s_strings_asciiSet_contains (a0 a1 : AV) (σ : AH) (R : AEnd → AH → Prop) : Prop :=
  og (anil a0) fun v7 =>
  og (idxArr 256 1 v7 a1) fun v8 =>
  og (lod v8 σ) fun v9 =>
  aret v9 σ R
def x141 : Sx := .og (.anil (.var 1)) (.og (.idxArr 256 1 (.var 0) (.var 1)) (.og (.lod (.var 0)) (.ret (.var 0))))
set_option maxRecDepth 1000000 in
theorem x141_ok : okF TT Tryz.f141 2 x141 = true := by decide +kernel
set_option maxRecDepth 1000000 in
theorem s_strings_asciiSet_contains_ok {a0 a1 : AV} {σ : AH} {R : AEnd → AH → Prop} (h : s_strings_asciiSet_contains a0 a1 σ R) : acall TP fn_strings_asciiSet_contains [a0, a1] σ R :=
  acall_okF (ρ := [a1, a0]) TT_ok Tryz.func141 rfl x141 x141_ok rfl h

/-- loop.example/g00349/impl.NumFault -/
def s_impl_NumFault (a0 : AV) (σ : AH) (R : AEnd → AH → Prop) : Prop :=
  acall TP fn_impl_in [a0, (.val (.int .i64 (-1000000000))), (.val (.int .i64 1000000000))] σ (onr (fun v4 σ =>
  og (aun .not v4) fun v5 =>
  apick v5 (
    aret (.val (.int .i64 3)) σ R) (
    aret (.val (.int .i64 0)) σ R)) (fun v σ => apan v σ R))
def x145 : Sx := .call 52 [(.var 0), (.lit (.val (.int .i64 (-1000000000)))), (.lit (.val (.int .i64 1000000000)))] (.og (.aun .not (.var 0)) (.apick (.var 0) (.ret (.lit (.val (.int .i64 3)))) (.ret (.lit (.val (.int .i64 0))))))
set_option maxRecDepth 1000000 in
theorem x145_ok : okF TT Tryz.f145 1 x145 = true := by decide +kernel
set_option maxRecDepth 1000000 in
theorem s_impl_NumFault_ok {a0 : AV} {σ : AH} {R : AEnd → AH → Prop} (h : s_impl_NumFault a0 σ R) : acall TP fn_impl_NumFault [a0] σ R :=
  acall_okF (ρ := [a0]) TT_ok Tryz.func145 rfl x145 x145_ok rfl h

end Go.Proofs.YtlggnigbemghgaaGreatDoor.E
