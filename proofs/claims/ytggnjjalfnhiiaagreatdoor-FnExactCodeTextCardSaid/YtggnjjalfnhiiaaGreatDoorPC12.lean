import Derived.Test.YtggnjjalfnhiiaaGreatDoorPC11
import Derived.Lib.ParseIntB
import Derived.Lib.ItoaNum
import Derived.Lib.ItoaMem
import Derived.Shelf.Strconv.ParseIntPublic10
import Derived.Shelf.Strconv.Itoa4
import Derived.Test.YtggnjjalfnhiiaaGreatDoorProg
import Derived.Lib.ParseIntBTie
import Derived.WalkKit
import Derived.BigCall
import Derived.Deep.DeepFit
import Derived.Lib.AppendIntMem
import Derived.Test.YtggnjjalfnhiiaaGreatDoorRows
import Derived.LaidLaws
import Derived.Lib.LaidU8
import Derived.Shelf.Vars
import Derived.Lib.Join
/- What functions come to. Printed by mkg.py. -/
namespace Go.Proofs.YtggnjjalfnhiiaaGreatDoor.E
open Go Go.RowKit
set_option linter.unusedVariables false
set_option linter.unusedSectionVars false
variable [Lam]
/-- loop.example/g00349/impl.datumFault -/
def s_impl_datumFault (a0 a1 : AV) (σ : AH) (R : AEnd → AH → Prop) : Prop :=
  abox a0 σ fun v2 σ =>
  frz v2 σ fun f2 σ =>
  og (lod f2 σ) fun v7 =>
  og (idx 4 v7 a1 σ) fun v9 =>
  og (lodA 4 v9 σ) fun v10 =>
  new [(.val (.int .i64 0)), (.val (.int .i64 0)), (.val (.int .i64 0)), (.val (.string ⟨#[]⟩))] σ fun v5 σ =>
  sto 4 v5 v10 σ fun σ =>
  frz v5 σ fun f5 σ =>
  og (fldA 0 f5) fun v12 =>
  og (lod v12 σ) fun v13 =>
  acall TP fn_impl_in [v13, (.val (.int .i64 1)), (.val (.int .i64 4))] σ (onr (fun v14 σ =>
  og (aun .not v14) fun v15 =>
  og (gval v15 false false (fldA 2 f5)) fun v17 =>
  og (gval v15 false false (lod v17 σ)) fun v18 =>
  og (gval v15 false false (ibin .neq v18 (.val (.int .i64 0)))) fun v19 =>
  og (gval v15 false false (some v19)) fun v20 =>
  og (gval v20 true true (fldA 0 f5)) fun v21 =>
  og (gval v20 true true (lod v21 σ)) fun v22 =>
  og (gval v20 true true (ibin .neq v22 (.val (.int .i64 1)))) fun v23 =>
  og (gval v15 false false (pickV v20 v23 (.val (.bool false)))) fun v24 =>
  og (gval v15 false false (some v24)) fun v25 =>
  og (gval v25 true true (fldA 0 f5)) fun v26 =>
  og (gval v25 true true (lod v26 σ)) fun v27 =>
  og (gval v25 true true (ibin .neq v27 (.val (.int .i64 2)))) fun v28 =>
  og (gval v15 false false (pickV v25 v28 (.val (.bool false)))) fun v29 =>
  og (pickV v15 (.val (.bool true)) v29) fun v30 =>
  og (gval v30 false false (fldA 3 f5)) fun v32 =>
  og (gval v30 false false (lod v32 σ)) fun v33 =>
  og (gval v30 false false (sbin .neq v33 (.val (.string ⟨#[]⟩)))) fun v34 =>
  og (gval v30 false false (some v34)) fun v35 =>
  og (gval v35 true true (fldA 0 f5)) fun v36 =>
  og (gval v35 true true (lod v36 σ)) fun v37 =>
  og (gval v35 true true (ibin .neq v37 (.val (.int .i64 3)))) fun v38 =>
  og (gval v30 false false (pickV v35 v38 (.val (.bool false)))) fun v39 =>
  og (pickV v30 (.val (.bool true)) v39) fun v40 =>
  apick v40 (
    aret (.val (.int .i64 1)) σ R) (
    og (fldA 0 f5) fun v41 =>
    og (lod v41 σ) fun v42 =>
    og (fldA 2 f5) fun v43 =>
    og (lod v43 σ) fun v44 =>
    og (fldA 3 f5) fun v45 =>
    og (lod v45 σ) fun v46 =>
    acall TP fn_impl_kindFault [v42, (.val (.int .i64 1)), (.val (.int .i64 3)), (.val (.int .i64 2)), v44, v46] σ (onr (fun v47 σ =>
    og (ibin .neq v47 (.val (.int .i64 0))) fun v49 =>
    apick v49 (
      aret v47 σ R) (
      og (ibin .eql a1 (.val (.int .i64 0))) fun v52 =>
      apick v52 (
        og (fldA 1 f5) fun v53 =>
        og (lod v53 σ) fun v54 =>
        og (ibin .neq v54 (.val (.int .i64 (-1)))) fun v55 =>
        apick v55 (
          aret (.val (.int .i64 3)) σ R) (
          aret (.val (.int .i64 0)) σ R)) (
        og (fldA 1 f5) fun v57 =>
        og (lod v57 σ) fun v58 =>
        og (ibin .sub a1 (.val (.int .i64 1))) fun v60 =>
        acall TP fn_impl_in [v58, (.val (.int .i64 0)), v60] σ (onr (fun v61 σ =>
        og (aun .not v61) fun v62 =>
        apick v62 (
          aret (.val (.int .i64 3)) σ R) (
          jn (X := Tup [1, 2, 63]) (fun x1 σ =>
              apick x1.2.2.1 (
                aret (.val (.int .i64 1)) σ R) (
                og (lod x1.2.1 σ) fun v81 =>
                acall TP fn_impl_deep [v81, x1.1] σ (onr (fun v83 σ =>
                og (ibin .gtr v83 (.val (.int .i64 12))) fun v84 =>
                apick v84 (
                  aret (.val (.int .i64 2)) σ R) (
                  aret (.val (.int .i64 0)) σ R)) (fun v σ => apan v σ R)))) fun k1 =>
            og (lod f2 σ) fun v64 =>
            og (fldA 1 f5) fun v65 =>
            og (lod v65 σ) fun v66 =>
            og (idx 4 v64 v66 σ) fun v67 =>
            og (fldA 0 v67) fun v68 =>
            og (lod v68 σ) fun v69 =>
            og (ibin .neq v69 (.val (.int .i64 4))) fun v70 =>
            gpick v70 (
              k1 (a1, f2, (.val (.bool true)), ()) σ) (
              og (ibin .sub a1 (.val (.int .i64 1))) fun v74 =>
              og (fldA 1 f5) fun v75 =>
              og (lod v75 σ) fun v76 =>
              acall TP fn_impl_isUp [(.clo (.func fn_impl_datumFault_1) [] [f2]), v74, v76] σ (onr (fun v77 σ =>
              og (aun .not v77) fun v78 =>
              k1 (a1, f2, v78, ()) σ) (fun v σ => apan v σ R))) (False))) (fun v σ => apan v σ R))))) (fun v σ => apan v σ R)))) (fun v σ => apan v σ R))
def x136 : Sx := .box (.var 1) (.frz 2 (.var 0) (.og (.lod (.var 0)) (.og (.idx 4 (.var 0) (.var 3)) (.og (.lodA 4 (.var 0)) (.new [(.val (.int .i64 0)), (.val (.int .i64 0)), (.val (.int .i64 0)), (.val (.string ⟨#[]⟩))] (.sto 4 (.var 0) (.var 1) (.frz 7 (.var 0) (.og (.fldA 0 (.var 0)) (.og (.lod (.var 0)) (.call 72 [(.var 0), (.lit (.val (.int .i64 1))), (.lit (.val (.int .i64 4)))] (.og (.aun .not (.var 0)) (.gog (.var 0) false false (.fldA 2 (.var 4)) (.gog (.var 1) false false (.lod (.var 0)) (.gog (.var 2) false false (.ibin .neq (.var 0) (.lit (.val (.int .i64 0)))) (.gog (.var 3) false false (.ret (.var 0)) (.gog (.var 0) true true (.fldA 0 (.var 8)) (.gog (.var 1) true true (.lod (.var 0)) (.gog (.var 2) true true (.ibin .neq (.var 0) (.lit (.val (.int .i64 1)))) (.gog (.var 7) false false (.pickV (.var 3) (.var 0) (.lit (.val (.bool false)))) (.gog (.var 8) false false (.ret (.var 0)) (.gog (.var 0) true true (.fldA 0 (.var 13)) (.gog (.var 1) true true (.lod (.var 0)) (.gog (.var 2) true true (.ibin .neq (.var 0) (.lit (.val (.int .i64 2)))) (.gog (.var 12) false false (.pickV (.var 3) (.var 0) (.lit (.val (.bool false)))) (.og (.pickV (.var 13) (.lit (.val (.bool true))) (.var 0)) (.gog (.var 0) false false (.fldA 3 (.var 18)) (.gog (.var 1) false false (.lod (.var 0)) (.gog (.var 2) false false (.sbin .neq (.var 0) (.lit (.val (.string ⟨#[]⟩)))) (.gog (.var 3) false false (.ret (.var 0)) (.gog (.var 0) true true (.fldA 0 (.var 22)) (.gog (.var 1) true true (.lod (.var 0)) (.gog (.var 2) true true (.ibin .neq (.var 0) (.lit (.val (.int .i64 3)))) (.gog (.var 7) false false (.pickV (.var 3) (.var 0) (.lit (.val (.bool false)))) (.og (.pickV (.var 8) (.lit (.val (.bool true))) (.var 0)) (.apick (.var 0) (.ret (.lit (.val (.int .i64 1)))) (.og (.fldA 0 (.var 27)) (.og (.lod (.var 0)) (.og (.fldA 2 (.var 29)) (.og (.lod (.var 0)) (.og (.fldA 3 (.var 31)) (.og (.lod (.var 0)) (.call 168 [(.var 4), (.lit (.val (.int .i64 1))), (.lit (.val (.int .i64 3))), (.lit (.val (.int .i64 2))), (.var 2), (.var 0)] (.og (.ibin .neq (.var 0) (.lit (.val (.int .i64 0)))) (.apick (.var 0) (.ret (.var 1)) (.og (.ibin .eql (.var 42) (.lit (.val (.int .i64 0)))) (.apick (.var 0) (.og (.fldA 1 (.var 36)) (.og (.lod (.var 0)) (.og (.ibin .neq (.var 0) (.lit (.val (.int .i64 (-1))))) (.apick (.var 0) (.ret (.lit (.val (.int .i64 3)))) (.ret (.lit (.val (.int .i64 0)))))))) (.og (.fldA 1 (.var 36)) (.og (.lod (.var 0)) (.og (.ibin .sub (.var 45) (.lit (.val (.int .i64 1)))) (.call 72 [(.var 1), (.lit (.val (.int .i64 0))), (.var 0)] (.og (.aun .not (.var 0)) (.apick (.var 0) (.ret (.lit (.val (.int .i64 3)))) (.jn 2023 [1, 2, 63] (.apick (.var 2) (.ret (.lit (.val (.int .i64 1)))) (.og (.lod (.var 1)) (.call 171 [(.var 0), (.var 1)] (.og (.ibin .gtr (.var 0) (.lit (.val (.int .i64 12)))) (.apick (.var 0) (.ret (.lit (.val (.int .i64 2)))) (.ret (.lit (.val (.int .i64 0))))))))) (.og (.lod (.var 46)) (.og (.fldA 1 (.var 42)) (.og (.lod (.var 0)) (.og (.idx 4 (.var 2) (.var 0)) (.og (.fldA 0 (.var 0)) (.og (.lod (.var 0)) (.og (.ibin .neq (.var 0) (.lit (.val (.int .i64 4)))) (.gpick (.var 0) (.jump 0 [(.var 55), (.var 53), (.lit (.val (.bool true)))]) (.clo (.func 170) [] [(.var 53)] (.og (.ibin .sub (.var 56) (.lit (.val (.int .i64 1)))) (.og (.fldA 1 (.var 50)) (.og (.lod (.var 0)) (.call 169 [(.var 3), (.var 2), (.var 0)] (.og (.aun .not (.var 0)) (.jump 0 [(.var 61), (.var 59), (.var 0)]))))))) (.no))))))))))))))))))))))))))))))))))))))))))))))))))))))))))))))
set_option maxRecDepth 1000000 in
theorem x136_ok : okF TT Tryz.f136 2 x136 = true := by decide +kernel
set_option maxRecDepth 1000000 in
theorem s_impl_datumFault_ok {a0 a1 : AV} {σ : AH} {R : AEnd → AH → Prop} (h : s_impl_datumFault a0 a1 σ R) : acall TP fn_impl_datumFault [a0, a1] σ R :=
  acall_okF (ρ := [a1, a0]) TT_ok Tryz.func136 rfl x136 x136_ok rfl h

/-- loop.example/g00349/laws.eqDatum -/
def s_laws_eqDatum (a0 a1 : AV) (σ : AH) (R : AEnd → AH → Prop) : Prop :=
  abox a0 σ fun v2 σ =>
  abox a1 σ fun v3 σ =>
  frz v2 σ fun f2 σ =>
  frz v3 σ fun f3 σ =>
  og (fldA 0 f2) fun v5 =>
  og (lod v5 σ) fun v6 =>
  og (fldA 0 f3) fun v7 =>
  og (lod v7 σ) fun v8 =>
  og (ibin .neq v6 v8) fun v9 =>
  apick v9 (
    aret (.val (.bool false)) σ R) (
    og (fldA 1 f2) fun v10 =>
    og (lod v10 σ) fun v11 =>
    og (fldA 1 f3) fun v12 =>
    og (lod v12 σ) fun v13 =>
    og (ibin .neq v11 v13) fun v14 =>
    apick v14 (
      aret (.val (.bool false)) σ R) (
      og (fldA 2 f2) fun v15 =>
      og (lod v15 σ) fun v16 =>
      og (fldA 2 f3) fun v17 =>
      og (lod v17 σ) fun v18 =>
      og (ibin .neq v16 v18) fun v19 =>
      apick v19 (
        aret (.val (.bool false)) σ R) (
        og (fldA 3 f2) fun v20 =>
        og (lod v20 σ) fun v21 =>
        og (fldA 3 f3) fun v22 =>
        og (lod v22 σ) fun v23 =>
        og (sbin .neq v21 v23) fun v24 =>
        apick v24 (
          aret (.val (.bool false)) σ R) (
          aret (.val (.bool true)) σ R))))
def x143 : Sx := .box (.var 1) (.box (.var 1) (.frz 2 (.var 1) (.frz 3 (.var 1) (.og (.fldA 0 (.var 1)) (.og (.lod (.var 0)) (.og (.fldA 0 (.var 2)) (.og (.lod (.var 0)) (.og (.ibin .neq (.var 2) (.var 0)) (.apick (.var 0) (.ret (.lit (.val (.bool false)))) (.og (.fldA 1 (.var 6)) (.og (.lod (.var 0)) (.og (.fldA 1 (.var 7)) (.og (.lod (.var 0)) (.og (.ibin .neq (.var 2) (.var 0)) (.apick (.var 0) (.ret (.lit (.val (.bool false)))) (.og (.fldA 2 (.var 11)) (.og (.lod (.var 0)) (.og (.fldA 2 (.var 12)) (.og (.lod (.var 0)) (.og (.ibin .neq (.var 2) (.var 0)) (.apick (.var 0) (.ret (.lit (.val (.bool false)))) (.og (.fldA 3 (.var 16)) (.og (.lod (.var 0)) (.og (.fldA 3 (.var 17)) (.og (.lod (.var 0)) (.og (.sbin .neq (.var 2) (.var 0)) (.apick (.var 0) (.ret (.lit (.val (.bool false)))) (.ret (.lit (.val (.bool true)))))))))))))))))))))))))))))))
set_option maxRecDepth 1000000 in
theorem x143_ok : okF TT Tryz.f143 2 x143 = true := by decide +kernel
set_option maxRecDepth 1000000 in
theorem s_laws_eqDatum_ok {a0 a1 : AV} {σ : AH} {R : AEnd → AH → Prop} (h : s_laws_eqDatum a0 a1 σ R) : acall TP fn_laws_eqDatum [a0, a1] σ R :=
  acall_okF (ρ := [a1, a0]) TT_ok Tryz.func143 rfl x143 x143_ok rfl h

/-- strings.makeASCIISet -/
def s_strings_makeASCIISet (a0 : AV) (σ : AH) (R : AEnd → AH → Prop) : Prop :=
  new (List.replicate 256 (.val (.bool false))) σ fun v2 σ =>
  lp (X := Tup [0, 2, 4]) (fun R1 y1 σ =>
    og (lenStr y1.1) fun v8 =>
    og (ibin .lss y1.2.2.1 v8) fun v9 =>
    apick v9 (
      og (idxStr y1.1 y1.2.2.1) fun v14 =>
      og (ibin .geq v14 (.val (.int .u8 128))) fun v16 =>
      apick v16 (
        og (lodA 256 y1.2.1 σ) fun v17 =>
        sto 256 y1.2.1 v17 σ fun σ =>
        og (lodA 256 y1.2.1 σ) fun r2 =>
        aret (.tup [r2, (.val (.bool false))]) σ R) (
        og (idxArr 256 1 y1.2.1 v14) fun v19 =>
        sto 1 v19 (.val (.bool true)) σ fun σ =>
        og (ibin .add y1.2.2.1 (.val (.int .i64 1))) fun v11 =>
        R1 (y1.1, y1.2.1, v11, ()) σ)) (
      og (lodA 256 y1.2.1 σ) fun v20 =>
      sto 256 y1.2.1 v20 σ fun σ =>
      og (lodA 256 y1.2.1 σ) fun r2 =>
      aret (.tup [r2, (.val (.bool true))]) σ R)) (a0, v2, (.val (.int .i64 0)), ()) σ
def x163 : Sx := .new (List.replicate 256 (.val (.bool false))) (.lp [0, 2, 4] (.og (.lenStr (.var 0)) (.og (.ibin .lss (.var 3) (.var 0)) (.apick (.var 0) (.og (.idxStr (.var 2) (.var 4)) (.og (.ibin .geq (.var 0) (.lit (.val (.int .u8 128)))) (.apick (.var 0) (.og (.lodA 256 (.var 5)) (.sto 256 (.var 6) (.var 0) (.og (.lodA 256 (.var 6)) (.rets [(.var 0), (.lit (.val (.bool false)))])))) (.og (.idxArr 256 1 (.var 5) (.var 1)) (.sto 1 (.var 0) (.lit (.val (.bool true))) (.og (.ibin .add (.var 7) (.lit (.val (.int .i64 1)))) (.jump 0 [(.var 6), (.var 7), (.var 0)]))))))) (.og (.lodA 256 (.var 3)) (.sto 256 (.var 4) (.var 0) (.og (.lodA 256 (.var 4)) (.rets [(.var 0), (.lit (.val (.bool true)))]))))))) [(.var 1), (.var 0), (.lit (.val (.int .i64 0)))])
set_option maxRecDepth 1000000 in
theorem x163_ok : okF TT Tryz.f163 1 x163 = true := by decide +kernel
set_option maxRecDepth 1000000 in
theorem s_strings_makeASCIISet_ok {a0 : AV} {σ : AH} {R : AEnd → AH → Prop} (h : s_strings_makeASCIISet a0 σ R) : acall TP fn_strings_makeASCIISet [a0] σ R :=
  acall_okF (ρ := [a0]) TT_ok Tryz.func163 rfl x163 x163_ok rfl h

/-- strings.trimLeftASCII -/
def s_strings_trimLeftASCII (a0 a1 : AV) (σ : AH) (R : AEnd → AH → Prop) : Prop :=
  jn (X := Tup [0]) (fun x1 σ =>
      aret x1.1 σ R) fun k1 =>
    lp (X := Tup [0, 1]) (fun R2 y2 σ =>
      og (lenStr y2.1) fun v6 =>
      og (ibin .gtr v6 (.val (.int .i64 0))) fun v7 =>
      apick v7 (
        og (idxStr y2.1 (.val (.int .i64 0))) fun v10 =>
        acall TP fn_strings_asciiSet_contains [y2.2.1, v10] σ (onr (fun v11 σ =>
        og (aun .not v11) fun v12 =>
        apick v12 (
          k1 (y2.1, ()) σ) (
          og (slcStr y2.1 (some (.val (.int .i64 1))) none) fun v14 =>
          R2 (v14, y2.2.1, ()) σ)) (fun v σ => apan v σ R))) (
        k1 (y2.1, ()) σ)) (a0, a1, ()) σ
def x164 : Sx := .jn 7 [0] (.ret (.var 0)) (.lp [0, 1] (.og (.lenStr (.var 0)) (.og (.ibin .gtr (.var 0) (.lit (.val (.int .i64 0)))) (.apick (.var 0) (.og (.idxStr (.var 2) (.lit (.val (.int .i64 0)))) (.call 202 [(.var 4), (.var 0)] (.og (.aun .not (.var 0)) (.apick (.var 0) (.jump 1 [(.var 5)]) (.og (.slcStr (.var 5) (some (.lit (.val (.int .i64 1)))) none) (.jump 0 [(.var 0), (.var 7)])))))) (.jump 1 [(.var 2)])))) [(.var 1), (.var 0)])
set_option maxRecDepth 1000000 in
theorem x164_ok : okF TT Tryz.f164 2 x164 = true := by decide +kernel
set_option maxRecDepth 1000000 in
theorem s_strings_trimLeftASCII_ok {a0 a1 : AV} {σ : AH} {R : AEnd → AH → Prop} (h : s_strings_trimLeftASCII a0 a1 σ R) : acall TP fn_strings_trimLeftASCII [a0, a1] σ R :=
  acall_okF (ρ := [a1, a0]) TT_ok Tryz.func164 rfl x164 x164_ok rfl h

/-- strings.trimRightASCII -/
def s_strings_trimRightASCII (a0 a1 : AV) (σ : AH) (R : AEnd → AH → Prop) : Prop :=
  jn (X := Tup [0]) (fun x1 σ =>
      aret x1.1 σ R) fun k1 =>
    lp (X := Tup [0, 1]) (fun R2 y2 σ =>
      og (lenStr y2.1) fun v6 =>
      og (ibin .gtr v6 (.val (.int .i64 0))) fun v7 =>
      apick v7 (
        og (lenStr y2.1) fun v11 =>
        og (ibin .sub v11 (.val (.int .i64 1))) fun v12 =>
        og (idxStr y2.1 v12) fun v13 =>
        acall TP fn_strings_asciiSet_contains [y2.2.1, v13] σ (onr (fun v14 σ =>
        og (aun .not v14) fun v15 =>
        apick v15 (
          k1 (y2.1, ()) σ) (
          og (lenStr y2.1) fun v18 =>
          og (ibin .sub v18 (.val (.int .i64 1))) fun v19 =>
          og (slcStr y2.1 none (some v19)) fun v20 =>
          R2 (v20, y2.2.1, ()) σ)) (fun v σ => apan v σ R))) (
        k1 (y2.1, ()) σ)) (a0, a1, ()) σ
def x165 : Sx := .jn 7 [0] (.ret (.var 0)) (.lp [0, 1] (.og (.lenStr (.var 0)) (.og (.ibin .gtr (.var 0) (.lit (.val (.int .i64 0)))) (.apick (.var 0) (.og (.lenStr (.var 2)) (.og (.ibin .sub (.var 0) (.lit (.val (.int .i64 1)))) (.og (.idxStr (.var 4) (.var 0)) (.call 202 [(.var 6), (.var 0)] (.og (.aun .not (.var 0)) (.apick (.var 0) (.jump 1 [(.var 7)]) (.og (.lenStr (.var 7)) (.og (.ibin .sub (.var 0) (.lit (.val (.int .i64 1)))) (.og (.slcStr (.var 9) none (some (.var 0))) (.jump 0 [(.var 0), (.var 11)])))))))))) (.jump 1 [(.var 2)])))) [(.var 1), (.var 0)])
set_option maxRecDepth 1000000 in
theorem x165_ok : okF TT Tryz.f165 2 x165 = true := by decide +kernel
set_option maxRecDepth 1000000 in
theorem s_strings_trimRightASCII_ok {a0 a1 : AV} {σ : AH} {R : AEnd → AH → Prop} (h : s_strings_trimRightASCII a0 a1 σ R) : acall TP fn_strings_trimRightASCII [a0, a1] σ R :=
  acall_okF (ρ := [a1, a0]) TT_ok Tryz.func165 rfl x165 x165_ok rfl h

/-- loop.example/g00349/impl.kindFault -/
def s_impl_kindFault (a0 a1 a2 a3 a4 a5 : AV) (σ : AH) (R : AEnd → AH → Prop) : Prop :=
  jn (X := Tup []) (fun x1 σ =>
      aret (.val (.int .i64 0)) σ R) fun k1 =>
    og (ibin .eql a0 a1) fun v16 =>
    apick v16 (
      acall TP fn_impl_NumFault [a4] σ (onr (fun v18 σ =>
      aret v18 σ R) (fun v σ => apan v σ R))) (
      og (ibin .eql a0 a3) fun v21 =>
      apick v21 (
        acall TP fn_impl_in [a4, (.val (.int .i64 0)), (.val (.int .i64 1))] σ (onr (fun v23 σ =>
        og (aun .not v23) fun v24 =>
        apick v24 (
          aret (.val (.int .i64 3)) σ R) (
          k1 (()) σ)) (fun v σ => apan v σ R))) (
        og (ibin .eql a0 a2) fun v27 =>
        apick v27 (
          acall TP fn_impl_SymFault [a5] σ (onr (fun v29 σ =>
          aret v29 σ R) (fun v σ => apan v σ R))) (
          k1 (()) σ)))
def x168 : Sx := .jn 7 [] (.ret (.lit (.val (.int .i64 0)))) (.og (.ibin .eql (.var 5) (.var 4)) (.apick (.var 0) (.call 206 [(.var 2)] (.ret (.var 0))) (.og (.ibin .eql (.var 6) (.var 3)) (.apick (.var 0) (.call 72 [(.var 3), (.lit (.val (.int .i64 0))), (.lit (.val (.int .i64 1)))] (.og (.aun .not (.var 0)) (.apick (.var 0) (.ret (.lit (.val (.int .i64 3)))) (.jump 0 [])))) (.og (.ibin .eql (.var 7) (.var 5)) (.apick (.var 0) (.call 102 [(.var 3)] (.ret (.var 0))) (.jump 0 [])))))))
set_option maxRecDepth 1000000 in
theorem x168_ok : okF TT Tryz.f168 6 x168 = true := by decide +kernel
set_option maxRecDepth 1000000 in
theorem s_impl_kindFault_ok {a0 a1 a2 a3 a4 a5 : AV} {σ : AH} {R : AEnd → AH → Prop} (h : s_impl_kindFault a0 a1 a2 a3 a4 a5 σ R) : acall TP fn_impl_kindFault [a0, a1, a2, a3, a4, a5] σ R :=
  acall_okF (ρ := [a5, a4, a3, a2, a1, a0]) TT_ok Tryz.func168 rfl x168 x168_ok rfl h

/-- loop.example/g00349/impl.isUp -/
def s_impl_isUp (a0 a1 a2 : AV) (σ : AH) (R : AEnd → AH → Prop) : Prop :=
  lp (X := Tup [0, 2, 7]) (fun R1 y1 σ =>
    og (ibin .geq y1.2.2.1 (.val (.int .i64 0))) fun v10 =>
    apick v10 (
      og (ibin .eql y1.2.2.1 y1.2.1) fun v16 =>
      apick v16 (
        aret (.val (.bool true)) σ R) (
        acallv TP y1.1 [y1.2.2.1] σ (onr (fun v13 σ =>
        R1 (y1.1, y1.2.1, v13, ()) σ) (fun v σ => apan v σ R)))) (
      aret (.val (.bool false)) σ R)) (a0, a2, a1, ()) σ
def x169 : Sx := .lp [0, 2, 7] (.og (.ibin .geq (.var 2) (.lit (.val (.int .i64 0)))) (.apick (.var 0) (.og (.ibin .eql (.var 3) (.var 2)) (.apick (.var 0) (.ret (.lit (.val (.bool true)))) (.callv (.var 2) [(.var 4)] (.jump 0 [(.var 3), (.var 4), (.var 0)])))) (.ret (.lit (.val (.bool false)))))) [(.var 2), (.var 0), (.var 1)]
set_option maxRecDepth 1000000 in
theorem x169_ok : okF TT Tryz.f169 3 x169 = true := by decide +kernel
set_option maxRecDepth 1000000 in
theorem s_impl_isUp_ok {a0 a1 a2 : AV} {σ : AH} {R : AEnd → AH → Prop} (h : s_impl_isUp a0 a1 a2 σ R) : acall TP fn_impl_isUp [a0, a1, a2] σ R :=
  acall_okF (ρ := [a2, a1, a0]) TT_ok Tryz.func169 rfl x169 x169_ok rfl h

/-- loop.example/g00349/impl.datumFault$1 -/
def s_impl_datumFault_1 (a0 a1 : AV) (σ : AH) (R : AEnd → AH → Prop) : Prop :=
  og (lod a1 σ) fun v4 =>
  og (idx 4 v4 a0 σ) fun v6 =>
  og (fldA 1 v6) fun v7 =>
  og (lod v7 σ) fun v8 =>
  aret v8 σ R
def x170 : Sx := .og (.lod (.var 0)) (.og (.idx 4 (.var 0) (.var 2)) (.og (.fldA 1 (.var 0)) (.og (.lod (.var 0)) (.ret (.var 0)))))
set_option maxRecDepth 1000000 in
theorem x170_ok : okF TT Tryz.f170 2 x170 = true := by decide +kernel
set_option maxRecDepth 1000000 in
theorem s_impl_datumFault_1_ok {a0 a1 : AV} {σ : AH} {R : AEnd → AH → Prop} (h : s_impl_datumFault_1 a0 a1 σ R) : acall TP fn_impl_datumFault_1 [a0, a1] σ R :=
  acall_okF (ρ := [a1, a0]) TT_ok Tryz.func170 rfl x170 x170_ok rfl h

/-- loop.example/g00349/impl.deep -/
def s_impl_deep (a0 a1 : AV) (σ : AH) (R : AEnd → AH → Prop) : Prop :=
  lp (X := Tup [0, 1, 5]) (fun R1 y1 σ =>
    og (ibin .geq y1.2.1 (.val (.int .i64 0))) fun v7 =>
    apick v7 (
      og (ibin .add y1.2.2.1 (.val (.int .i64 1))) fun v14 =>
      og (idx 4 y1.1 y1.2.1 σ) fun v10 =>
      og (fldA 1 v10) fun v11 =>
      og (lod v11 σ) fun v12 =>
      R1 (y1.1, v12, v14, ()) σ) (
      aret y1.2.2.1 σ R)) (a0, a1, (.val (.int .i64 0)), ()) σ
def x171 : Sx := .lp [0, 1, 5] (.og (.ibin .geq (.var 1) (.lit (.val (.int .i64 0)))) (.apick (.var 0) (.og (.ibin .add (.var 3) (.lit (.val (.int .i64 1)))) (.og (.idx 4 (.var 2) (.var 3)) (.og (.fldA 1 (.var 0)) (.og (.lod (.var 0)) (.jump 0 [(.var 5), (.var 0), (.var 3)]))))) (.ret (.var 3)))) [(.var 1), (.var 0), (.lit (.val (.int .i64 0)))]
set_option maxRecDepth 1000000 in
theorem x171_ok : okF TT Tryz.f171 2 x171 = true := by decide +kernel
set_option maxRecDepth 1000000 in
theorem s_impl_deep_ok {a0 a1 : AV} {σ : AH} {R : AEnd → AH → Prop} (h : s_impl_deep a0 a1 σ R) : acall TP fn_impl_deep [a0, a1] σ R :=
  acall_okF (ρ := [a1, a0]) TT_ok Tryz.func171 rfl x171 x171_ok rfl h

/-- (*strings.asciiSet).contains -/
def s_strings_asciiSet_contains (a0 a1 : AV) (σ : AH) (R : AEnd → AH → Prop) : Prop :=
  og (anil a0) fun v7 =>
  og (idxArr 256 1 v7 a1) fun v8 =>
  og (lod v8 σ) fun v9 =>
  aret v9 σ R
def x202 : Sx := .og (.anil (.var 1)) (.og (.idxArr 256 1 (.var 0) (.var 1)) (.og (.lod (.var 0)) (.ret (.var 0))))
set_option maxRecDepth 1000000 in
theorem x202_ok : okF TT Tryz.f202 2 x202 = true := by decide +kernel
set_option maxRecDepth 1000000 in
theorem s_strings_asciiSet_contains_ok {a0 a1 : AV} {σ : AH} {R : AEnd → AH → Prop} (h : s_strings_asciiSet_contains a0 a1 σ R) : acall TP fn_strings_asciiSet_contains [a0, a1] σ R :=
  acall_okF (ρ := [a1, a0]) TT_ok Tryz.func202 rfl x202 x202_ok rfl h

/-- loop.example/g00349/impl.NumFault -/
def s_impl_NumFault (a0 : AV) (σ : AH) (R : AEnd → AH → Prop) : Prop :=
  acall TP fn_impl_in [a0, (.val (.int .i64 (-1000000000))), (.val (.int .i64 1000000000))] σ (onr (fun v4 σ =>
  og (aun .not v4) fun v5 =>
  apick v5 (
    aret (.val (.int .i64 3)) σ R) (
    aret (.val (.int .i64 0)) σ R)) (fun v σ => apan v σ R))
def x206 : Sx := .call 72 [(.var 0), (.lit (.val (.int .i64 (-1000000000)))), (.lit (.val (.int .i64 1000000000)))] (.og (.aun .not (.var 0)) (.apick (.var 0) (.ret (.lit (.val (.int .i64 3)))) (.ret (.lit (.val (.int .i64 0))))))
set_option maxRecDepth 1000000 in
theorem x206_ok : okF TT Tryz.f206 1 x206 = true := by decide +kernel
set_option maxRecDepth 1000000 in
theorem s_impl_NumFault_ok {a0 : AV} {σ : AH} {R : AEnd → AH → Prop} (h : s_impl_NumFault a0 σ R) : acall TP fn_impl_NumFault [a0] σ R :=
  acall_okF (ρ := [a0]) TT_ok Tryz.func206 rfl x206 x206_ok rfl h

end Go.Proofs.YtggnjjalfnhiiaaGreatDoor.E
/- Texts: bytes of a text, trimming by a set of bytes, names. -/
set_option linter.unusedSectionVars false
set_option linter.unusedSimpArgs false
set_option linter.unusedVariables false
namespace Go.Proofs.YtggnjjalfnhiiaaGreatDoor.E
open Go Go.RowKit
variable [L : Lam]
variable {σ : AH} {R : AEnd → AH → Prop}
abbrev u8v (n : Int) : AV := .val (.int .u8 n)
/-- A text of a list of bytes. -/
abbrev bs (l : List UInt8) : ByteArray := ⟨l.toArray⟩
abbrev by8 (s : ByteArray) : List UInt8 := s.data.toList
theorem bs_by8 (s : ByteArray) : bs (by8 s) = s := by cases s; simp
theorem size_by8 (s : ByteArray) : s.size = (by8 s).length := by show s.data.size = s.data.toList.length; simp
theorem size_bs (l : List UInt8) : (bs l).size = l.length := by show l.toArray.size = l.length; simp
theorem abd_nat (i d : Nat) : abd (some (iv (i : Nat))) d = some i := by simp [abd]
theorem by8_bs (l : List UInt8) : by8 (bs l) = l := by simp
theorem ga_bs {l : List UInt8} {i : Nat} (h : i < l.length) : (bs l)[i]? = some l[i] := by
  have h' : i < (bs l).size := by rw [size_bs]; exact h
  rw [getElem?_pos (bs l) i h']
  rfl
theorem idxStr_bs {l : List UInt8} {i : Nat} (h : i < l.length) : idxStr (str (bs l)) (.val (.int .i64 (i : Int))) = some (u8v (l[i].toNat : Nat)) := by
  simp only [idxStr, Int.toNat_natCast, ga_bs h]
  rw [if_pos (by omega)]
theorem slc_from1 {b : UInt8} {l : List UInt8} : slcStr (str (bs (b :: l))) (some (.val (.int .i64 1))) none = some (str (bs l)) := by
  have e1 : abd (some (AV.val (.int .i64 1))) 0 = some 1 := rfl
  have e2 : abd none (bs (b :: l)).size = some (bs (b :: l)).size := rfl
  simp only [slcStr, e1, e2]
  rw [if_pos ⟨by rw [size_bs]; simp, Nat.le_refl _⟩]
  congr 3
  apply ByteArray.ext
  rw [ByteArray.data_extract, size_bs]; simp
theorem slc_init {b : UInt8} {l : List UInt8} : slcStr (str (bs (l ++ [b]))) none (some (.val (.int .i64 (l.length : Nat)))) = some (str (bs l)) := by
  have e1 : abd none 0 = some 0 := rfl
  have e2 : abd (some (AV.val (.int .i64 ((l.length : Nat) : Int)))) (bs (l ++ [b])).size = some l.length := abd_nat _ _
  simp only [slcStr, e1, e2]
  rw [if_pos ⟨Nat.zero_le _, by rw [size_bs]; simp⟩]
  congr 3
  apply ByteArray.ext
  rw [ByteArray.data_extract]; simp
theorem ibin_cmp8 (a b : Int) : ibin .geq (u8v a) (u8v b) = some (bv (decide (b ≤ a))) ∧ ibin .leq (u8v a) (u8v b) = some (bv (decide (a ≤ b))) ∧ ibin .lss (u8v a) (u8v b) = some (bv (decide (a < b))) ∧ ibin .gtr (u8v a) (u8v b) = some (bv (decide (b < a))) ∧
    ibin .eql (u8v a) (u8v b) = some (bv (decide (a = b))) ∧ ibin .neq (u8v a) (u8v b) = some (bv (!decide (a = b))) := ⟨id rfl, id rfl, id rfl, id rfl, id rfl, id rfl⟩
/-- The bytes of a set, as cells. -/
theorem lod_rop {cs : List AV} {off : Nat} {σ : AH} : lod (.rop cs off) σ = cs[off]? := by
  unfold lod acellsAt
  simp only []
  rcases Nat.lt_or_ge off cs.length with h | h
  · rw [List.drop_eq_getElem_cons h, List.getElem?_eq_getElem h]
  · rw [List.drop_eq_nil_of_le h, List.getElem?_eq_none h]
theorem dropWhile_nil (p : UInt8 → Bool) : ∀ l : List UInt8, l.dropWhile p = [] ↔ ∀ b, b ∈ l → p b = true := by
  intro l
  induction l with
  | nil => simp
  | cons b l ih =>
    rw [List.dropWhile_cons]
    by_cases h : p b = true
    · rw [if_pos h, ih]; simp [h]
    · rw [if_neg h]; simp [h]
theorem any_contains (c : List UInt8) (b : UInt8) : (c.any fun x => x.toNat == b.toNat) = c.contains b := by
  induction c with
  | nil => rfl
  | cons x c ih =>
    rw [List.any_cons, List.contains_cons, ih]
    congr 1
    by_cases e : x = b
    · subst e; simp
    · have h1 : x.toNat ≠ b.toNat := fun h => e (UInt8.toNat_inj.1 h)
      have h2 : (x.toNat == b.toNat) = false := by simpa using h1
      have h3 : (b == x) = false := by simpa using Ne.symm e
      rw [h2, h3]
def setC (c : List UInt8) : List AV := (List.range 256).map fun j => bv (c.any fun b => b.toNat == j)
theorem setC_len (c : List UInt8) : (setC c).length = 256 := by simp [setC]
theorem setC_nil : setC [] = List.replicate 256 (bv false) := by
  unfold setC
  simp only [List.any_nil]
  rw [List.map_const', List.length_range]
theorem setC_at (c : List UInt8) {n : Nat} (h : n < 256) : (setC c)[n]? = some (bv (c.any fun b => b.toNat == n)) := by simp [setC, h]
theorem setC_snoc (c : List UInt8) (b : UInt8) : (setC c).set b.toNat (bv true) = setC (c ++ [b]) := by
  apply List.ext_getElem?
  intro j
  by_cases hj : j < 256
  · rw [setC_at _ hj, List.getElem?_set]
    by_cases e : b.toNat = j
    · rw [if_pos e, if_pos (by rw [setC_len]; exact e ▸ hj)]; simp [e]
    · rw [if_neg e, setC_at _ hj]; simp [e]
  · rw [List.getElem?_eq_none (by rw [List.length_set, setC_len]; omega), List.getElem?_eq_none (by rw [setC_len]; omega)]
theorem u8_lt (b : UInt8) : b.toNat < 256 := b.toNat_lt
theorem c_strings_makeASCIISet {c : List UInt8} (hc : ∀ b, b ∈ c → b.toNat < 128) (hl : c.length ≤ 1000000) (h : R (.ret (.tup [.agg (setC c), bv true])) σ) : acall TP fn_strings_makeASCIISet [str (bs c)] σ R := by
  refine s_strings_makeASCIISet_ok ?_
  unfold s_strings_makeASCIISet
  intro φ hφ
  simp only [List.length_replicate]
  refine lp_for c.length (fun i => (str (bs c), .ptr φ 0 0 0, iv (i : Int), ())) (fun i σ' => σ' = σ.set φ ⟨0, 256, [setC (c.take i)]⟩) rfl (by rw [List.take_zero, setC_nil]) ?_
  rintro i σ' hi rfl R' hR'
  have hF : (σ.set φ ⟨0, 256, [setC (c.take i)]⟩) φ = some ⟨0, 256, [setC (c.take i)]⟩ := AH.set_same ..
  have hsz : (bs c).size = c.length := size_bs c
  simp only [RR, hsz]
  by_cases hlt : i < c.length
  · have g : (i : Int) < (c.length : Int) := by omega
    have hb := hc _ (List.getElem_mem hlt)
    have g2 : ¬ (128 : Int) ≤ ((c[i].toNat : Nat) : Int) := by omega
    have e1 : idxArr 256 1 (.ptr φ 0 0 0) (u8v (c[i].toNat : Nat)) = some (.ptr φ 0 0 c[i].toNat) := by
      simp only [idxArr]
      rw [if_pos ⟨by omega, by omega⟩]; simp
    simp only [g, idxStr_bs hlt, ibin_cmp8, g2, e1, ibin_up hlt (by omega), RR]
    refine sto_fld (sz := 256) (off := c[i].toNat) (i := 0) (cs := setC (c.take i)) (v := bv true) hF rfl (u8_lt _) rfl rfl ?_
    have ht : c.take i ++ [c[i]] = c.take (i + 1) := List.take_append_getElem hlt
    simp only [List.set_cons_zero, AH.set_set, setC_snoc, ht]
    exact hR' hlt _ _ (.refl _) rfl
  · have g : ¬ (i : Int) < (c.length : Int) := by omega
    obtain rfl : i = c.length := by omega
    rw [List.take_length] at hF ⊢
    have e1 := lodA_at (σ := σ.set φ ⟨0, 256, [setC c]⟩) (st := 0) (i := 0) (n := 256) (cs := setC c) hF rfl rfl (setC_len c)
    simp only [g, e1, RR]
    refine sto_own (es := [setC c]) (cs := setC c) hF (by simp) (setC_len c) rfl (setC_len c) ?_ ?_
    · intro x hx
      obtain ⟨j, _, rfl⟩ := List.mem_map.1 hx; rfl
    simp only [List.set_cons_zero, AH.set_set, e1, RR]
    exact aret_sub (sub_set (.refl _) hφ) h
theorem c_strings_asciiSet_contains {c : List UInt8} {b : UInt8} (h : R (.ret (bv (c.contains b))) σ) : acall TP fn_strings_asciiSet_contains [.rop (setC c) 0, u8v (b.toNat : Nat)] σ R := by
  refine s_strings_asciiSet_contains_ok ?_
  unfold s_strings_asciiSet_contains
  have e1 : idxArr 256 1 (.rop (setC c) 0) (u8v (b.toNat : Nat)) = some (.rop (setC c) b.toNat) := by
    have := u8_lt b
    simp only [idxArr]
    rw [if_pos ⟨by omega, by omega⟩]; simp
  have e2 : lod (.rop (setC c) b.toNat) σ = some (bv (c.contains b)) := by
    have hb := u8_lt b
    have hi : b.toNat < (setC c).length := by rw [setC_len]; exact hb
    have e := setC_at c hb
    rw [lod_rop, e, any_contains]
  simp only [RR, e1, e2]
  exact ret_here h
def trimL (p : UInt8 → Bool) (l : List UInt8) : List UInt8 := l.dropWhile p
def trimR (p : UInt8 → Bool) (l : List UInt8) : List UInt8 := (l.reverse.dropWhile p).reverse
theorem trimR_snoc (p : UInt8 → Bool) (l : List UInt8) (b : UInt8) : trimR p (l ++ [b]) = if p b then trimR p l else l ++ [b] := by
  unfold trimR
  rw [List.reverse_append]
  simp only [List.reverse_cons, List.reverse_nil, List.nil_append, List.singleton_append, List.dropWhile_cons]
  split <;> simp
theorem trim_nil (p : UInt8 → Bool) : ∀ l : List UInt8, trimL p (trimR p l) = [] ↔ l.all p = true := by
  intro l
  have hR : trimR p l = [] ↔ l.all p = true := by
    unfold trimR
    rw [List.reverse_eq_nil_iff, dropWhile_nil]
    simp [List.all_eq_true]
  constructor
  · intro h
    unfold trimL at h
    rw [dropWhile_nil] at h
    refine hR.1 ?_
    by_cases e : trimR p l = []
    · exact e
    · exfalso
      have hne : l.reverse.dropWhile p ≠ [] := fun h' => e (by unfold trimR; rw [h']; rfl)
      have h1 := List.head_dropWhile_not p hne
      have h2 := h ((l.reverse.dropWhile p).head hne) (by unfold trimR; rw [List.mem_reverse]; exact List.head_mem hne)
      rw [h1] at h2; cases h2
  · intro h
    rw [hR.2 h]; rfl
theorem c_strings_trimRightASCII {c l : List UInt8} (hl : l.length ≤ 1000000) (h : R (.ret (str (bs (trimR c.contains l)))) σ) : acall TP fn_strings_trimRightASCII [str (bs l), .rop (setC c) 0] σ R := by
  refine s_strings_trimRightASCII_ok ?_
  unfold s_strings_trimRightASCII
  refine jn_of (fun x σ' => σ' = σ ∧ x = (str (bs (trimR c.contains l)), ())) ?_ ?_
  · rintro x σ' ⟨rfl, rfl⟩; exact ret_here h
  intro k hk
  refine lp_by (fun n x σ' => ∃ l', x = (str (bs l'), .rop (setC c) 0, ()) ∧ σ' = σ ∧ l'.length = n ∧ n ≤ 1000000 ∧ trimR c.contains l' = trimR c.contains l) l.length ⟨l, rfl, rfl, rfl, hl, rfl⟩ ?_
  rintro n x σ' ⟨l', rfl, rfl, hn, hn2, ht⟩ R' hR'
  have hsz : (bs l').size = l'.length := size_bs l'
  simp only [RR, hsz]
  rcases List.eq_nil_or_concat l' with rfl | ⟨m, b, rfl⟩
  · have e : trimR c.contains l = [] := ht.symm
    have g : ¬ (0 : Int) < (([] : List UInt8).length : Int) := by simp
    simp only [g, RR]
    exact hk _ _ ⟨rfl, by rw [e]; rfl⟩
  · rw [List.concat_eq_append] at ht hn hsz ⊢
    have hlen : (m ++ [b]).length = m.length + 1 := by simp
    have g : (0 : Int) < ((m ++ [b]).length : Int) := by omega
    have e1 : ibin .sub (.val (.int .i64 ((m ++ [b]).length : Int))) (.val (.int .i64 1)) = some (iv (m.length : Nat)) := by rw [ibin_sub (by omega) (by omega)]; congr 3; omega
    have e2 : idxStr (str (bs (m ++ [b]))) (.val (.int .i64 (m.length : Nat))) = some (u8v (b.toNat : Nat)) := by
      rw [idxStr_bs (by omega)]; simp
    rw [trimR_snoc] at ht
    simp only [g, e1, e2, hsz, RR]
    refine c_strings_asciiSet_contains ?_
    by_cases hb : c.contains b = true
    · rw [if_pos hb] at ht
      simp only [hb, e1, slc_init, RR]
      exact hR' _ _ m.length σ' (by omega) (.refl _) ⟨m, rfl, rfl, rfl, by omega, ht⟩
    · rw [if_neg hb] at ht
      have hb' : c.contains b = false := by simpa using hb
      simp only [hb', RR]
      exact hk _ _ ⟨rfl, by rw [ht]; rfl⟩
theorem c_strings_trimLeftASCII {c l : List UInt8} (hl : l.length ≤ 1000000) (h : R (.ret (str (bs (trimL c.contains l)))) σ) : acall TP fn_strings_trimLeftASCII [str (bs l), .rop (setC c) 0] σ R := by
  refine s_strings_trimLeftASCII_ok ?_
  unfold s_strings_trimLeftASCII
  refine jn_of (fun x σ' => σ' = σ ∧ x = (str (bs (trimL c.contains l)), ())) ?_ ?_
  · rintro x σ' ⟨rfl, rfl⟩; exact ret_here h
  intro k hk
  refine lp_by (fun n x σ' => ∃ l', x = (str (bs l'), .rop (setC c) 0, ()) ∧ σ' = σ ∧ l'.length = n ∧ n ≤ 1000000 ∧ trimL c.contains l' = trimL c.contains l) l.length ⟨l, rfl, rfl, rfl, hl, rfl⟩ ?_
  rintro n x σ' ⟨l', rfl, rfl, hn, hn2, ht⟩ R' hR'
  have hsz : (bs l').size = l'.length := size_bs l'
  simp only [RR, hsz]
  match l', ht, hn, hsz with
  | [], ht, hn, hsz =>
    have e : trimL c.contains l = [] := ht.symm
    have g : ¬ (0 : Int) < (([] : List UInt8).length : Int) := by simp
    simp only [g, RR]
    exact hk _ _ ⟨rfl, by rw [e]; rfl⟩
  | b :: m, ht, hn, hsz =>
    have g : (0 : Int) < ((b :: m).length : Int) := by rw [List.length_cons]; omega
    have e2 : idxStr (str (bs (b :: m))) (.val (.int .i64 0)) = some (u8v (b.toNat : Nat)) := idxStr_bs (l := b :: m) (i := 0) (by simp)
    unfold trimL at ht
    rw [List.dropWhile_cons] at ht
    simp only [g, e2, RR]
    refine c_strings_asciiSet_contains ?_
    by_cases hb : c.contains b = true
    · rw [if_pos hb] at ht
      simp only [hb, slc_from1, RR]
      exact hR' _ _ m.length σ' (by simp at hn; omega) (.refl _) ⟨m, rfl, rfl, rfl, by simp at hn; omega, ht⟩
    · rw [if_neg hb] at ht
      have hb' : c.contains b = false := by simpa using hb
      simp only [hb', RR]
      refine hk _ _ ⟨rfl, ?_⟩
      show (str (bs (b :: m)), ()) = (str (bs (trimL c.contains l)), ())
      unfold trimL; rw [← ht]
/-- Trimming by a set of bytes below 128. -/
theorem c_strings_Trim {c l : List UInt8} (hc : ∀ b, b ∈ c → b.toNat < 128) (hc2 : 2 ≤ c.length) (hcl : c.length ≤ 1000000) (hl : l.length ≤ 1000000) (h : R (.ret (str (bs (trimL c.contains (trimR c.contains l))))) σ) : acall TP fn_strings_Trim [str (bs l), str (bs c)] σ R := by
  refine s_strings_Trim_ok ?_
  unfold s_strings_Trim
  have hsz : (bs c).size = c.length := size_bs c
  have ce : ¬ bs c = (⟨#[]⟩ : ByteArray) := by
    intro e
    have := congrArg ByteArray.size e
    rw [size_bs] at this
    change c.length = 0 at this; omega
  have g1 : ¬ ((c.length : Int) = 1) := by omega
  by_cases le : l = []
  · subst le
    have e : (bs ([] : List UInt8)) = (⟨#[]⟩ : ByteArray) := rfl
    simp only [e, sbin_eql', RR]
    exact ret_here h
  · have e : ¬ bs l = (⟨#[]⟩ : ByteArray) := by
      intro e
      have := congrArg ByteArray.size e
      rw [size_bs] at this
      exact le (List.eq_nil_of_length_eq_zero this)
    simp only [e, ce, sbin_eql', hsz, g1, RR]
    refine c_strings_makeASCIISet hc hcl ?_
    simp only [aext_tup, List.getElem?_cons_zero, List.getElem?_cons_succ, RR]
    refine new_frz rfl (setC_len c) List.length_replicate (fun y hy => by obtain ⟨j, _, rfl⟩ := List.mem_map.1 hy; rfl) ?_
    refine c_strings_trimRightASCII hl ?_
    simp only [RR]
    refine c_strings_trimLeftASCII ?_ ?_
    · have : (trimR c.contains l).length ≤ l.length := by
        unfold trimR
        rw [List.length_reverse]
        have := (List.dropWhile_sublist c.contains (l := l.reverse)).length_le
        rwa [List.length_reverse] at this
      omega
    simp only [RR]
    exact ret_here h
end Go.Proofs.YtggnjjalfnhiiaaGreatDoor.E
/- Numbers, names, kinds. -/
set_option linter.unusedSectionVars false
set_option linter.unusedSimpArgs false
set_option linter.unusedVariables false
namespace Go.Proofs.YtggnjjalfnhiiaaGreatDoor.E
open Go Go.RowKit
variable [L : Lam]
variable {σ : AH} {R : AEnd → AH → Prop}
def inB (lo hi x : Int) : Bool := decide (lo ≤ x) && decide (x ≤ hi)
theorem inB_iff {lo hi x : Int} : inB lo hi x = true ↔ lo ≤ x ∧ x ≤ hi := by simp [inB]
theorem c_impl_in {x lo hi : Int} (h : R (.ret (bv (inB lo hi x))) σ) : acall TP fn_impl_in [iv x, iv lo, iv hi] σ R := by
  refine s_impl_in_ok ?_
  unfold s_impl_in
  unfold inB at h
  by_cases h1 : lo ≤ x
  · simp only [h1, RR, Bool.true_and] at h ⊢; exact ret_here h
  · simp only [h1, RR, Bool.false_and] at h ⊢; exact ret_here h
theorem c_spec_l1In {x lo hi : Int} (h : R (.ret (bv (inB lo hi x))) σ) : acall TP fn_spec_l1In [iv x, iv lo, iv hi] σ R := by
  refine s_spec_l1In_ok ?_
  unfold s_spec_l1In
  unfold inB at h
  by_cases h1 : lo ≤ x
  · simp only [h1, RR, Bool.true_and] at h ⊢; exact ret_here h
  · simp only [h1, RR, Bool.false_and] at h ⊢; exact ret_here h
def numB (n : Int) : Bool := inB (-1000000000) 1000000000 n
theorem c_spec_l1Num {n : Int} (h : R (.ret (bv (numB n))) σ) : acall TP fn_spec_l1Num [iv n] σ R := s_spec_l1Num_ok (c_spec_l1In (ret_here h))
theorem c_impl_NumFault {n : Int} (h : R (.ret (iv (if numB n then 0 else 3))) σ) : acall TP fn_impl_NumFault [iv n] σ R := by
  refine s_impl_NumFault_ok (c_impl_in ?_)
  change R (.ret (iv (if inB (-1000000000) 1000000000 n then 0 else 3))) σ at h
  cases c : inB (-1000000000) 1000000000 n <;> rw [c] at h <;> simp only [RR] <;> exact ret_here h
def cutset : List UInt8 := [97, 98, 99, 100, 101, 102, 103, 104, 105, 106, 107, 108, 109, 110, 111, 112, 113, 114, 115, 116, 117, 118, 119, 120, 121, 122, 43, 45, 42, 47, 60, 61, 63, 33]
def symB (b : UInt8) : Bool := cutset.contains b
/-- Is a text a name? -/
def symOk (s : ByteArray) : Bool := inB 1 12 s.size && (by8 s).all symB
theorem c_impl_SymFault {s : ByteArray} (h : R (.ret (iv (if symOk s then 0 else 5))) σ) : acall TP fn_impl_SymFault [str s] σ R := by
  refine s_impl_SymFault_ok ?_
  unfold s_impl_SymFault
  unfold symOk at h
  simp only [jn, RR]
  refine c_impl_in ?_
  cases c : inB 1 12 (s.size : Int)
  · rw [c] at h
    simp only [RR]; exact ret_here h
  · rw [c] at h
    have hi := inB_iff.1 c
    have hl : (by8 s).length ≤ 1000000 := by rw [← size_by8]; omega
    simp only [RR]
    rw [← bs_by8 s]
    refine c_strings_Trim (c := cutset) (by decide) (by decide) (by decide) hl ?_
    have ht := trim_nil symB (by8 s)
    have e : (bs (trimL cutset.contains (trimR cutset.contains (by8 s))) = (⟨#[]⟩ : ByteArray)) ↔ (by8 s).all symB = true := by
      rw [← ht]
      constructor
      · intro e
        have := congrArg (fun b : ByteArray => b.data.toList) e
        exact this
      · intro e
        have e : trimL cutset.contains (trimR cutset.contains (by8 s)) = [] := e
        rw [e]
    cases ha : (by8 s).all symB
    · rw [ha] at h e
      have e : ¬ bs (trimL cutset.contains (trimR cutset.contains (by8 s))) = (⟨#[]⟩ : ByteArray) := fun h => by have := e.1 h; cases this
      simp only [sbin_neq', e, RR]; exact ret_here h
    · rw [ha] at h e
      have e := e.2 rfl
      simp only [sbin_neq', e, RR]; exact ret_here h
def signs : List UInt8 := [43, 45, 42, 47, 60, 61, 63, 33]
theorem symB_eq (b : UInt8) : symB b = ((decide (97 ≤ b.toNat) && decide (b.toNat ≤ 122)) || signs.contains b) := by
  have key : ∀ n : Fin 256, symB (UInt8.ofNat n.val) = ((decide (97 ≤ n.val) && decide (n.val ≤ 122)) || signs.contains (UInt8.ofNat n.val)) := by decide +kernel
  have hk := key ⟨b.toNat, b.toNat_lt⟩
  rw [UInt8.ofNat_toNat] at hk
  exact hk
theorem c_spec_l2Byte {b : UInt8} (h : R (.ret (bv (symB b))) σ) : acall TP fn_spec_l2Byte [u8v (b.toNat : Nat)] σ R := by
  refine s_spec_l2Byte_ok ?_
  unfold s_spec_l2Byte
  rw [symB_eq] at h
  by_cases c : 97 ≤ b.toNat ∧ b.toNat ≤ 122
  · have g1 : (97 : Int) ≤ ((b.toNat : Nat) : Int) := by omega
    have g2 : ((b.toNat : Nat) : Int) ≤ 122 := by omega
    simp only [ibin_cmp8, g1, g2, RR]
    rw [decide_eq_true c.1, decide_eq_true c.2] at h
    exact ret_here h
  have e : (decide (97 ≤ b.toNat) && decide (b.toNat ≤ 122)) = false := by simpa using c
  rw [e, Bool.false_or] at h
  have loop : ∀ (i : Nat) (_ : i ≤ signs.length) (_ : ∀ j, j < i → signs[j]? ≠ some b) (R' : Tup [0, 3, 4] → AH → Prop), (i < signs.length → signs[i]? ≠ some b → R' (u8v (b.toNat : Nat), str (bs signs), iv ((i + 1 : Nat) : Int), ()) σ) →
      (og (lenStr (str (bs signs))) fun v13 => og (ibin .lss (iv (i : Int)) v13) fun v14 => apick v14
        (og (idxStr (str (bs signs)) (iv (i : Int))) fun v19 => og (ibin .eql v19 (u8v (b.toNat : Nat))) fun v21 => apick v21 (aret (bv true) σ R)
          (og (ibin .add (iv (i : Int)) (.val (.int .i64 1))) fun v16 => R' (u8v (b.toNat : Nat), str (bs signs), v16, ()) σ)) (aret (bv false) σ R)) := by
    intro i hi hj R' hR'
    have hsz : (bs signs).size = signs.length := size_bs _
    have hsg : signs.length = 8 := rfl
    by_cases hlt : i < signs.length
    · have g : (i : Int) < (signs.length : Int) := by omega
      simp only [RR, hsz, g, idxStr_bs hlt, ibin_cmp8, ibin_up hlt (by omega)]
      have e1 := List.getElem?_eq_getElem hlt
      by_cases q : signs[i] = b
      · have q1 : ((signs[i].toNat : Nat) : Int) = ((b.toNat : Nat) : Int) := by rw [q]
        simp only [q1, RR]
        refine ret_here ?_
        rw [List.contains_iff_mem.2 (List.mem_of_getElem? (e1.trans (congrArg some q)))] at h
        exact h
      · have q1 : ¬ ((signs[i].toNat : Nat) : Int) = ((b.toNat : Nat) : Int) := fun e => q (UInt8.toNat_inj.1 (by omega))
        simp only [q1, RR]
        exact hR' hlt (by rw [e1]; exact fun e => q (Option.some.inj e))
    · have g : ¬ (i : Int) < (signs.length : Int) := by omega
      simp only [RR, hsz, g]
      refine ret_here ?_
      have : signs.contains b = false := by
        rw [Bool.eq_false_iff]
        intro hc
        obtain ⟨j, hj1, hj2⟩ := List.getElem_of_mem (List.contains_iff_mem.1 hc)
        exact hj j (by omega) (by rw [List.getElem?_eq_getElem hj1, hj2])
      rw [this] at h; exact h
  have go : lp (X := Tup [0, 3, 4]) (fun R1 y1 σ => og (lenStr y1.2.1) fun v13 => og (ibin .lss y1.2.2.1 v13) fun v14 => apick v14
        (og (idxStr y1.2.1 y1.2.2.1) fun v19 => og (ibin .eql v19 y1.1) fun v21 => apick v21 (aret (bv true) σ R)
          (og (ibin .add y1.2.2.1 (.val (.int .i64 1))) fun v16 => R1 (y1.1, y1.2.1, v16, ()) σ)) (aret (bv false) σ R)) (u8v (b.toNat : Nat), str (bs signs), .val (.int .i64 0), ()) σ := by
    refine lp_same signs.length (fun i => (u8v (b.toNat : Nat), str (bs signs), iv (i : Int), ())) (fun i => ∀ j, j < i → signs[j]? ≠ some b) rfl (fun j hj => by omega) ?_
    intro i hi hj R' hR'
    refine loop i hi hj R' fun hlt hne => hR' hlt ?_ σ (.refl _)
    intro j hj'
    rcases Nat.lt_or_ge j i with h1 | h1
    · exact hj j h1
    · obtain rfl : j = i := by omega
      exact hne
  by_cases h1 : (97 : Int) ≤ ((b.toNat : Nat) : Int)
  · have g2 : ¬ ((b.toNat : Nat) : Int) ≤ 122 := by omega
    simp only [ibin_cmp8, h1, g2, RR]
    exact go
  · simp only [ibin_cmp8, h1, RR]
    exact go
/-- A round that is the last, or one of those that go on. -/
theorem all_below {i : Nat} {Q : Nat → Prop} (h : ∀ j, j < i → Q j) (hi : Q i) : ∀ j, j < i + 1 → Q j := by
  intro j hj
  rcases Nat.lt_or_ge j i with h1 | h1
  · exact h j h1
  · obtain rfl : j = i := by omega
    exact hi
theorem c_spec_l2Sym {s : ByteArray} (hs : s.size ≤ 1099511627776) (h : R (.ret (bv (symOk s))) σ) : acall TP fn_spec_l2Sym [str s] σ R := by
  refine s_spec_l2Sym_ok ?_
  unfold s_spec_l2Sym
  unfold symOk at h
  refine lp_same (by8 s).length (fun i => (str s, iv (i : Int), ())) (fun i => ∀ j (hj : j < (by8 s).length), j < i → symB (by8 s)[j] = true) rfl (fun j _ hj => by omega) ?_
  intro i hi hj R' hR'
  have hsz := size_by8 s
  by_cases hlt : i < (by8 s).length
  · have g : (i : Int) < (s.size : Int) := by omega
    have e1 : idxStr (str s) (iv (i : Int)) = some (u8v ((by8 s)[i].toNat : Nat)) := by
      have := idxStr_bs hlt
      rwa [bs_by8] at this
    simp only [RR, g, e1]
    refine c_spec_l2Byte ?_
    cases c : symB (by8 s)[i]
    · simp only [RR]
      refine ret_here ?_
      have : (by8 s).all symB = false := by
        rw [Bool.eq_false_iff]
        intro ha
        have := List.all_eq_true.1 ha _ (List.getElem_mem hlt)
        rw [c] at this; cases this
      rw [this, Bool.and_false] at h; exact h
    · simp only [ibin_up hlt (by omega), RR]
      refine hR' hlt ?_ σ (.refl _)
      intro j hj' hlt'
      rcases Nat.lt_or_ge j i with h1 | h1
      · exact hj j hj' h1
      · obtain rfl : j = i := by omega
        exact c
  · have g : ¬ (i : Int) < (s.size : Int) := by omega
    simp only [RR, g]
    refine c_spec_l1In ?_
    simp only [RR]
    refine ret_here ?_
    have : (by8 s).all symB = true := by
      rw [List.all_eq_true]
      intro b hb
      obtain ⟨j, hj1, rfl⟩ := List.getElem_of_mem hb
      exact hj j hj1 (by omega)
    rw [this, Bool.and_true] at h; exact h
def kindF (kind num : Int) (name : ByteArray) : Int :=
  if kind = 1 then (if numB num then 0 else 3) else if kind = 2 then (if inB 0 1 num then 0 else 3) else if kind = 3 then (if symOk name then 0 else 5) else 0
theorem c_impl_kindFault {kind n : Int} {s : ByteArray} (h : R (.ret (iv (kindF kind n s))) σ) : acall TP fn_impl_kindFault [iv kind, iv 1, iv 3, iv 2, iv n, str s] σ R := by
  refine s_impl_kindFault_ok ?_
  unfold s_impl_kindFault
  unfold kindF at h
  simp only [jn, RR]
  by_cases c1 : kind = 1
  · simp only [c1, RR]
    rw [if_pos c1] at h
    refine c_impl_NumFault ?_
    simp only [RR]; exact ret_here h
  rw [if_neg c1] at h
  simp only [c1, RR]
  by_cases c2 : kind = 2
  · simp only [c2, RR]
    rw [if_pos c2] at h
    refine c_impl_in ?_
    cases c : inB 0 1 n <;> rw [c] at h <;> simp only [RR] <;> exact ret_here h
  rw [if_neg c2] at h
  simp only [c2, RR]
  by_cases c3 : kind = 3
  · simp only [c3, RR]
    rw [if_pos c3] at h
    refine c_impl_SymFault ?_
    simp only [RR]; exact ret_here h
  rw [if_neg c3] at h
  simp only [c3, RR]
  exact ret_here h
end Go.Proofs.YtggnjjalfnhiiaaGreatDoor.E
/- Data: their faults. -/
set_option linter.unusedSectionVars false
set_option linter.unusedSimpArgs false
set_option linter.unusedVariables false
namespace Go.Proofs.YtggnjjalfnhiiaaGreatDoor.E
open Go Go.RowKit
variable [L : Lam]
variable {σ : AH} {R : AEnd → AH → Prop}
/-! ### chains of parents -/
def upW (p : Int → Int) (at_ to : Int) : Bool := if at_ < 0 then false else if at_ = to then true else if p at_ < at_ then upW p (p at_) to else false
termination_by (at_ + 1).toNat
decreasing_by omega
def deepW (p : Int → Int) (at_ : Int) : Nat := if at_ < 0 then 0 else if p at_ < at_ then deepW p (p at_) + 1 else 0
termination_by (at_ + 1).toNat
decreasing_by omega
theorem deepW_le (p : Int → Int) (n : Nat) : ∀ at_ : Int, (at_ + 1).toNat ≤ n → deepW p at_ ≤ n := by
  induction n with
  | zero => intro a h; rw [deepW]; split <;> omega
  | succ n ih =>
    intro a h
    rw [deepW]
    split
    · omega
    · split
      · have := ih (p a) (by omega); omega
      · omega
theorem c_impl_isUp {f : AV} {p : Int → Int} {n from_ to : Int} (hf : ∀ (a : Int) (R : AEnd → AH → Prop), 0 ≤ a → a < n → R (.ret (iv (p a))) σ → acallv TP f [iv a] σ R) (hp : ∀ a, 0 ≤ a → a < n → p a < a) (hn : from_ < n)
    (h : R (.ret (bv (upW p from_ to))) σ) : acall TP fn_impl_isUp [f, iv from_, iv to] σ R := by
  refine s_impl_isUp_ok ?_
  unfold s_impl_isUp
  refine lp_by (fun k x σ' => ∃ a : Int, x = (f, iv to, iv a, ()) ∧ σ' = σ ∧ (a + 1).toNat = k ∧ a < n ∧ upW p a to = upW p from_ to) (from_ + 1).toNat ⟨from_, rfl, rfl, rfl, hn, rfl⟩ ?_
  rintro k x σ' ⟨a, rfl, rfl, hk, ha, e⟩ R' hR'
  rw [upW] at e
  by_cases c0 : 0 ≤ a
  · rw [if_neg (by omega)] at e
    by_cases c1 : a = to
    · rw [if_pos c1] at e
      rw [← e] at h
      simp only [c0, c1, RR]
      have c0' : 0 ≤ to := by omega
      simp only [c0', RR]
      exact ret_here h
    · rw [if_neg c1, if_pos (hp a c0 ha)] at e
      simp only [c0, c1, RR]
      refine hf a _ c0 ha ?_
      simp only [RR]
      have := hp a c0 ha
      exact hR' _ _ ((p a) + 1).toNat σ' (by omega) (.refl _) ⟨p a, rfl, rfl, rfl, by omega, e⟩
  · rw [if_pos (by omega)] at e
    rw [← e] at h
    simp only [c0, RR]
    exact ret_here h
/-! ### data -/
def dat (ds : List Dat) (i : Nat) : Dat := ds.getD i default
def par (ds : List Dat) (a : Int) : Int := (dat ds a.toNat).parent
theorem dat_at {ds : List Dat} {i : Nat} (h : i < ds.length) : ds[i] = dat ds i := by simp [dat, List.getD, h]
theorem dat_mem {ds : List Dat} {i : Nat} (h : i < ds.length) : dat ds i ∈ ds := by rw [← dat_at h]; exact List.getElem_mem h
def bareB (x : Dat) : Bool := inB 1 4 x.kind && (decide (x.kind = 1) || decide (x.kind = 2) || decide (x.num = 0)) && (decide (x.kind = 3) || decide (x.name = (⟨#[]⟩ : ByteArray)))
def datF (ds : List Dat) (i : Nat) : Int :=
  if bareB (dat ds i) = false then 1
  else if kindF (dat ds i).kind (dat ds i).num (dat ds i).name ≠ 0 then kindF (dat ds i).kind (dat ds i).num (dat ds i).name
  else if i = 0 then (if (dat ds i).parent ≠ -1 then 3 else 0)
  else if inB 0 ((i : Int) - 1) (dat ds i).parent = false then 3
  else if (dat ds (dat ds i).parent.toNat).kind ≠ 4 ∨ upW (par ds) ((i : Int) - 1) (dat ds i).parent = false then 1
  else if 12 < deepW (par ds) i then 2 else 0
/-- The first of some faults. -/
def firstF (f : Nat → Int) : Nat → Nat → Int
  | _, 0 => 0
  | i, n + 1 => if f i ≠ 0 then f i else firstF f (i + 1) n
theorem firstF_all {f : Nat → Int} : ∀ (n i : Nat), (∀ j, i ≤ j → j < i + n → f j = 0) → firstF f i n = 0 := by
  intro n
  induction n with
  | zero => intro i _; rfl
  | succ n ih =>
    intro i h
    simp only [firstF]
    rw [if_neg (by rw [h i (Nat.le_refl _) (by omega)]; simp)]
    exact ih _ fun j h1 h2 => h j (by omega) (by omega)
theorem firstF_at {f : Nat → Int} {k : Nat} (hk : f k ≠ 0) : ∀ (n i : Nat), i ≤ k → k < i + n → (∀ j, i ≤ j → j < k → f j = 0) → firstF f i n = f k := by
  intro n
  induction n with
  | zero => intro i h1 h2; omega
  | succ n ih =>
    intro i h1 h2 h
    simp only [firstF]
    by_cases e : i = k
    · subst e; rw [if_pos hk]
    · rw [if_neg (by rw [h i (Nat.le_refl _) (by omega)]; simp)]
      exact ih _ (by omega) (by omega) fun j h1 h2 => h j (by omega) h2
theorem firstF_zero {f : Nat → Int} : ∀ (n i : Nat), firstF f i n = 0 → ∀ j, i ≤ j → j < i + n → f j = 0 := by
  intro n
  induction n with
  | zero => intro i _ j h1 h2; omega
  | succ n ih =>
    intro i h j h1 h2
    simp only [firstF] at h
    split at h
    · rename_i hc; exact absurd h hc
    · rename_i hc
      by_cases e : j = i
      · subst e; simpa using hc
      · exact ih _ h j (by omega) (by omega)
def dataF (ds : List Dat) : Int := if inB 1 80 (ds.length : Int) then firstF (datF ds) 0 ds.length else 2
/-- The parents of the first data are as they have to be. -/
def Pars (ds : List Dat) (i : Nat) : Prop := ∀ a : Int, 0 ≤ a → a < i → par ds a < a ∧ -1 ≤ par ds a
theorem datF_par {ds : List Dat} {i : Nat} (h : datF ds i = 0) : par ds (i : Int) < i ∧ -1 ≤ par ds (i : Int) := by
  unfold datF at h
  have e : ((i : Int)).toNat = i := by omega
  unfold par
  rw [e]
  split at h
  · cases h
  split at h
  · rename_i hk; exact absurd h hk
  split at h
  · rename_i h0
    split at h
    · cases h
    · rename_i h1; omega
  · rename_i h0
    split at h
    · cases h
    · rename_i h1
      have : inB 0 ((i : Int) - 1) (dat ds i).parent = true := by simpa using h1
      have := inB_iff.1 this
      omega
theorem pars_of {ds : List Dat} {i : Nat} (h : ∀ j, j < i → datF ds j = 0) : Pars ds i := by
  intro a h0 h1
  have := datF_par (h a.toNat (by omega))
  rw [show ((a.toNat : Nat) : Int) = a by omega] at this
  exact this
def sD (ds : List Dat) : Prop := ∀ d, d ∈ ds → d.name.size ≤ 1099511627776
theorem c_impl_datumFault_1 {ds : List Dat} {a : Int} (h0 : 0 ≤ a) (h1 : a < ds.length) (h : R (.ret (iv (par ds a))) σ) : acall TP fn_impl_datumFault_1 [iv a, .rop [roD ds] 0] σ R := by
  refine s_impl_datumFault_1_ok ?_
  unfold s_impl_datumFault_1
  have hi : a.toNat < ds.length := by omega
  simp only [lod_one, idx_roI h0 hi len_encDat, RR, RT]
  rw [dat_at hi]
  exact ret_here h
theorem c_impl_deep {ds : List Dat} {i : Nat} (hi : i < ds.length) (hl : ds.length ≤ 1000) (hP : Pars ds (i + 1)) (h : R (.ret (iv (deepW (par ds) i : Nat))) σ) : acall TP fn_impl_deep [roD ds, iv (i : Int)] σ R := by
  refine s_impl_deep_ok ?_
  unfold s_impl_deep
  refine lp_by (fun k x σ' => ∃ (a : Int) (c : Nat), x = (roD ds, iv a, iv (c : Nat), ()) ∧ σ' = σ ∧ (a + 1).toNat = k ∧ a ≤ i ∧ c + deepW (par ds) a = deepW (par ds) i) ((i : Int) + 1).toNat ⟨i, 0, rfl, rfl, rfl, by omega, by omega⟩ ?_
  rintro k x σ' ⟨a, c, rfl, rfl, hk, ha, e⟩ R' hR'
  rw [deepW] at e
  have hd := deepW_le (par ds) (i + 1) i (by omega)
  by_cases c0 : 0 ≤ a
  · have hp := hP a c0 (by omega)
    rw [if_neg (by omega), if_pos hp.1] at e
    have hi' : a.toNat < ds.length := by omega
    have e1 : ibin .add (iv (c : Nat)) (.val (.int .i64 1)) = some (iv ((c + 1 : Nat) : Int)) := by rw [ibin_add (by omega) (by omega)]; rfl
    simp only [c0, e1, idx_roI c0 hi' len_encDat, RR, RT]
    rw [dat_at hi']
    exact hR' _ _ (par ds a + 1).toNat σ' (by omega) (.refl _) ⟨par ds a, c + 1, rfl, rfl, rfl, by omega, by omega⟩
  · rw [if_pos (by omega)] at e
    simp only [c0, RR]
    rw [Nat.add_zero] at e
    rw [e]
    exact ret_here h
theorem bare_not (x : Dat) : (!inB 1 4 x.kind || !decide (x.num = 0) && !decide (x.kind = 1) && !decide (x.kind = 2) || !decide (x.name = { data := #[] }) && !decide (x.kind = 3)) = !bareB x := by
  unfold bareB
  generalize inB 1 4 x.kind = a
  generalize decide (x.num = 0) = b
  generalize decide (x.kind = 1) = c
  generalize decide (x.kind = 2) = d
  generalize decide (x.kind = 3) = e
  generalize decide (x.name = { data := #[] }) = f
  cases a <;> cases b <;> cases c <;> cases d <;> cases e <;> cases f <;> rfl
theorem c_impl_datumFault {ds : List Dat} {i : Nat} (hi : i < ds.length) (hl : ds.length ≤ 80) (hP : Pars ds i) (h : R (.ret (iv (datF ds i))) σ) : acall TP fn_impl_datumFault [roD ds, iv (i : Int)] σ R := by
  refine s_impl_datumFault_ok ?_
  unfold s_impl_datumFault
  refine box_frz rfl ?_
  simp only [lod_one, idx_ro hi len_encDat, RR, RT]
  refine new_encDat rfl ?_
  rw [dat_at hi]
  simp only [RR, RT]
  refine c_impl_in ?_
  simp only [RR, RT, RG, sbin_neq']
  unfold datF at h
  refine apick_cases (fun c1 => ?_) (fun c1 => ?_)
  · rw [bare_not] at c1
    rw [if_pos (by simpa using c1)] at h
    exact ret_here h
  rw [bare_not] at c1
  have c1 : bareB (dat ds i) = true := by simpa using c1
  rw [if_neg (by rw [c1]; simp)] at h
  refine c_impl_kindFault ?_
  simp only [RR]
  by_cases c2 : kindF (dat ds i).kind (dat ds i).num (dat ds i).name = 0
  case neg =>
    rw [if_pos c2] at h
    simp only [c2, RR]
    exact ret_here h
  rw [if_neg (by simpa using c2)] at h
  simp only [c2, RR]
  by_cases c3 : i = 0
  · have g : ((i : Int) = 0) := by omega
    rw [if_pos c3] at h
    simp only [g, RR]
    by_cases c4 : (dat ds i).parent = -1
    · rw [if_neg (by simpa using c4)] at h
      simp only [c4, RR]; exact ret_here h
    · rw [if_pos c4] at h
      simp only [c4, RR]; exact ret_here h
  have g : ¬ ((i : Int) = 0) := by omega
  rw [if_neg c3] at h
  have hs : ibin .sub (iv (i : Int)) (.val (.int .i64 1)) = some (iv ((i : Int) - 1)) := ibin_sub (by omega) (by omega)
  simp only [g, hs, RR]
  refine c_impl_in ?_
  simp only [RR]
  refine apick_cases (fun c4 => ?_) (fun c4 => ?_)
  · rw [if_pos (by simpa using c4)] at h
    exact ret_here h
  have c4 : inB 0 ((i : Int) - 1) (dat ds i).parent = true := by simpa using c4
  rw [if_neg (by rw [c4]; simp)] at h
  obtain ⟨p0, p1⟩ := inB_iff.1 c4
  have hpi : (dat ds i).parent.toNat < ds.length := by omega
  have hPar : Pars ds (i + 1) := by
    intro a h0 h1
    by_cases e : a < (i : Int)
    · exact hP a h0 e
    · obtain rfl : a = (i : Int) := by omega
      have : par ds (i : Int) = (dat ds i).parent := by unfold par; rw [show ((i : Int)).toNat = i by omega]
      rw [this]; omega
  have tail : ¬ ((dat ds (dat ds i).parent.toNat).kind ≠ 4 ∨ upW (par ds) ((i : Int) - 1) (dat ds i).parent = false) → acall TP fn_impl_deep [roD ds, iv (i : Int)] σ (onr (fun v83 σ => og (ibin .gtr v83 (.val (.int .i64 12))) fun v84 => apick v84 (aret (.val (.int .i64 2)) σ R) (aret (.val (.int .i64 0)) σ R)) (fun v σ => apan v σ R)) := by
    intro hc
    rw [if_neg hc] at h
    refine c_impl_deep hi (by omega) hPar ?_
    simp only [RR]
    by_cases c6 : 12 < deepW (par ds) (i : Int)
    · have g6 : (12 : Int) < ((deepW (par ds) (i : Int) : Nat) : Int) := by omega
      rw [if_pos c6] at h
      simp only [g6, RR]; exact ret_here h
    · have g6 : ¬ (12 : Int) < ((deepW (par ds) (i : Int) : Nat) : Int) := by omega
      rw [if_neg c6] at h
      simp only [g6, RR]; exact ret_here h
  simp only [lod_one, jn, idx_roI p0 hpi len_encDat, RR, RT]
  rw [dat_at hpi]
  refine gpick_cases (fun c5 => ?_) (fun c5 => ?_)
  · have c5 : (dat ds (dat ds i).parent.toNat).kind ≠ 4 := by simpa using c5
    rw [if_pos (.inl c5)] at h
    exact ret_here h
  have c5 : (dat ds (dat ds i).parent.toNat).kind = 4 := by simpa using c5
  refine c_impl_isUp (p := par ds) (n := (i : Int)) (fun a R h0 h1 h => acallv_clo (c_impl_datumFault_1 h0 (by omega) h)) (fun a h0 h1 => (hP a h0 h1).1) (by omega) ?_
  simp only [RR]
  refine apick_cases (fun c6 => ?_) (fun c6 => ?_)
  · have c6 : upW (par ds) ((i : Int) - 1) (dat ds i).parent = false := by simpa using c6
    rw [if_pos (.inr c6)] at h
    exact ret_here h
  · have c6 : upW (par ds) ((i : Int) - 1) (dat ds i).parent = true := by simpa using c6
    exact tail (by rw [c6, c5]; simp)
theorem c_impl_DataFault {ds : List Dat} (h : R (.ret (iv (dataF ds))) σ) : acall TP fn_impl_DataFault [roD ds] σ R := by
  refine s_impl_DataFault_ok ?_
  unfold s_impl_DataFault
  unfold dataF at h
  simp only [RR, RT]
  refine c_impl_in ?_
  simp only [RR]
  refine apick_cases (fun c1 => ?_) (fun c1 => ?_)
  · have c1 : inB 1 80 (ds.length : Int) = false := by simpa using c1
    rw [if_neg (by rw [c1]; simp)] at h
    exact ret_here h
  have c1 : inB 1 80 (ds.length : Int) = true := by simpa using c1
  rw [if_pos c1] at h
  have hl := inB_iff.1 c1
  refine lp_same ds.length (fun i => (roD ds, iv (ds.length : Int), iv (i : Int), ())) (fun i => ∀ j, j < i → datF ds j = 0) rfl (fun j hj => by omega) ?_
  intro i hi hj R' hR'
  by_cases hlt : i < ds.length
  · have g : (i : Int) < (ds.length : Int) := by omega
    simp only [g, RR]
    refine c_impl_datumFault hlt (by omega) (pars_of hj) ?_
    simp only [RR]
    by_cases c2 : datF ds i = 0
    · simp only [c2, ibin_up hlt (by omega), RR]
      exact hR' hlt (all_below hj c2) σ (.refl _)
    · simp only [c2, RR]
      rw [firstF_at c2 ds.length 0 (Nat.zero_le _) (by omega) (fun j _ h2 => hj j h2)] at h
      exact ret_here h
  · have g : ¬ (i : Int) < (ds.length : Int) := by omega
    obtain rfl : i = ds.length := by omega
    simp only [g, RR]
    rw [firstF_all _ _ (fun j _ h2 => hj j (by omega))] at h
    exact ret_here h
end Go.Proofs.YtggnjjalfnhiiaaGreatDoor.E
/- Data: their faults, by the reference. -/
set_option linter.unusedSectionVars false
set_option linter.unusedSimpArgs false
set_option linter.unusedVariables false
namespace Go.Proofs.YtggnjjalfnhiiaaGreatDoor.E
open Go Go.RowKit
variable [L : Lam]
variable {σ : AH} {R : AEnd → AH → Prop}
theorem c_spec_l3Bare {x : Dat} (h : R (.ret (bv (bareB x))) σ) : acall TP fn_spec_l3Bare [.rop (encDat x) 0] σ R := by
  refine s_spec_l3Bare_ok ?_
  unfold s_spec_l3Bare
  simp only [RR, RT, RG]
  refine c_spec_l1In ?_
  simp only [RR, RT, RG, sbin_eql']
  refine ret_here ?_
  unfold bareB at h
  exact h
theorem c_spec_l3Line {ds : List Dat} {i : Nat} (hi : i < ds.length) (hl : ds.length ≤ 1000) (hP : Pars ds i) (h : R (.ret (bv (upW (par ds) ((i : Int) - 1) (dat ds i).parent && decide ((dat ds (dat ds i).parent.toNat).kind = 4)))) σ) : acall TP fn_spec_l3Line [roD ds, iv (i : Int)] σ R := by
  refine s_spec_l3Line_ok ?_
  unfold s_spec_l3Line
  simp only [ibin_sub (a := (i : Int)) (b := 1) (by omega) (by omega), RR]
  refine lp_by (fun k x σ' => ∃ a : Int, x = (roD ds, iv (i : Int), iv a, ()) ∧ σ' = σ ∧ (a + 1).toNat = k ∧ a < i ∧ upW (par ds) a (dat ds i).parent = upW (par ds) ((i : Int) - 1) (dat ds i).parent) ((i : Int) - 1 + 1).toNat ⟨(i : Int) - 1, rfl, rfl, rfl, by omega, rfl⟩ ?_
  rintro k x σ' ⟨a, rfl, rfl, hk, ha, e⟩ R' hR'
  rw [upW] at e
  by_cases c0 : 0 ≤ a
  · rw [if_neg (by omega)] at e
    have ha' : a.toNat < ds.length := by omega
    simp only [c0, idx_ro hi len_encDat, idx_roI c0 ha' len_encDat, RR, RT]
    rw [dat_at hi, dat_at ha']
    by_cases c1 : a = (dat ds i).parent
    · rw [if_pos c1] at e
      rw [← e, Bool.true_and, ← c1] at h
      simp only [c1, RR]
      rw [← c1]
      exact ret_here h
    · rw [if_neg c1, if_pos (hP a c0 (by omega)).1] at e
      simp only [c1, RR]
      have := (hP a c0 (by omega)).1
      exact hR' _ _ (par ds a + 1).toNat σ' (by omega) (.refl _) ⟨par ds a, rfl, rfl, rfl, by omega, e⟩
  · rw [if_pos (by omega)] at e
    rw [← e, Bool.false_and] at h
    simp only [c0, RR]
    exact ret_here h
theorem c_spec_l3Deep {ds : List Dat} {i : Nat} (hi : i < ds.length) (hl : ds.length ≤ 90) (hP : Pars ds (i + 1)) (h : R (.ret (iv (deepW (par ds) i : Nat))) σ) : acall TP fn_spec_l3Deep [roD ds, iv (i : Int)] σ R := by
  refine s_spec_l3Deep_ok ?_
  unfold s_spec_l3Deep
  refine lp_by (fun k x σ' => ∃ (a : Int) (c : Nat), x = (roD ds, iv a, iv (c : Nat), ()) ∧ σ' = σ ∧ (a + 1).toNat = k ∧ a ≤ i ∧ c + deepW (par ds) a = deepW (par ds) i) ((i : Int) + 1).toNat ⟨i, 0, rfl, rfl, rfl, by omega, by omega⟩ ?_
  rintro k x σ' ⟨a, c, rfl, rfl, hk, ha, e⟩ R' hR'
  rw [deepW] at e
  have hd := deepW_le (par ds) (i + 1) i (by omega)
  by_cases c0 : 0 ≤ a
  · have hp := hP a c0 (by omega)
    rw [if_neg (by omega), if_pos hp.1] at e
    have hi' : a.toNat < ds.length := by omega
    have e1 : ibin .add (iv (c : Nat)) (.val (.int .i64 1)) = some (iv ((c + 1 : Nat) : Int)) := by rw [ibin_add (by omega) (by omega)]; rfl
    have g : ((c : Nat) : Int) < 100 := by omega
    simp only [c0, g, e1, idx_roI c0 hi' len_encDat, RR, RT]
    rw [dat_at hi']
    exact hR' _ _ (par ds a + 1).toNat σ' (by omega) (.refl _) ⟨par ds a, c + 1, rfl, rfl, rfl, by omega, by omega⟩
  · rw [if_pos (by omega)] at e
    simp only [c0, RR]
    rw [Nat.add_zero] at e
    rw [e]
    exact ret_here h
def kB2 (x : Dat) : Bool := (decide (x.kind = 1) && !numB x.num) || (decide (x.kind = 2) && !inB 0 1 x.num)
def kB3 (x : Dat) : Bool := decide (x.kind = 3) && !symOk x.name
theorem kindF_2 {x : Dat} (h : kB2 x = true) : kindF x.kind x.num x.name = 3 := by
  unfold kB2 at h
  unfold kindF
  by_cases c1 : x.kind = 1
  · rw [if_pos c1]; cases c : numB x.num
    · rfl
    · simp [c1, c] at h
  · rw [if_neg c1]
    by_cases c2 : x.kind = 2
    · rw [if_pos c2]; cases c : inB 0 1 x.num
      · rfl
      · simp [c2, c] at h
    · simp [c1, c2] at h
theorem kindF_3 {x : Dat} (h : kB3 x = true) : kindF x.kind x.num x.name = 5 := by
  unfold kB3 at h
  simp only [Bool.and_eq_true, decide_eq_true_eq, Bool.not_eq_true'] at h
  unfold kindF
  rw [if_neg (by omega), if_neg (by omega), if_pos h.1, h.2]; rfl
theorem kindF_0 {x : Dat} (h : kB2 x = false) (h3 : kB3 x = false) : kindF x.kind x.num x.name = 0 := by
  unfold kB2 at h
  unfold kB3 at h3
  unfold kindF
  by_cases c1 : x.kind = 1
  · rw [if_pos c1]; cases c : numB x.num
    · simp [c1, c] at h
    · rfl
  · rw [if_neg c1]
    by_cases c2 : x.kind = 2
    · rw [if_pos c2]; cases c : inB 0 1 x.num
      · simp [c2, c] at h
      · rfl
    · rw [if_neg c2]
      by_cases c3 : x.kind = 3
      · rw [if_pos c3]; cases c : symOk x.name
        · simp [c3, c] at h3
        · rfl
      · rw [if_neg c3]
theorem c_spec_l3Fault {ds : List Dat} (hs : sD ds) (h : R (.ret (iv (dataF ds))) σ) : acall TP fn_spec_l3Fault [roD ds] σ R := by
  refine s_spec_l3Fault_ok ?_
  unfold s_spec_l3Fault
  unfold dataF at h
  simp only [RR, RT, RG]
  refine apick_cases (fun c1 => ?_) (fun c1 => ?_)
  · have c1 : inB 1 80 (ds.length : Int) = false := by
      simp only [Bool.or_eq_true, decide_eq_true_eq] at c1
      rw [Bool.eq_false_iff]; intro hc; have := inB_iff.1 hc; omega
    rw [if_neg (by rw [c1]; simp)] at h
    exact ret_here h
  have hl : 1 ≤ ds.length ∧ ds.length ≤ 80 := by
    simp only [Bool.or_eq_false_iff, decide_eq_false_iff_not] at c1; omega
  rw [if_pos (inB_iff.2 (by omega))] at h
  refine lp_same ds.length (fun i => (roD ds, iv (i : Int), ())) (fun i => ∀ j, j < i → datF ds j = 0) rfl (fun j hj => by omega) ?_
  intro i hi hj R' hR'
  by_cases hlt : i < ds.length
  case neg =>
    have g : ¬ (i : Int) < (ds.length : Int) := by omega
    obtain rfl : i = ds.length := by omega
    simp only [g, RR, RT]
    rw [firstF_all _ _ (fun j _ h2 => hj j (by omega))] at h
    exact ret_here h
  have g : (i : Int) < (ds.length : Int) := by omega
  have bad : ∀ v : Int, datF ds i = v → v ≠ 0 → R (.ret (iv v)) σ := fun v e hv => by
    rw [firstF_at (by rw [e]; exact hv) ds.length 0 (Nat.zero_le _) (by omega) (fun j _ h2 => hj j h2), e] at h
    exact h
  have good : datF ds i = 0 → R' (roD ds, iv ((i + 1 : Nat) : Int), ()) σ := fun e => hR' hlt (all_below hj e) σ (.refl _)
  have hP := pars_of hj
  simp only [g, idx_ro hlt len_encDat, RR, RT]
  rw [dat_at hlt]
  refine c_spec_l3Bare ?_
  simp only [RR]
  refine apick_cases (fun c2 => ?_) (fun c2 => ?_)
  · have c2 : bareB (dat ds i) = false := by simpa using c2
    exact ret_here (bad 1 (by unfold datF; rw [if_pos c2]) (by decide))
  have c2 : bareB (dat ds i) = true := by simpa using c2
  refine jn_of (fun x σ' => σ' = σ ∧ x = (roD ds, iv (i : Int), .rop (encDat (dat ds i)) 0, bv (kB2 (dat ds i)), ())) ?_ ?_
  rotate_left
  · intro k hk
    unfold kB2 at hk
    simp only [RR, RT, RG]
    by_cases k1 : (dat ds i).kind = 1
    · have k2 : ¬ (dat ds i).kind = 2 := by omega
      simp only [k1, RR, RT]
      refine c_spec_l1Num ?_
      simp only [k1, RR, RT, RG]
      have k3 : decide ((1 : Int) = 2) = false := rfl
      cases cn : numB (dat ds i).num
      · simp only [RR, k3]
        exact hk _ _ ⟨rfl, by simp [k1, cn] <;> rfl⟩
      · simp only [RR, k3]
        exact hk _ _ ⟨rfl, by simp [k1, k2, cn] <;> rfl⟩
    · simp only [k1, RR, RT, RG]
      refine gpick_cases (fun k2 => ?_) (fun k2 => ?_)
      · simp only [k2, RR]
        refine c_spec_l1In ?_
        simp only [RR]
        have k2 : (dat ds i).kind = 2 := by simpa using k2
        exact hk _ _ ⟨rfl, by simp [k2] <;> rfl⟩
      · have k2 : ¬ (dat ds i).kind = 2 := by simpa using k2
        exact hk _ _ ⟨rfl, by simp [k1, k2] <;> rfl⟩
  rintro x σ' ⟨rfl, rfl⟩
  refine apick_cases (fun c3 => ?_) (fun c3 => ?_)
  · have e := kindF_2 c3
    exact ret_here (bad 3 (by unfold datF; rw [if_neg (by rw [c2]; simp), if_pos (by rw [e]; decide), e]) (by decide))
  refine jn_of (fun x σ'' => σ'' = σ' ∧ x = (roD ds, iv (i : Int), .rop (encDat (dat ds i)) 0, bv (kB3 (dat ds i)), ())) ?_ ?_
  rotate_left
  · intro k hk
    unfold kB3 at hk
    simp only [RR, RT, RG]
    refine gpick_cases (fun k1 => ?_) (fun k1 => ?_)
    · simp only [k1, RR]
      refine c_spec_l2Sym (hs _ (dat_mem hlt)) ?_
      simp only [RR]
      exact hk _ _ ⟨rfl, by rw [k1, Bool.true_and]; rfl⟩
    · exact hk _ _ ⟨rfl, by rw [k1, Bool.false_and]; rfl⟩
  rintro x σ ⟨rfl, rfl⟩
  refine apick_cases (fun c4 => ?_) (fun c4 => ?_)
  · have e := kindF_3 c4
    exact ret_here (bad 5 (by unfold datF; rw [if_neg (by rw [c2]; simp), if_pos (by rw [e]; decide), e]) (by decide))
  have ek := kindF_0 c3 c4
  have hd : datF ds i = if i = 0 then (if (dat ds i).parent ≠ -1 then 3 else 0) else if inB 0 ((i : Int) - 1) (dat ds i).parent = false then 3
      else if (dat ds (dat ds i).parent.toNat).kind ≠ 4 ∨ upW (par ds) ((i : Int) - 1) (dat ds i).parent = false then 1 else if 12 < deepW (par ds) i then 2 else 0 := by
    unfold datF; rw [if_neg (by rw [c2]; simp), if_neg (by rw [ek]; simp)]
  have hsub : ibin .sub (iv (i : Int)) (.val (.int .i64 1)) = some (iv ((i : Int) - 1)) := ibin_sub (by omega) (by omega)
  refine jn_of (fun x σ' => σ' = σ ∧ x = (roD ds, iv (i : Int), bv ((decide (i = 0) && !decide ((dat ds i).parent = -1)) || (!decide (i = 0) && !inB 0 ((i : Int) - 1) (dat ds i).parent)), ())) ?_ ?_
  rotate_left
  · intro k hk
    simp only [RR, RT, RG]
    by_cases i0 : i = 0
    · have g0 : (i : Int) = 0 := by omega
      have g1 : ¬ (0 : Int) < (i : Int) := by omega
      simp only [g0, RR, RT, RG]
      cases cp : decide ((dat ds i).parent = -1)
      · simp only [RR]
        exact hk _ _ ⟨rfl, by subst i0; simp [cp] <;> rfl⟩
      · simp only [RR]
        have g3 : decide ((0 : Int) < 0) = false := rfl
        simp only [g3, RR]
        exact hk _ _ ⟨rfl, by subst i0; simp [cp] <;> rfl⟩
    · have g0 : ¬ (i : Int) = 0 := by omega
      have g1 : (0 : Int) < (i : Int) := by omega
      simp only [g0, g1, hsub, RR, RT, RG]
      refine c_spec_l1In ?_
      simp only [RR]
      exact hk _ _ ⟨rfl, by simp [i0] <;> rfl⟩
  rintro x σ' ⟨rfl, rfl⟩
  refine apick_cases (fun c5 => ?_) (fun c5 => ?_)
  · refine ret_here (bad 3 ?_ (by decide))
    rw [hd]
    by_cases i0 : i = 0
    · rw [if_pos i0]; rw [if_pos]; simpa [i0] using c5
    · rw [if_neg i0]; rw [if_pos]; simpa [i0] using c5
  by_cases i0 : i = 0
  · rw [if_pos i0] at hd
    have hp : (dat ds i).parent = -1 := by simpa [i0] using c5
    rw [if_neg (by simpa using hp)] at hd
    have g1 : ¬ (0 : Int) < (i : Int) := by omega
    have hPar : Pars ds (i + 1) := pars_of (all_below hj hd)
    simp only [jn, g1, RR, RT]
    refine c_spec_l3Deep hlt (by omega) hPar ?_
    have hdeep := deepW_le (par ds) 1 (i : Int) (by omega)
    have g6 : ¬ (12 : Int) < ((deepW (par ds) (i : Int) : Nat) : Int) := by omega
    simp only [g6, ibin_up hlt (by omega), RR]
    exact good hd
  rw [if_neg i0] at hd
  have c5 : inB 0 ((i : Int) - 1) (dat ds i).parent = true := by simpa [i0] using c5
  obtain ⟨p0, p1⟩ := inB_iff.1 c5
  rw [if_neg (by rw [c5]; simp)] at hd
  have g1 : (0 : Int) < (i : Int) := by omega
  have hPar : Pars ds (i + 1) := by
    intro a h0 h1
    by_cases e : a < (i : Int)
    · exact hP a h0 e
    · obtain rfl : a = (i : Int) := by omega
      have : par ds (i : Int) = (dat ds i).parent := by unfold par; rw [show ((i : Int)).toNat = i by omega]
      rw [this]; omega
  simp only [jn, g1, RR, RT]
  refine c_spec_l3Line hlt (by omega) hP ?_
  simp only [RR]
  refine apick_cases (fun c6 => ?_) (fun c6 => ?_)
  · refine ret_here (bad 1 ?_ (by decide))
    rw [hd, if_pos]
    cases cu : upW (par ds) ((i : Int) - 1) (dat ds i).parent
    · exact .inr rfl
    · rw [cu] at c6
      exact .inl (by simpa using c6)
  have c6 : upW (par ds) ((i : Int) - 1) (dat ds i).parent = true ∧ (dat ds (dat ds i).parent.toNat).kind = 4 := by simpa using c6
  rw [if_neg (by rw [c6.1, c6.2]; simp)] at hd
  refine c_spec_l3Deep hlt (by omega) hPar ?_
  simp only [RR]
  by_cases c7 : 12 < deepW (par ds) (i : Int)
  · have g6 : (12 : Int) < ((deepW (par ds) (i : Int) : Nat) : Int) := by omega
    rw [if_pos c7] at hd
    simp only [g6, RR]
    exact ret_here (bad 2 hd (by decide))
  · have g6 : ¬ (12 : Int) < ((deepW (par ds) (i : Int) : Nat) : Int) := by omega
    rw [if_neg c7] at hd
    simp only [g6, ibin_up hlt (by omega), RR]
    exact good hd
end Go.Proofs.YtggnjjalfnhiiaaGreatDoor.E
/- Operations and blocks: their faults. -/
set_option linter.unusedSectionVars false
set_option linter.unusedSimpArgs false
set_option linter.unusedVariables false
namespace Go.Proofs.YtggnjjalfnhiiaaGreatDoor.E
open Go Go.RowKit
variable [L : Lam]
variable {σ : AH} {R : AEnd → AH → Prop}
/-! ### what the functions share -/
theorem fin_cell {φ n : Nat} {zs cs : List AV} (hφ : σ φ = none) (hz : zs.length = n) (hc : cs.length = n) (h1 : ∀ x, x ∈ cs → x.one = true) (h : R (.ret (.agg cs)) σ) :
    sto n (.ptr φ 0 0 0) (.agg cs) (σ.set φ ⟨0, n, [zs]⟩) fun σ => og (lodA n (.ptr φ 0 0 0) σ) fun r => aret r σ R := by
  refine sto_own (es := [zs]) (cs := cs) (AH.set_same ..) (by simp) (by simpa using hz) rfl hc h1 ?_
  simp only [List.set_cons_zero, AH.set_set]
  have e := lodA_at (σ := σ.set φ ⟨0, n, [cs]⟩) (φ := φ) (st := 0) (i := 0) (n := n) (cs := cs) (AH.set_same ..) rfl rfl hc
  simp only [e, RR]
  exact aret_sub (sub_set (.refl _) hφ) h
theorem one2 {a b : AV} (ha : a.one = true) (hb : b.one = true) : ∀ x, x ∈ [a, b] → x.one = true := by
  intro x hx
  simp only [List.mem_cons, List.not_mem_nil, or_false] at hx
  rcases hx with rfl | rfl <;> assumption
abbrev roN (xs : List Int) : AV := .ro (xs.map fun x => [iv x])
theorem slc_roN {xs : List Int} {k : Nat} (hk : k ≤ xs.length) : slc 1 (roN xs) (some (iv (k : Nat))) none none σ = some (roN (xs.drop k)) := by
  obtain ⟨b, h1, h2⟩ := Cs.slc (Cs.ro iv σ xs) (lo := some (iv (k : Nat))) (hi := none) (l := k) (k := xs.length) (abd_nat _ _) rfl hk (Nat.le_refl _)
  have e : abd (some (iv (k : Nat))) 0 = some k := abd_nat _ _
  have e2 : abd none ((xs.map fun x => [iv x]).length) = some (xs.map fun x => [iv x]).length := rfl
  simp only [slc, e, e2]
  rw [if_pos ⟨by simpa using hk, Nat.le_refl _, Nat.le_refl _, by simp, by rw [List.all_eq_true]; intro c hc; obtain ⟨x, _, rfl⟩ := List.mem_map.1 hc; rfl⟩]
  rw [List.take_length, ← List.map_drop]
theorem c_slices_IndexFunc {f : AV} {xs : List Int} {p : Int → Bool} (hl : xs.length ≤ 1099511627776) (hf : ∀ (x : Int) (R : AEnd → AH → Prop), R (.ret (bv (p x))) σ → acallv TP f [iv x] σ R)
    (h : ∀ v : Int, decide (0 ≤ v) = xs.any p → R (.ret (iv v)) σ) : acall TP fn_slices_IndexFunc [roN xs, f] σ R := by
  refine s_slices_IndexFunc_ok ?_
  unfold s_slices_IndexFunc
  have hS := Cs.ro iv σ xs
  simp only [hS.len, RR]
  refine lp_same xs.length (fun i => (roN xs, f, iv (xs.length : Int), iv (i : Int), ())) (fun i => ∀ j (hj : j < xs.length), j < i → p xs[j] = false) rfl (fun j _ hj => by omega) ?_
  intro i hi hj R' hR'
  by_cases hlt : i < xs.length
  · have g : (i : Int) < (xs.length : Int) := by omega
    obtain ⟨q, q1, q2, _⟩ := hS.at hlt
    simp only [g, q1, q2, RR]
    refine hf _ _ ?_
    simp only [RR]
    cases c : p xs[i]
    · simp only [ibin_up hlt (by omega), RR]
      refine hR' hlt (fun j hj' hlt' => ?_) σ (.refl _)
      rcases Nat.lt_or_ge j i with h1 | h1
      · exact hj j hj' h1
      · obtain rfl : j = i := by omega
        exact c
    · simp only [RR]
      refine ret_here (h _ ?_)
      rw [decide_eq_true (by omega), Eq.comm, List.any_eq_true]
      exact ⟨_, List.getElem_mem hlt, c⟩
  · have g : ¬ (i : Int) < (xs.length : Int) := by omega
    simp only [g, RR]
    refine ret_here (h _ ?_)
    rw [decide_eq_false (by omega), Eq.comm, List.any_eq_false]
    intro x hx
    obtain ⟨j, hj1, rfl⟩ := List.getElem_of_mem hx
    rw [hj j hj1 (by omega)]; simp
theorem c_slices_ContainsFunc {f : AV} {xs : List Int} {p : Int → Bool} (hl : xs.length ≤ 1099511627776) (hf : ∀ (x : Int) (R : AEnd → AH → Prop), R (.ret (bv (p x))) σ → acallv TP f [iv x] σ R)
    (h : R (.ret (bv (xs.any p))) σ) : acall TP fn_slices_ContainsFunc [roN xs, f] σ R := by
  refine s_slices_ContainsFunc_ok ?_
  unfold s_slices_ContainsFunc
  refine c_slices_IndexFunc hl hf fun v hv => ?_
  simp only [RR, hv]
  exact ret_here h
/-! ### operations -/
def numsN (k : Int) : Nat := if k = 4 ∨ k = 5 ∨ k = 6 ∨ k = 10 ∨ k = 11 then 1 else if k = 2 ∨ k = 14 then 2 else if k = 16 then 3 else if k = 15 then 4 else 0
def namedB (k : Int) : Bool := decide (k = 3) || decide (k = 8) || decide (k = 9)
def dataB (k : Int) : Bool := decide (k = 1) || decide (k = 13)
theorem numsN_le (k : Int) : numsN k ≤ 4 := by unfold numsN; repeat' split <;> try omega
theorem nums_walk {k : Int} (h : R (.ret (iv (numsN k : Nat))) σ) :
    jn (X := Tup [3, 4]) (fun x1 σ =>
      apick x1.2.1 (aret (iv 1) σ R) (jn (X := Tup [3, 10]) (fun x2 σ => apick x2.2.1 (aret (iv 2) σ R) (og (ibin .eql x2.1 (iv 16)) fun v14 => apick v14 (aret (iv 3) σ R) (og (ibin .eql x2.1 (iv 15)) fun v16 => apick v16 (aret (iv 4) σ R) (aret (iv 0) σ R)))) fun k2 =>
          og (ibin .eql x1.1 (iv 2)) fun v11 => apick v11 (k2 (x1.1, v11, ()) σ) (og (ibin .eql x1.1 (iv 14)) fun v12 => k2 (x1.1, v12, ()) σ))) fun k1 =>
    og (ibin .eql (iv k) (iv 4)) fun v5 => apick v5 (k1 (iv k, v5, ()) σ) (og (ibin .eql (iv k) (iv 5)) fun v6 => apick v6 (k1 (iv k, v6, ()) σ) (og (ibin .eql (iv k) (iv 6)) fun v7 => apick v7 (k1 (iv k, v7, ()) σ) (
          og (ibin .eql (iv k) (iv 10)) fun v8 => apick v8 (k1 (iv k, v8, ()) σ) (og (ibin .eql (iv k) (iv 11)) fun v9 => k1 (iv k, v9, ()) σ)))) := by
  unfold numsN at h
  simp only [jn, RR]
  by_cases c1 : k = 4
  · subst c1; simp only [RR]; exact ret_here h
  by_cases c2 : k = 5
  · subst c2; simp only [RR]; exact ret_here h
  by_cases c3 : k = 6
  · subst c3; simp only [RR]; exact ret_here h
  by_cases c4 : k = 10
  · subst c4; simp only [RR]; exact ret_here h
  by_cases c5 : k = 11
  · subst c5; simp only [RR]; exact ret_here h
  rw [if_neg (by omega)] at h
  simp only [c1, c2, c3, c4, c5, RR]
  by_cases c6 : k = 2
  · subst c6; simp only [RR]; exact ret_here h
  by_cases c7 : k = 14
  · subst c7; simp only [RR]; exact ret_here h
  rw [if_neg (by omega)] at h
  simp only [c6, c7, RR]
  by_cases c8 : k = 16
  · subst c8; simp only [RR]; exact ret_here h
  rw [if_neg c8] at h
  by_cases c9 : k = 15
  · subst c9; simp only [RR]; exact ret_here h
  rw [if_neg c9] at h
  simp only [c8, c9, RR]
  exact ret_here h
theorem c_impl_opNums {k : Int} (h : R (.ret (iv (numsN k : Nat))) σ) : acall TP fn_impl_opNums [iv k] σ R := s_impl_opNums_ok (nums_walk h)
theorem c_spec_l9Nums {k : Int} (h : R (.ret (iv (numsN k : Nat))) σ) : acall TP fn_spec_l9Nums [iv k] σ R := s_spec_l9Nums_ok (nums_walk h)
theorem c_impl_opNamed {k : Int} (h : R (.ret (bv (namedB k))) σ) : acall TP fn_impl_opNamed [iv k] σ R := by
  refine s_impl_opNamed_ok ?_
  unfold s_impl_opNamed
  simp only [RR, RG]; exact ret_here h
theorem c_spec_l9Named {k : Int} (h : R (.ret (bv (namedB k))) σ) : acall TP fn_spec_l9Named [iv k] σ R := by
  refine s_spec_l9Named_ok ?_
  unfold s_spec_l9Named
  simp only [RR, RG]; exact ret_here h
theorem c_impl_opData {k : Int} (h : R (.ret (bv (dataB k))) σ) : acall TP fn_impl_opData [iv k] σ R := by
  refine s_impl_opData_ok ?_
  unfold s_impl_opData
  simp only [RR, RG]; exact ret_here h
theorem c_spec_l9Const {k : Int} (h : R (.ret (bv (dataB k))) σ) : acall TP fn_spec_l9Const [iv k] σ R := by
  refine s_spec_l9Const_ok ?_
  unfold s_spec_l9Const
  simp only [RR, RG]; exact ret_here h
def opL (o : OpD) : List Int := [o.a, o.b, o.c, o.d]
def opF1 (o : OpD) : Bool := !inB 1 16 o.kind || ((opL o).drop (numsN o.kind)).any (fun n => !decide (n = 0)) || (!decide (o.name = (⟨#[]⟩ : ByteArray)) && !namedB o.kind) || (decide ((0 : Int) < (o.data.length : Int)) && !dataB o.kind)
def opF2 (o : OpD) : Bool := (opL o).any (fun n => !inB 0 999 n) || ((decide (o.kind = 10) || decide (o.kind = 11)) && decide (3 < o.a))
def opF (o : OpD) : Int := if opF1 o then 1 else if opF2 o then 3 else if namedB o.kind then (if symOk o.name then 0 else 5) else if dataB o.kind then dataF o.data else 0
theorem c_impl_OpFault_1 {n : Int} (h : R (.ret (bv (!decide (n = 0)))) σ) : acall TP fn_impl_OpFault_1 [iv n] σ R := by
  refine s_impl_OpFault_1_ok ?_
  unfold s_impl_OpFault_1
  simp only [RR]; exact ret_here h
theorem c_impl_OpFault_2 {n : Int} (h : R (.ret (bv (!inB 0 999 n))) σ) : acall TP fn_impl_OpFault_2 [iv n] σ R := by
  refine s_impl_OpFault_2_ok (c_impl_in ?_)
  simp only [RR]; exact ret_here h
theorem c_impl_OpFault {o : OpD} (h : R (.ret (iv (opF o))) σ) : acall TP fn_impl_OpFault [.agg (encOp o)] σ R := by
  refine s_impl_OpFault_ok ?_
  unfold s_impl_OpFault
  refine box_encOp ?_
  simp only [RR, RT]
  refine bsl_frz (es := (opL o).map fun x => [iv x]) rfl (by decide) rfl (fun c hc => by obtain ⟨x, _, rfl⟩ := List.mem_map.1 hc; rfl) ?_
  unfold opF at h
  refine jn_of (fun x σ' => σ' = σ ∧ x = (.rop (encOp o) 0, roN (opL o), bv (opF1 o), ())) ?_ ?_
  rotate_left
  · intro k hk
    unfold opF1 at hk
    refine c_impl_in ?_
    cases c1 : inB 1 16 o.kind
    · simp only [RR, RT]
      exact hk _ _ ⟨rfl, by rw [c1]; simp <;> rfl⟩
    rw [c1] at hk
    simp only [RR, RT, Bool.false_or] at hk ⊢
    refine c_impl_opNums ?_
    simp only [slc_roN (xs := opL o) (k := numsN o.kind) (numsN_le _), RR]
    refine c_slices_ContainsFunc (p := fun n => !decide (n = 0)) (by simp [opL]; omega) (fun x R h => acallv_clo (c_impl_OpFault_1 h)) ?_
    generalize ((opL o).drop (numsN o.kind)).any (fun n => !decide (n = 0)) = A at hk ⊢
    have fin : (∀ B : Bool, (∀ x σ', (σ' = σ ∧ x = (.rop (encOp o) 0, roN (opL o), bv (B || (decide ((0 : Int) < (o.data.length : Int)) && !dataB o.kind)), ())) → k x σ') →
       og (gval (bv B) false false (some (AV.rop (encOp o) 6))) fun v40 =>
        og (gval (bv B) false false (lod v40 σ)) fun v41 =>
        og (gval (bv B) false false (lenS v41)) fun v42 =>
        og (gval (bv B) false false (ibin .gtr v42 (iv 0))) fun v43 =>
        og (gval (bv B) false false (some v43)) fun v44 =>
        og (gval v44 true true (fldA 0 (.rop (encOp o) 0))) fun v45 =>
        og (gval v44 true true (lod v45 σ)) fun v46 =>
        gpick v44 (
          acall TP fn_impl_opData [v46] σ (onr (fun v47 σ =>
          og (aun .not v47) fun v48 =>
          og (gval (bv B) false false (some v48)) fun v49 =>
          og (pickV (bv B) (bv true) v49) fun v50 =>
          k (.rop (encOp o) 0, roN (opL o), v50, ()) σ) (fun v σ => apan v σ R))) (
          og (gval (bv B) false false (some (bv false))) fun v49 =>
          og (pickV (bv B) (bv true) v49) fun v50 =>
          k (.rop (encOp o) 0, roN (opL o), v50, ()) σ) (
          og (gval (bv B) false false (pickV (.tup []) (.tup []) (bv false))) fun v49 =>
          og (pickV (bv B) (bv true) v49) fun v50 =>
          k (.rop (encOp o) 0, roN (opL o), v50, ()) σ)) := by
      intro B hk
      cases B
      · simp only [RR, RT, Bool.false_or] at hk ⊢
        cases c : decide ((0 : Int) < (o.data.length : Int))
        · rw [c] at hk
          simp only [RR, Bool.false_and] at hk ⊢
          exact hk _ _ ⟨rfl, rfl⟩
        · rw [c] at hk
          simp only [RR, Bool.true_and] at hk ⊢
          refine c_impl_opData ?_
          simp only [RR]
          exact hk _ _ ⟨rfl, rfl⟩
      · simp only [RR, RT, Bool.true_or] at hk ⊢
        exact hk _ _ ⟨rfl, rfl⟩
    cases A
    · simp only [RR, RT, sbin_neq', Bool.false_or] at hk ⊢
      cases c2 : decide (o.name = (⟨#[]⟩ : ByteArray))
      · rw [c2] at hk
        simp only [RR, RT, Bool.true_and] at hk ⊢
        refine c_impl_opNamed ?_
        simp only [RR]
        exact fin _ hk
      · rw [c2] at hk
        simp only [RR, RT, Bool.false_and] at hk ⊢
        have := fin _ hk
        simp only [RR, RT] at this
        exact this
    · simp only [RR, RT, sbin_neq', Bool.true_or] at hk ⊢
      exact fin true fun x σ' h => hk _ _ ⟨h.1, by rw [h.2]; simp <;> rfl⟩
  rintro _ _ ⟨rfl, rfl⟩
  refine apick_cases (fun c1 => ?_) (fun c1 => ?_)
  · rw [if_pos c1] at h
    exact ret_here h
  rw [if_neg (by rw [c1]; simp)] at h
  refine c_slices_ContainsFunc (p := fun n => !inB 0 999 n) (by simp [opL]) (fun x R h => acallv_clo (c_impl_OpFault_2 h)) ?_
  simp only [RR, RT, RG]
  refine apick_cases (fun c2 => ?_) (fun c2 => ?_)
  · rw [if_pos (show opF2 o = true from c2)] at h
    exact ret_here h
  rw [if_neg (show ¬ opF2 o = true by unfold opF2; rw [c2]; simp)] at h
  refine c_impl_opNamed ?_
  cases c3 : namedB o.kind
  · rw [c3] at h
    simp only [RR]
    refine c_impl_opData ?_
    cases c4 : dataB o.kind
    · rw [c4] at h
      simp only [RR]
      exact ret_here h
    · rw [c4] at h
      simp only [RR, RT]
      refine c_impl_DataFault ?_
      simp only [RR]
      exact ret_here h
  · rw [c3] at h
    simp only [RR, RT]
    refine c_impl_SymFault ?_
    simp only [RR]
    exact ret_here h
/-- A loop over a list that ends at the first element of a kind. -/
theorem c_spec_l9All {o : OpD} (h : R (.ret (roN (opL o))) σ) : acall TP fn_spec_l9All [.rop (encOp o) 0] σ R := by
  refine s_spec_l9All_ok ?_
  unfold s_spec_l9All
  simp only [RR, RT]
  exact ret_here h
theorem len_opL (o : OpD) : (opL o).length = 4 := rfl
theorem idx_opL {o : OpD} {j : Nat} (hj : j < 4) : idx 1 (roN (opL o)) (iv (j : Int)) σ = some (.rop [iv ((opL o)[j]'hj)] 0) := idx_ro (enc := fun x => [iv x]) (es := opL o) hj fun _ => rfl
theorem c_spec_l9Op {o : OpD} (hn : o.name.size ≤ 1099511627776) (hd : sD o.data) (h : R (.ret (iv (opF o))) σ) : acall TP fn_spec_l9Op [.rop (encOp o) 0] σ R := by
  refine s_spec_l9Op_ok ?_
  unfold s_spec_l9Op
  simp only [RR, RT]
  refine c_spec_l1In ?_
  simp only [RR]
  unfold opF at h
  refine apick_cases (fun c1 => ?_) (fun c1 => ?_)
  · rw [if_pos (by unfold opF1; rw [c1]; simp)] at h
    exact ret_here h
  refine c_spec_l9All ?_
  simp only [RR, RT]
  refine c_spec_l9Nums ?_
  simp only [RR]
  have hk4 := numsN_le o.kind
  refine lp_by (fun k x σ' => ∃ j : Nat, x = (.rop (encOp o) 0, roN (opL o), iv (j : Int), ()) ∧ σ' = σ ∧ j + k = 4 ∧ numsN o.kind ≤ j ∧ (∀ (i : Nat) (hi : i < 4), numsN o.kind ≤ i → i < j → (opL o)[i]'hi = 0)) (4 - numsN o.kind)
    ⟨numsN o.kind, rfl, rfl, by omega, Nat.le_refl _, fun i hi h1 h2 => by omega⟩ ?_
  rintro k x σ' ⟨j, rfl, rfl, hk, hj, hz⟩ R' hR'
  by_cases c2 : (j : Int) < 4
  · have hj4 : j < 4 := by omega
    simp only [c2, idx_opL hj4, lod_one, RR]
    by_cases c3 : (opL o)[j]'hj4 = 0
    · simp only [c3, ibin_up (n := 4) hj4 (by omega), RR]
      exact hR' _ _ (k - 1) σ' (by omega) (.refl _) ⟨j + 1, rfl, rfl, by omega, by omega, fun i hi h1 h2 => by
        rcases Nat.lt_or_ge i j with h3 | h3
        · exact hz i hi h1 h3
        · obtain rfl : i = j := by omega
          exact c3⟩
    · simp only [c3, RR]
      have : opF1 o = true := by
        have : ((opL o).drop (numsN o.kind)).any (fun n => !decide (n = 0)) = true := by
          rw [List.any_eq_true]
          refine ⟨(opL o)[j]'hj4, ?_, by simpa using c3⟩
          rw [List.mem_iff_getElem]
          refine ⟨j - numsN o.kind, by simp [len_opL]; omega, ?_⟩
          rw [List.getElem_drop]
          congr 1
          omega
        unfold opF1
        rw [this]; simp
      rw [if_pos this] at h
      exact ret_here h
  · have hA : ((opL o).drop (numsN o.kind)).any (fun n => !decide (n = 0)) = false := by
      rw [List.any_eq_false]
      intro n hn
      obtain ⟨i, hi, rfl⟩ := List.getElem_of_mem hn
      have hi2 : i < 4 - numsN o.kind := by simpa [len_opL] using hi
      have e : ((opL o).drop (numsN o.kind))[i] = 0 := by
        rw [List.getElem_drop]
        exact hz (numsN o.kind + i) (by omega) (by omega) (by omega)
      rw [e]
      simp
    simp only [c2, RR]
    refine jn_of (fun x σ'' => σ'' = σ' ∧ x = (.rop (encOp o) 0, roN (opL o), bv (opF1 o), ())) ?_ ?_
    rotate_left
    · intro k hk
      simp only [RR, RT]
      refine c_spec_l9Named ?_
      have e1 : opF1 o = ((!decide (o.name = (⟨#[]⟩ : ByteArray)) && !namedB o.kind) || (decide ((0 : Int) < (o.data.length : Int)) && !dataB o.kind)) := by
        unfold opF1
        rw [c1, hA]; simp
      rw [e1] at hk
      cases c3 : namedB o.kind
      · rw [c3] at hk
        simp only [RR, RT, sbin_neq', Bool.and_true] at hk ⊢
        cases c4 : decide (o.name = (⟨#[]⟩ : ByteArray))
        · rw [c4] at hk
          simp only [RR, RT, Bool.true_or] at hk ⊢
          exact hk _ _ ⟨rfl, rfl⟩
        · rw [c4] at hk
          simp only [RR, RT, Bool.false_or] at hk ⊢
          refine c_spec_l9Const ?_
          simp only [RR, RT, RG]
          exact hk _ _ ⟨rfl, by rw [Bool.and_comm]; rfl⟩
      · rw [c3] at hk
        simp only [RR, RT, Bool.and_false, Bool.false_or] at hk ⊢
        refine c_spec_l9Const ?_
        simp only [RR, RT, RG]
        exact hk _ _ ⟨rfl, by rw [Bool.and_comm]; rfl⟩
    intro x s2 hx
    rw [hx.1, hx.2]
    clear hx
    refine apick_cases (fun c3 => ?_) (fun c3 => ?_)
    · rw [if_pos c3] at h
      exact ret_here h
    rw [if_neg (by rw [c3]; simp)] at h
    refine lp_by (fun k x σ'' => ∃ j : Nat, x = (.rop (encOp o) 0, roN (opL o), iv (j : Int), ()) ∧ σ'' = σ' ∧ j + k = 4 ∧ (∀ (i : Nat) (hi : i < 4), i < j → inB 0 999 ((opL o)[i]'hi) = true)) 4
      ⟨0, rfl, rfl, by omega, fun i hi h1 => by omega⟩ ?_
    rintro k x σ' ⟨j, rfl, rfl, hk, hz⟩ R' hR'
    by_cases c2 : (j : Int) < 4
    · have hj4 : j < 4 := by omega
      simp only [c2, idx_opL hj4, lod_one, RR]
      refine c_spec_l1In ?_
      cases c4 : inB 0 999 ((opL o)[j]'hj4)
      · simp only [RR]
        have : opF2 o = true := by
          have : (opL o).any (fun n => !inB 0 999 n) = true := by
            rw [List.any_eq_true]
            exact ⟨(opL o)[j]'hj4, List.getElem_mem _, by rw [c4]; rfl⟩
          unfold opF2
          rw [this]; rfl
        rw [if_pos this] at h
        exact ret_here h
      · simp only [ibin_up (n := 4) hj4 (by omega), RR]
        exact hR' _ _ (k - 1) σ' (by omega) (.refl _) ⟨j + 1, rfl, rfl, by omega, fun i hi h1 => by
          rcases Nat.lt_or_ge i j with h3 | h3
          · exact hz i hi h3
          · obtain rfl : i = j := by omega
            exact c4⟩
    · have hB : (opL o).any (fun n => !inB 0 999 n) = false := by
        rw [List.any_eq_false]
        intro n hn
        obtain ⟨i, hi, rfl⟩ := List.getElem_of_mem hn
        have hi2 : i < 4 := hi
        have e : inB 0 999 ((opL o)[i]'hi) = true := hz i hi2 (by omega)
        rw [e]
        simp
      simp only [c2, RR, RT, RG]
      refine apick_cases (fun c4 => ?_) (fun c4 => ?_)
      · rw [if_pos (show opF2 o = true by unfold opF2; rw [c4]; simp)] at h
        exact ret_here h
      rw [if_neg (show ¬ opF2 o = true by unfold opF2; rw [c4, hB]; simp)] at h
      refine jn_of (fun x σ'' => σ'' = σ' ∧ x = (.rop (encOp o) 0, bv (namedB o.kind && !symOk o.name), ())) ?_ ?_
      rotate_left
      · intro k hk
        refine c_spec_l9Named ?_
        cases c5 : namedB o.kind
        · rw [c5] at hk
          simp only [RR]
          exact hk _ _ ⟨rfl, rfl⟩
        · rw [c5] at hk
          simp only [RR, RT]
          refine c_spec_l2Sym hn ?_
          simp only [RR]
          exact hk _ _ ⟨rfl, rfl⟩
      rintro _ _ ⟨rfl, rfl⟩
      cases c5 : namedB o.kind
      · rw [c5] at h
        simp only [Bool.false_and, RR, RT]
        refine c_spec_l9Const ?_
        cases c6 : dataB o.kind
        · rw [c6] at h
          simp only [RR]
          exact ret_here h
        · rw [c6] at h
          simp only [RR, RT]
          refine c_spec_l3Fault hd ?_
          simp only [RR]
          exact ret_here h
      · rw [c5] at h
        cases c6 : symOk o.name
        · rw [c6] at h
          simp only [RR, Bool.true_and]
          exact ret_here h
        · rw [c6] at h
          simp only [RR, RT, Bool.true_and]
          refine c_spec_l9Const ?_
          have : dataB o.kind = false := by
            unfold namedB at c5
            unfold dataB
            rw [Bool.or_eq_true, Bool.or_eq_true, decide_eq_true_iff, decide_eq_true_iff, decide_eq_true_iff] at c5
            rw [Bool.or_eq_false_iff, decide_eq_false_iff_not, decide_eq_false_iff_not]
            omega
          simp only [this, RR]
          exact ret_here h
/-! ### blocks -/
def blkF (b : Blk) : Int := if inB 0 3 b.args = false then 3 else if 200 < b.ops.length then 2 else firstF (fun i => opF (b.ops.getD i default)) 0 b.ops.length
def opsF (bs : List Blk) : Int := if 60 < bs.length then 2 else firstF (fun i => blkF (bs.getD i default)) 0 bs.length
/-- What the names of an operation, its data and so on have to be: small. -/
def sO (o : OpD) : Prop := o.name.size ≤ 1099511627776 ∧ sD o.data
def sB (b : Blk) : Prop := ∀ o, o ∈ b.ops → sO o
def sC (bs : List Blk) : Prop := ∀ b, b ∈ bs → sB b
/-- A loop that ends at the first fault. -/
theorem lp_first {X : Type} {st : Nat → X} {f : Nat → Int} {n : Nat} {body : (X → AH → Prop) → X → AH → Prop}
    (hb : ∀ (j : Nat) (k : X → AH → Prop), j < n → (f j = 0 → k (st (j + 1)) σ) → (f j ≠ 0 → R (.ret (iv (f j))) σ) → body k (st j) σ) (he : ∀ k : X → AH → Prop, firstF f 0 n = 0 → body k (st n) σ)
    (h : R (.ret (iv (firstF f 0 n))) σ) : lp body (st 0) σ := by
  refine lp_same n st (fun i => ∀ j, j < i → f j = 0) rfl (fun j hj => by omega) ?_
  intro i hi hj R' hR'
  rcases Nat.lt_or_ge i n with hlt | hge
  · refine hb i R' hlt (fun h0 => hR' hlt (fun j h1 => ?_) σ (.refl _)) (fun h0 => by rw [firstF_at h0 n 0 (Nat.zero_le _) (by omega) (fun j _ h2 => hj j h2)] at h; exact h)
    rcases Nat.lt_or_ge j i with h2 | h2
    · exact hj j h2
    · obtain rfl : j = i := by omega
      exact h0
  · obtain rfl : i = n := by omega
    exact he R' (firstF_all _ _ fun j _ h2 => hj j (by omega))
theorem op_at {os : List OpD} {j : Nat} (h : j < os.length) : os[j] = os.getD j default := by simp [List.getD, h]
theorem blk_at {bs : List Blk} {j : Nat} (h : j < bs.length) : bs[j] = bs.getD j default := by simp [List.getD, h]
theorem c_impl_blockFault {b : Blk} (h : R (.ret (iv (blkF b))) σ) : acall TP fn_impl_blockFault [.agg (encBlk b)] σ R := by
  refine s_impl_blockFault_ok ?_
  unfold s_impl_blockFault
  refine box_encBlk ?_
  simp only [RR, RT]
  refine c_impl_in ?_
  unfold blkF at h
  cases c1 : inB 0 3 b.args
  · rw [c1] at h
    simp only [RR]
    exact ret_here h
  rw [if_neg (by rw [c1]; simp)] at h
  simp only [RR, RT, len_ro]
  refine apick_cases (fun c2 => ?_) (fun c2 => ?_)
  · rw [if_pos (by have := of_decide_eq_true c2; omega)] at h
    exact ret_here h
  have c2' : b.ops.length ≤ 200 := by have := of_decide_eq_false c2; omega
  rw [if_neg (by omega)] at h
  refine lp_first (n := b.ops.length) (st := fun i => (roO b.ops, iv (b.ops.length : Int), iv (i : Int), ())) (f := fun i => opF (b.ops.getD i default)) ?_ ?_ h
  · intro j k hj h0 h1
    have g : (j : Int) < (b.ops.length : Int) := by omega
    simp only [g, idx_ro hj len_encOp, RR, RT]
    refine new_encOp rfl ?_
    simp only [RR, RT]
    rw [op_at hj]
    refine c_impl_OpFault ?_
    simp only [RR]
    by_cases c3 : opF (b.ops.getD j default) = 0
    · simp only [c3, ibin_up hj (by omega), RR]
      exact h0 c3
    · simp only [c3, RR]
      exact ret_here (h1 c3)
  · intro k h0
    have g : ¬ (b.ops.length : Int) < (b.ops.length : Int) := by omega
    simp only [g, RR]
    rw [h0] at h
    exact ret_here h
theorem c_impl_opsFault {bs : List Blk} (h : R (.ret (iv (opsF bs))) σ) : acall TP fn_impl_opsFault [roBk bs] σ R := by
  refine s_impl_opsFault_ok ?_
  unfold s_impl_opsFault
  unfold opsF at h
  simp only [RR, RT, len_ro]
  refine apick_cases (fun c2 => ?_) (fun c2 => ?_)
  · rw [if_pos (by have := of_decide_eq_true c2; omega)] at h
    exact ret_here h
  have c2' : bs.length ≤ 60 := by have := of_decide_eq_false c2; omega
  rw [if_neg (by omega)] at h
  refine lp_first (n := bs.length) (st := fun i => (roBk bs, iv (bs.length : Int), iv (i : Int), ())) (f := fun i => blkF (bs.getD i default)) ?_ ?_ h
  · intro j k hj h0 h1
    have g : (j : Int) < (bs.length : Int) := by omega
    simp only [g, idx_ro hj len_encBlk, RR, RT]
    refine new_encBlk rfl ?_
    simp only [RR, RT]
    rw [blk_at hj]
    refine c_impl_blockFault ?_
    simp only [RR]
    by_cases c3 : blkF (bs.getD j default) = 0
    · simp only [c3, ibin_up hj (by omega), RR]
      exact h0 c3
    · simp only [c3, RR]
      exact ret_here (h1 c3)
  · intro k h0
    have g : ¬ (bs.length : Int) < (bs.length : Int) := by omega
    simp only [g, RR]
    rw [h0] at h
    exact ret_here h
theorem c_spec_l9Block {b : Blk} (hs : sB b) (h : R (.ret (iv (blkF b))) σ) : acall TP fn_spec_l9Block [.rop (encBlk b) 0] σ R := by
  refine s_spec_l9Block_ok ?_
  unfold s_spec_l9Block
  simp only [RR, RT]
  refine c_spec_l1In ?_
  unfold blkF at h
  cases c1 : inB 0 3 b.args
  · rw [c1] at h
    simp only [RR]
    exact ret_here h
  rw [if_neg (by rw [c1]; simp)] at h
  simp only [RR, RT, len_ro]
  refine apick_cases (fun c2 => ?_) (fun c2 => ?_)
  · rw [if_pos (by have := of_decide_eq_true c2; omega)] at h
    exact ret_here h
  have c2' : b.ops.length ≤ 200 := by have := of_decide_eq_false c2; omega
  rw [if_neg (by omega)] at h
  refine lp_first (n := b.ops.length) (st := fun i => (AV.rop (encBlk b) 0, iv (i : Int), ())) (f := fun i => opF (b.ops.getD i default)) ?_ ?_ h
  · intro j k hj h0 h1
    have g : (j : Int) < (b.ops.length : Int) := by omega
    simp only [RR, RT, len_ro, g, idx_ro hj len_encOp]
    rw [op_at hj]
    have hm := hs (b.ops.getD j default) (by rw [← op_at hj]; exact List.getElem_mem hj)
    refine c_spec_l9Op hm.1 hm.2 ?_
    simp only [RR]
    by_cases c3 : opF (b.ops.getD j default) = 0
    · simp only [c3, ibin_up hj (by omega), RR]
      exact h0 c3
    · simp only [c3, RR]
      exact ret_here (h1 c3)
  · intro k h0
    have g : ¬ (b.ops.length : Int) < (b.ops.length : Int) := by omega
    simp only [RR, RT, len_ro, g]
    rw [h0] at h
    exact ret_here h
theorem c_spec_l9Fault {bs : List Blk} (hs : sC bs) (h : R (.ret (iv (opsF bs))) σ) : acall TP fn_spec_l9Fault [roBk bs] σ R := by
  refine s_spec_l9Fault_ok ?_
  unfold s_spec_l9Fault
  unfold opsF at h
  simp only [RR, RT, len_ro]
  refine apick_cases (fun c2 => ?_) (fun c2 => ?_)
  · rw [if_pos (by have := of_decide_eq_true c2; omega)] at h
    exact ret_here h
  have c2' : bs.length ≤ 60 := by have := of_decide_eq_false c2; omega
  rw [if_neg (by omega)] at h
  refine lp_first (n := bs.length) (st := fun i => (roBk bs, iv (i : Int), ())) (f := fun i => blkF (bs.getD i default)) ?_ ?_ h
  · intro j k hj h0 h1
    have g : (j : Int) < (bs.length : Int) := by omega
    simp only [RR, RT, len_ro, g, idx_ro hj len_encBlk]
    rw [blk_at hj]
    refine c_spec_l9Block (hs _ (by rw [← blk_at hj]; exact List.getElem_mem hj)) ?_
    simp only [RR]
    by_cases c3 : blkF (bs.getD j default) = 0
    · simp only [c3, ibin_up hj (by omega), RR]
      exact h0 c3
    · simp only [c3, RR]
      exact ret_here (h1 c3)
  · intro k h0
    have g : ¬ (bs.length : Int) < (bs.length : Int) := by omega
    simp only [RR, RT, len_ro, g]
    rw [h0] at h
    exact ret_here h
end Go.Proofs.YtggnjjalfnhiiaaGreatDoor.E
/- The harness of the laws whose results are numbers. -/
set_option linter.unusedSectionVars false
set_option linter.unusedSimpArgs false
set_option linter.unusedVariables false
namespace Go.Proofs.YtggnjjalfnhiiaaGreatDoor.E
open Go Go.RowKit
variable [L : Lam]
variable {σ : AH} {R : AEnd → AH → Prop}
theorem lodA_all {cs : List AV} {n : Nat} (h : cs.length = n) : lodA n (.rop cs 0) σ = some (.agg cs) := by
  have := (At.rop σ cs).lodA (n := n) (by omega)
  rw [this, List.take_of_length_le (by omega)]
/-- A loop that copies a slice of structures. -/
theorem copy_ro {X : Type} {enc : X → List AV} {sz : Nat} {xs : List X} {f : FuncId} {z : List AV} {φ : Nat} (hl : ∀ x, (enc x).length = sz) (h1 : ∀ x y, y ∈ enc x → y.one = true) (hz : z.length = sz) (hn : xs.length ≤ 1048576)
    (hc : ∀ x, x ∈ xs → ∀ (σ : AH) (R : AEnd → AH → Prop), R (.ret (.agg (enc x))) σ → acall TP f [.agg (enc x)] σ R) (hφ : σ φ = none) (h : R (.ret (.ro (xs.map enc))) σ) :
    lp (X := Tup [0, 3, 4]) (fun R1 y1 σ =>
      og (lenS y1.1) fun v10 =>
      og (ibin .lss y1.2.2.1 v10) fun v11 =>
      apick v11 (
        og (idx sz y1.1 y1.2.2.1 σ) fun v18 =>
        og (lodA sz v18 σ) fun v19 =>
        acall TP f [v19] σ (onr (fun v20 σ =>
        og (idx sz y1.2.1 y1.2.2.1 σ) fun v21 =>
        sto sz v21 v20 σ fun σ =>
        og (ibin .add y1.2.2.1 (iv 1)) fun v13 =>
        R1 (y1.1, y1.2.1, v13, ()) σ) (fun v σ => apan v σ R))) (
        aret y1.2.1 σ R)) (.ro (xs.map enc), .own φ 0 0 xs.length, iv 0, ()) (σ.set φ ⟨0, sz, List.replicate xs.length z⟩) := by
  refine lp_for xs.length (fun i => (.ro (xs.map enc), .own φ 0 0 xs.length, iv (i : Int), ())) (fun i σ' => σ' = σ.set φ ⟨0, sz, (xs.map enc).take i ++ List.replicate (xs.length - i) z⟩) rfl (by simp) ?_
  intro i σ' hi e R' hR'
  subst e
  by_cases hlt : i < xs.length
  · have g : (i : Int) < (xs.length : Int) := by omega
    simp only [len_ro, g, idx_ro hlt hl, lodA_all (hl _), RR]
    refine hc _ (List.getElem_mem hlt) _ _ ?_
    have hF := AH.set_same σ φ (⟨0, sz, (xs.map enc).take i ++ List.replicate (xs.length - i) z⟩ : Fam)
    simp only [idx_own hF hlt, RR]
    refine sto_own hF (by rw [len_rep (by simp) hi]; exact hlt) ?_ rfl (hl _) (h1 _) ?_
    · rw [getD_rep (by simp) hlt]; exact hz
    simp only [ibin_up hlt (by omega), RR, AH.set_set]
    refine hR' hlt _ _ (.refl _) ?_
    have := take_rep_set (xs := xs.map enc) (z := z) (by simp) hlt
    simp only [List.getElem_map] at this
    rw [this]
  · have g : ¬ (i : Int) < (xs.length : Int) := by omega
    obtain rfl : i = xs.length := by omega
    simp only [len_ro, g, RR]
    have e : (xs.map enc).take xs.length ++ List.replicate (xs.length - xs.length) z = xs.map enc := by
      rw [Nat.sub_self, List.replicate_zero, List.append_nil, List.take_of_length_le (by simp)]
    rw [e]
    refine aret_freeze (σ0 := σ) (.set (.refl σ) _ hφ) (.own (AH.set_same ..) hφ rfl (by simp) (by simp) (fun j hj => ?_) (fun j k _ _ => by rw [Nat.zero_add]; exact .same _)) h
    simp [hj, hl]
/-! ### sizes -/
def bD (N : Nat) (ds : List Dat) : Prop := ds.length ≤ N ∧ ∀ d, d ∈ ds → d.name.size ≤ N
def bO (N : Nat) (os : List OpD) : Prop := os.length ≤ N ∧ ∀ o, o ∈ os → o.name.size ≤ N ∧ bD N o.data
def bC (N : Nat) (bs : List Blk) : Prop := bs.length ≤ N ∧ ∀ b, b ∈ bs → bO N b.ops
/-- A loop that counts what is left. -/
theorem count_ro {X : Type} {enc : X → List AV} {sz : Nat} {xs : List X} {f : FuncId} {l : Int} {Q : X → Prop} (hl : ∀ x, (enc x).length = sz) (hn : xs.length ≤ 9223372036854775807) (h0 : l ≤ 1048576)
    (hc : ∀ x, x ∈ xs → ∀ (σ : AH) (R : AEnd → AH → Prop) (l : Int), 0 ≤ l → l ≤ 1048576 → (∀ v : Int, -1 ≤ v → v ≤ l → (0 ≤ v → Q x) → R (.ret (iv v)) σ) → acall TP f [.agg (enc x), iv l] σ R)
    (h : ∀ v : Int, -1 ≤ v → v ≤ l → (0 ≤ v → ∀ x, x ∈ xs → Q x) → R (.ret (iv v)) σ) (hl0 : 0 ≤ l) :
    lp (X := Tup [0, 1, 5]) (fun R1 y1 σ =>
      og (lenS y1.1) fun v14 =>
      og (ibin .lss y1.2.2.1 v14) fun v15 =>
      apick v15 (
        og (idx sz y1.1 y1.2.2.1 σ) fun v20 =>
        og (lodA sz v20 σ) fun v21 =>
        acall TP f [v21, y1.2.1] σ (onr (fun v23 σ =>
        og (ibin .lss v23 (iv 0)) fun v25 =>
        apick v25 (
          aret (.val (.int .i64 (-1))) σ R) (
          og (ibin .add y1.2.2.1 (iv 1)) fun v17 =>
          R1 (y1.1, v23, v17, ()) σ)) (fun v σ => apan v σ R))) (
        aret y1.2.1 σ R)) (.ro (xs.map enc), iv l, iv 0, ()) σ := by
  refine lp_by (fun k x σ' => ∃ (i : Nat) (m : Int), x = (.ro (xs.map enc), iv m, iv (i : Int), ()) ∧ σ' = σ ∧ i + k = xs.length ∧ 0 ≤ m ∧ m ≤ l ∧ ∀ (j : Nat) (hj : j < xs.length), j < i → Q xs[j]) xs.length ⟨0, l, rfl, rfl, by omega, hl0, by omega, fun j hj h => by omega⟩ ?_
  rintro k x σ' ⟨i, m, rfl, rfl, hk, hm0, hm, hq⟩ R' hR'
  by_cases hlt : i < xs.length
  · have g : (i : Int) < (xs.length : Int) := by omega
    simp only [len_ro, g, idx_ro hlt hl, lodA_all (hl _), RR]
    refine hc _ (List.getElem_mem hlt) _ _ m hm0 (by omega) fun v h1 h2 h3 => ?_
    simp only [RR]
    by_cases c : v < 0
    · simp only [c, RR]
      exact ret_here (h (-1) (by omega) (by omega) (fun h => by omega))
    · simp only [c, ibin_up hlt (by omega), RR]
      refine hR' _ _ (k - 1) σ' (by omega) (.refl _) ⟨i + 1, v, rfl, rfl, by omega, by omega, by omega, fun j hj h4 => ?_⟩
      rcases Nat.lt_or_ge j i with h5 | h5
      · exact hq j hj h5
      · obtain rfl : j = i := by omega
        exact h3 (by omega)
  · have g : ¬ (i : Int) < (xs.length : Int) := by omega
    simp only [len_ro, g, RR]
    refine ret_here (h m (by omega) hm fun _ x hx => ?_)
    obtain ⟨j, hj, rfl⟩ := List.getElem_of_mem hx
    exact hq j hj (by omega)
/-- A loop that compares a list with itself. -/
theorem same_ro {X : Type} {enc : X → List AV} {sz : Nat} {xs : List X} {f : FuncId} (hl : ∀ x, (enc x).length = sz) (hn : xs.length ≤ 1048576)
    (hc : ∀ x, x ∈ xs → ∀ (σ : AH) (R : AEnd → AH → Prop), R (.ret (bv true)) σ → acall TP f [.agg (enc x), .agg (enc x)] σ R) (h : R (.ret (bv true)) σ) :
    lp (X := Tup [0, 1, 5]) (fun R1 y1 σ =>
      og (lenS y1.1) fun v13 =>
      og (ibin .lss y1.2.2.1 v13) fun v14 =>
      apick v14 (
        og (idx sz y1.1 y1.2.2.1 σ) fun v19 =>
        og (lodA sz v19 σ) fun v20 =>
        og (idx sz y1.2.1 y1.2.2.1 σ) fun v23 =>
        og (lodA sz v23 σ) fun v24 =>
        acall TP f [v20, v24] σ (onr (fun v25 σ =>
        (True) ∧
        og (aun .not v25) fun v26 =>
        apick v26 (
          aret (bv false) σ R) (
          og (ibin .add y1.2.2.1 (iv 1)) fun v16 =>
          R1 (y1.1, y1.2.1, v16, ()) σ)) (fun v σ => apan v σ R))) (
        aret (bv true) σ R)) (.ro (xs.map enc), .ro (xs.map enc), iv 0, ()) σ := by
  refine lp_same xs.length (fun i => (.ro (xs.map enc), .ro (xs.map enc), iv (i : Int), ())) (fun _ => True) rfl trivial ?_
  intro i hi _ R' hR'
  by_cases hlt : i < xs.length
  · have g : (i : Int) < (xs.length : Int) := by omega
    simp only [len_ro, g, idx_ro hlt hl, lodA_all (hl _), RR]
    refine hc _ (List.getElem_mem hlt) _ _ ?_
    simp only [ibin_up hlt (by omega), RR]
    exact ⟨trivial, hR' hlt trivial _ (.refl _)⟩
  · have g : ¬ (i : Int) < (xs.length : Int) := by omega
    simp only [len_ro, g, RR]
    exact ret_here h
/-! ### the counts -/
theorem c_laws_szDatum {d : Dat} {l : Int} (h0 : 0 ≤ l) (h1 : l ≤ 1048576) (hb : d.name.size ≤ 9223372036854775807) (h : ∀ v : Int, -1 ≤ v → v ≤ l → (0 ≤ v → d.name.size ≤ 1048576) → R (.ret (iv v)) σ) : acall TP fn_laws_szDatum [.agg (encDat d), iv l] σ R := by
  refine s_laws_szDatum_ok ?_
  unfold s_laws_szDatum
  refine box_encDat ?_
  have e : ibin .sub (iv l) (.val (.int .i64 d.name.size)) = some (iv (l - d.name.size)) := ibin_sub (by omega) (by omega)
  simp only [RR, RT, e]
  refine apick_cases (fun c => ?_) (fun c => ?_)
  · exact ret_here (h _ (by omega) (by omega) (fun h => by omega))
  · have := of_decide_eq_false c
    exact ret_here (h _ (by omega) (by omega) (fun h => by omega))
theorem c_laws_szDatumS {ds : List Dat} {l : Int} (h0 : 0 ≤ l) (h1 : l ≤ 1048576) (hb : bD 9223372036854775807 ds) (h : ∀ v : Int, -1 ≤ v → v ≤ l → (0 ≤ v → bD 1048576 ds) → R (.ret (iv v)) σ) : acall TP fn_laws_szDatumS [roD ds, iv l] σ R := by
  refine s_laws_szDatumS_ok ?_
  unfold s_laws_szDatumS
  have := hb.1
  have e : ibin .sub (iv l) (.val (.int .i64 ds.length)) = some (iv (l - ds.length)) := ibin_sub (by omega) (by omega)
  simp only [RR, len_ro, e]
  refine apick_cases (fun c => ?_) (fun c => ?_)
  · exact ret_here (h _ (by omega) (by omega) (fun h => by omega))
  have := of_decide_eq_false c
  exact count_ro (f := fn_laws_szDatum) (Q := fun x => x.name.size ≤ 1048576) len_encDat hb.1 (by omega) (fun x hx σ R l h0 h1 h => c_laws_szDatum h0 h1 (hb.2 x hx) h) (fun v h1 h2 h3 => h v h1 (by omega) fun h4 => ⟨by omega, h3 h4⟩) (by omega)
theorem c_laws_szOp {o : OpD} {l : Int} (h0 : 0 ≤ l) (h1 : l ≤ 1048576) (hb : o.name.size ≤ 9223372036854775807 ∧ bD 9223372036854775807 o.data) (h : ∀ v : Int, -1 ≤ v → v ≤ l → (0 ≤ v → o.name.size ≤ 1048576 ∧ bD 1048576 o.data) → R (.ret (iv v)) σ) : acall TP fn_laws_szOp [.agg (encOp o), iv l] σ R := by
  refine s_laws_szOp_ok ?_
  unfold s_laws_szOp
  refine box_encOp ?_
  have := hb.1
  have e : ibin .sub (iv l) (.val (.int .i64 o.name.size)) = some (iv (l - o.name.size)) := ibin_sub (by omega) (by omega)
  simp only [RR, RT, e]
  refine apick_cases (fun c => ?_) (fun c => ?_)
  · exact ret_here (h _ (by omega) (by omega) (fun h => by omega))
  have := of_decide_eq_false c
  refine c_laws_szDatumS (by omega) (by omega) hb.2 fun v h1 h2 h3 => ?_
  simp only [RR]
  refine apick_cases (fun c => ?_) (fun c => ?_)
  · exact ret_here (h _ (by omega) (by omega) (fun h => by omega))
  · exact ret_here (h _ (by omega) (by omega) (fun h4 => ⟨by omega, h3 h4⟩))
theorem c_laws_szOpS {os : List OpD} {l : Int} (h0 : 0 ≤ l) (h1 : l ≤ 1048576) (hb : bO 9223372036854775807 os) (h : ∀ v : Int, -1 ≤ v → v ≤ l → (0 ≤ v → bO 1048576 os) → R (.ret (iv v)) σ) : acall TP fn_laws_szOpS [roO os, iv l] σ R := by
  refine s_laws_szOpS_ok ?_
  unfold s_laws_szOpS
  have := hb.1
  have e : ibin .sub (iv l) (.val (.int .i64 os.length)) = some (iv (l - os.length)) := ibin_sub (by omega) (by omega)
  simp only [RR, len_ro, e]
  refine apick_cases (fun c => ?_) (fun c => ?_)
  · exact ret_here (h _ (by omega) (by omega) (fun h => by omega))
  have := of_decide_eq_false c
  exact count_ro (f := fn_laws_szOp) (Q := fun x => x.name.size ≤ 1048576 ∧ bD 1048576 x.data) len_encOp hb.1 (by omega) (fun x hx σ R l h0 h1 h => c_laws_szOp h0 h1 (hb.2 x hx) h) (fun v h1 h2 h3 => h v h1 (by omega) fun h4 => ⟨by omega, h3 h4⟩) (by omega)
theorem c_laws_szBlock {b : Blk} {l : Int} (h0 : 0 ≤ l) (h1 : l ≤ 1048576) (hb : bO 9223372036854775807 b.ops) (h : ∀ v : Int, -1 ≤ v → v ≤ l → (0 ≤ v → bO 1048576 b.ops) → R (.ret (iv v)) σ) : acall TP fn_laws_szBlock [.agg (encBlk b), iv l] σ R := by
  refine s_laws_szBlock_ok ?_
  unfold s_laws_szBlock
  refine box_encBlk ?_
  simp only [RR, RT]
  refine c_laws_szOpS h0 h1 hb fun v h1 h2 h3 => ?_
  simp only [RR]
  refine apick_cases (fun c => ?_) (fun c => ?_)
  · exact ret_here (h _ (by omega) (by omega) (fun h => by omega))
  · exact ret_here (h _ (by omega) (by omega) h3)
theorem c_laws_szBlockS {bs : List Blk} {l : Int} (h0 : 0 ≤ l) (h1 : l ≤ 1048576) (hb : bC 9223372036854775807 bs) (h : ∀ v : Int, -1 ≤ v → v ≤ l → (0 ≤ v → bC 1048576 bs) → R (.ret (iv v)) σ) : acall TP fn_laws_szBlockS [roBk bs, iv l] σ R := by
  refine s_laws_szBlockS_ok ?_
  unfold s_laws_szBlockS
  have := hb.1
  have e : ibin .sub (iv l) (.val (.int .i64 bs.length)) = some (iv (l - bs.length)) := ibin_sub (by omega) (by omega)
  simp only [RR, len_ro, e]
  refine apick_cases (fun c => ?_) (fun c => ?_)
  · exact ret_here (h _ (by omega) (by omega) (fun h => by omega))
  have := of_decide_eq_false c
  exact count_ro (f := fn_laws_szBlock) (Q := fun x => bO 1048576 x.ops) len_encBlk hb.1 (by omega) (fun x hx σ R l h0 h1 h => c_laws_szBlock h0 h1 (hb.2 x hx) h) (fun v h1 h2 h3 => h v h1 (by omega) fun h4 => ⟨by omega, h3 h4⟩) (by omega)
/-! ### copies -/
theorem acells_one {v : AV} (h : v.one = true) : acells v = some [v] := by
  cases v <;> first | rfl | (cases h) | (rename_i u; cases u <;> first | rfl | cases h)
theorem sto_cell {φ n off : Nat} {zs : List AV} {v : AV} {k : AH → Prop} (ho : off < n) (h1 : v.one = true) (h : k (σ.set φ ⟨0, n, [zs.set off v]⟩)) : sto 1 (.ptr φ 0 0 off) v (σ.set φ ⟨0, n, [zs]⟩) k := by
  refine sto_fld (es := [zs]) (cs := zs) (AH.set_same ..) rfl ho (acells_one h1) h1 ?_
  simp only [List.set_cons_zero, AH.set_set]
  exact h
/-- The frame of a function that copies a structure: its box, its result, the copy. -/
theorem conv_frame {x : AV} {xs z1 z2 : List AV} {k : AV → AV → AV → AH → Prop} (hx : acells x = some xs)
    (h : ∀ φ2 φ3 : Nat, φ2 ≠ φ3 → σ φ2 = none → σ φ3 = none → k (.rop xs 0) (.ptr φ2 0 0 0) (.ptr φ3 0 0 0) ((σ.set φ2 ⟨0, z1.length, [z1]⟩).set φ3 ⟨0, z2.length, [z2]⟩)) :
    abox x σ fun v1 σ => new z1 σ fun v2 σ => frz v1 σ fun f1 σ => new z2 σ fun v3 σ => k f1 v2 v3 σ := by
  unfold abox; rw [hx]
  intro φ1 h1
  intro φ2 h2
  rw [AH.set_none] at h2
  rw [AH.set_comm _ _ _ (Ne.symm h2.1)]
  refine frz_cell (AH.set_none.2 ⟨Ne.symm h2.1, h1⟩) rfl ?_
  intro φ3 h3
  rw [AH.set_none] at h3
  exact h φ2 φ3 (Ne.symm h3.1) h2.2 h3.2
/-- Its end. -/
theorem conv_end {φ2 φ3 n : Nat} {z cs : List AV} (hne : φ2 ≠ φ3) (h2 : σ φ2 = none) (h3 : σ φ3 = none) (hz : z.length = n) (hc : cs.length = n) (h1 : ∀ x, x ∈ cs → x.one = true) (h : R (.ret (.agg cs)) σ) :
    frz (.ptr φ3 0 0 0) ((σ.set φ2 ⟨0, n, [z]⟩).set φ3 ⟨0, n, [cs]⟩) fun f3 σ => og (lodA n f3 σ) fun v16 => sto n (.ptr φ2 0 0 0) v16 σ fun σ => og (lodA n (.ptr φ2 0 0 0) σ) fun r2 => aret r2 σ R := by
  refine frz_cell (AH.set_none.2 ⟨Ne.symm hne, h3⟩) hc ?_
  simp only [lodA_all hc, RR]
  exact fin_cell h2 hz hc h1 h
theorem c_laws_toDatum {d : Dat} (h : R (.ret (.agg (encDat d))) σ) : acall TP fn_laws_toDatum [.agg (encDat d)] σ R := by
  refine s_laws_toDatum_ok ?_
  unfold s_laws_toDatum
  refine conv_frame rfl fun φ2 φ3 hne h2 h3 => ?_
  simp only [RR, RT]
  refine sto_cell (by decide) rfl ?_
  refine sto_cell (by decide) rfl ?_
  refine sto_cell (by decide) rfl ?_
  refine sto_cell (by decide) rfl ?_
  exact conv_end hne h2 h3 rfl (len_encDat d) (one_encDat d) h
set_option maxRecDepth 100000 in
theorem c_laws_toDatumS {ds : List Dat} (hb : ds.length ≤ 1048576) (h : R (.ret (roD ds)) σ) : acall TP fn_laws_toDatumS [roD ds] σ R := by
  refine s_laws_toDatumS_ok ?_
  unfold s_laws_toDatumS
  simp only [RR, len_ro]
  refine mk_LRiiisE (by omega) (by omega) (by omega) fun φ hφ => ?_
  simp only [Int.toNat_natCast]
  exact copy_ro (f := fn_laws_toDatum) (z := [iv 0, iv 0, iv 0, str ⟨#[]⟩]) len_encDat one_encDat rfl hb (fun x hx σ R h => c_laws_toDatum h) hφ h
theorem c_laws_toOp {o : OpD} (hb : o.data.length ≤ 1048576) (h : R (.ret (.agg (encOp o))) σ) : acall TP fn_laws_toOp [.agg (encOp o)] σ R := by
  refine s_laws_toOp_ok ?_
  unfold s_laws_toOp
  refine conv_frame rfl fun φ2 φ3 hne h2 h3 => ?_
  simp only [RR, RT]
  refine sto_cell (by decide) rfl ?_
  refine sto_cell (by decide) rfl ?_
  refine sto_cell (by decide) rfl ?_
  refine sto_cell (by decide) rfl ?_
  refine sto_cell (by decide) rfl ?_
  refine sto_cell (by decide) rfl ?_
  refine c_laws_toDatumS hb ?_
  simp only [RR]
  refine sto_cell (by decide) rfl ?_
  exact conv_end hne h2 h3 rfl (len_encOp o) (one_encOp o) h
set_option maxRecDepth 100000 in
theorem c_laws_toOpS {os : List OpD} (hb : bO 1048576 os) (h : R (.ret (roO os)) σ) : acall TP fn_laws_toOpS [roO os] σ R := by
  have hl := hb.1
  refine s_laws_toOpS_ok ?_
  unfold s_laws_toOpS
  simp only [RR, len_ro]
  refine mk_LRiiiiisLRiiisEE (by omega) (by omega) (by omega) fun φ hφ => ?_
  simp only [Int.toNat_natCast]
  exact copy_ro (f := fn_laws_toOp) (z := [iv 0, iv 0, iv 0, iv 0, iv 0, str ⟨#[]⟩, nilS]) len_encOp one_encOp rfl hl (fun x hx σ R h => c_laws_toOp (hb.2 x hx).2.1 h) hφ h
theorem c_laws_toBlock {b : Blk} (hb : bO 1048576 b.ops) (h : R (.ret (.agg (encBlk b))) σ) : acall TP fn_laws_toBlock [.agg (encBlk b)] σ R := by
  refine s_laws_toBlock_ok ?_
  unfold s_laws_toBlock
  refine conv_frame rfl fun φ2 φ3 hne h2 h3 => ?_
  simp only [RR, RT]
  refine sto_cell (by decide) rfl ?_
  refine c_laws_toOpS hb ?_
  simp only [RR]
  refine sto_cell (by decide) rfl ?_
  exact conv_end hne h2 h3 rfl (len_encBlk b) (one_encBlk b) h
set_option maxRecDepth 100000 in
theorem c_laws_toBlockS {bs : List Blk} (hb : bC 1048576 bs) (h : R (.ret (roBk bs)) σ) : acall TP fn_laws_toBlockS [roBk bs] σ R := by
  have hl := hb.1
  refine s_laws_toBlockS_ok ?_
  unfold s_laws_toBlockS
  simp only [RR, len_ro]
  refine mk_LRiLRiiiiisLRiiisEEE (by omega) (by omega) (by omega) fun φ hφ => ?_
  simp only [Int.toNat_natCast]
  exact copy_ro (f := fn_laws_toBlock) (z := [iv 0, nilS]) len_encBlk one_encBlk rfl hl (fun x hx σ R h => c_laws_toBlock (hb.2 x hx) h) hφ h
/-! ### comparisons of what is the same -/
theorem dec_self {α : Type} [DecidableEq α] (a : α) : (!decide (a = a)) = false := by simp
theorem box2_frz {x y : AV} {xs ys : List AV} {k : AV → AV → AH → Prop} (hx : acells x = some xs) (hy : acells y = some ys) (h : k (.rop xs 0) (.rop ys 0) σ) :
    abox x σ fun v2 σ => abox y σ fun v3 σ => frz v2 σ fun f2 σ => frz v3 σ fun f3 σ => k f2 f3 σ := by
  unfold abox; rw [hx, hy]
  intro φ1 h1 φ2 h2
  rw [AH.set_none] at h2
  rw [AH.set_comm _ _ _ (Ne.symm h2.1)]
  refine frz_cell (AH.set_none.2 ⟨Ne.symm h2.1, h1⟩) rfl ?_
  exact frz_cell h2.2 rfl h
theorem c_laws_eqDatum {d : Dat} (h : R (.ret (bv true)) σ) : acall TP fn_laws_eqDatum [.agg (encDat d), .agg (encDat d)] σ R := by
  refine s_laws_eqDatum_ok ?_
  unfold s_laws_eqDatum
  refine box2_frz rfl rfl ?_
  simp only [RR, RT, dec_self, sbin_neq']
  exact ret_here h
theorem c_laws_eqDatumS {ds : List Dat} (hb : ds.length ≤ 1048576) (h : R (.ret (bv true)) σ) : acall TP fn_laws_eqDatumS [roD ds, roD ds] σ R := by
  refine s_laws_eqDatumS_ok ?_
  unfold s_laws_eqDatumS
  simp only [RR, len_ro, dec_self]
  exact same_ro (f := fn_laws_eqDatum) len_encDat hb (fun x hx σ R h => c_laws_eqDatum h) h
theorem c_laws_eqOp {o : OpD} (hb : o.data.length ≤ 1048576) (h : R (.ret (bv true)) σ) : acall TP fn_laws_eqOp [.agg (encOp o), .agg (encOp o)] σ R := by
  refine s_laws_eqOp_ok ?_
  unfold s_laws_eqOp
  refine box2_frz rfl rfl ?_
  simp only [RR, RT, dec_self, sbin_neq']
  refine c_laws_eqDatumS hb ?_
  simp only [RR]
  exact ret_here h
theorem c_laws_eqOpS {os : List OpD} (hb : bO 1048576 os) (h : R (.ret (bv true)) σ) : acall TP fn_laws_eqOpS [roO os, roO os] σ R := by
  refine s_laws_eqOpS_ok ?_
  unfold s_laws_eqOpS
  simp only [RR, len_ro, dec_self]
  exact same_ro (f := fn_laws_eqOp) len_encOp hb.1 (fun x hx σ R h => c_laws_eqOp (hb.2 x hx).2.1 h) h
theorem c_laws_eqBlock {b : Blk} (hb : bO 1048576 b.ops) (h : R (.ret (bv true)) σ) : acall TP fn_laws_eqBlock [.agg (encBlk b), .agg (encBlk b)] σ R := by
  refine s_laws_eqBlock_ok ?_
  unfold s_laws_eqBlock
  refine box2_frz rfl rfl ?_
  simp only [RR, RT, dec_self]
  refine c_laws_eqOpS hb ?_
  simp only [RR]
  exact ret_here h
theorem c_laws_eqBlockS {bs : List Blk} (hb : bC 1048576 bs) (h : R (.ret (bv true)) σ) : acall TP fn_laws_eqBlockS [roBk bs, roBk bs] σ R := by
  refine s_laws_eqBlockS_ok ?_
  unfold s_laws_eqBlockS
  simp only [RR, len_ro, dec_self]
  exact same_ro (f := fn_laws_eqBlock) len_encBlk hb.1 (fun x hx σ R h => c_laws_eqBlock (hb.2 x hx) h) h
theorem bC_sC {bs : List Blk} (h : bC 1048576 bs) : sC bs := fun b hb o ho => ⟨by have := ((h.2 b hb).2 o ho).1; omega, fun d hd => by have := ((h.2 b hb).2 o ho).2.2 d hd; omega⟩
end Go.Proofs.YtggnjjalfnhiiaaGreatDoor.E
/- Operations: what they take and put, where they lead; heights. -/
set_option linter.unusedSectionVars false
set_option linter.unusedSimpArgs false
set_option linter.unusedVariables false
namespace Go.Proofs.YtggnjjalfnhiiaaGreatDoor.E
open Go Go.RowKit
variable [L : Lam]
variable {σ : AH} {R : AEnd → AH → Prop}
def takesN (o : OpD) : Int := if o.kind = 6 ∨ o.kind = 7 ∨ o.kind = 8 ∨ o.kind = 9 then 1 else if o.kind = 10 then o.a + 1 else 0
def putsN (o : OpD) : Int := if o.kind = 1 ∨ o.kind = 2 ∨ o.kind = 3 ∨ o.kind = 4 ∨ o.kind = 8 ∨ o.kind = 9 ∨ o.kind = 10 then 1 else if o.kind = 15 then 2 else 0
def goesB (k : Int) : Bool := !(decide (k = 5) || decide (k = 11) || inB 12 14 k)
def tgtN (o : OpD) : Int := if o.kind = 5 ∨ o.kind = 6 then o.a else if o.kind = 16 then o.c else -1
def highB (o : OpD) (h : Int) : Bool := if o.kind = 12 then decide (h = 1) else if o.kind = 11 then decide (h = o.a + 1) else if o.kind = 13 ∨ o.kind = 14 then decide (h = 0) else decide (takesN o ≤ h)
/-! ### the reference's -/
end Go.Proofs.YtggnjjalfnhiiaaGreatDoor.E
/- Heights of a block: the plain law. -/
set_option linter.unusedSectionVars false
set_option linter.unusedSimpArgs false
set_option linter.unusedVariables false
namespace Go.Proofs.YtggnjjalfnhiiaaGreatDoor.E
open Go Go.RowKit
variable [L : Lam]
def opA (os : List OpD) (i : Nat) : OpD := os.getD i default
def leads (o : OpD) (i : Nat) : List Int := (if goesB o.kind then [(i : Int) + 1] else []) ++ (if 0 ≤ tgtN o then [tgtN o] else [])
def nextH (o : OpD) (h : Int) : Int := h - takesN o + putsN o
inductive Reach (os : List OpD) : Nat → Int → Prop
  | start : Reach os 0 0
  | step {i : Nat} {h t : Int} (hr : Reach os i h) (hi : i < os.length) (hh : highB (opA os i) h = true) (ht : t ∈ leads (opA os i) i) : Reach os t.toNat (nextH (opA os i) h)
def atH (out : List Int) (i : Nat) : Int := out.getD i (-1)
/-- Heights as they have to be. -/
structure HOk (os : List OpD) (out : List Int) : Prop where
  len : out.length = os.length
  pos : 0 < os.length
  tgt : ∀ o, o ∈ os → tgtN o < os.length
  sound : ∀ i v, Reach os i v → i < os.length ∧ atH out i = v ∧ highB (opA os i) v = true
  own : ∀ i, i < os.length → atH out i = -1 ∨ (0 ≤ atH out i ∧ Reach os i (atH out i))
  bnd : ∀ i, i < os.length → atH out i ≤ 1000000
open Classical in
noncomputable def hts (os : List OpD) : Option (List Int) := if h : ∃ out, HOk os out then some h.choose else none
end Go.Proofs.YtggnjjalfnhiiaaGreatDoor.E
/- Marks: what a law writes into arguments that were lent. -/
set_option linter.unusedSectionVars false
set_option linter.unusedSimpArgs false
set_option linter.unusedVariables false
namespace Go.Proofs.YtggnjjalfnhiiaaGreatDoor.E
open Go Go.RowKit
variable [L : Lam]
variable {σ τ : AH} {R : AEnd → AH → Prop}
theorem aconv_bytes {T : Tab} {s d : TypeId} {x : AV} {es : List (List AV)} {bs : List UInt8} {k : AV → AH → Prop} (hb : bytesT T s d = true) (hx : aelems σ x = some es) (ha : abytes es = some bs) (hn : ∀ u, x ≠ .val (.string u)) (hi : ∀ kd n, x ≠ .val (.int kd n))
    (h : k (.val (.string ⟨bs.toArray⟩)) σ) : aconv T s d x σ k := by
  unfold bytesT at hb
  split at hb
  case h_2 => cases hb
  rename_i ts td h1 h2
  split at hb
  case h_2 => cases hb
  rename_i e h3 h4
  split at hb
  case h_2 => cases hb
  rename_i te h5
  split at hb
  case h_2 => cases hb
  rename_i h6
  unfold aconv
  simp only [h1, h2, h3, h4, h5, h6, hx, ha]
  exact ⟨Nat.eq_of_beq_eq_true hb, hn, h⟩
theorem sbin_add (a b : ByteArray) (h : a.size + b.size ≤ 4611686018427387904) : sbin .add (.val (.string a)) (.val (.string b)) = some (.val (.string (a ++ b))) := by
  show Option.map AV.val (if a.size + b.size ≤ 4611686018427387904 then some (.string (a ++ b)) else none) = _
  rw [if_pos h]
  rfl
theorem size_one (x : UInt8) : (⟨[x].toArray⟩ : ByteArray).size = 1 := rfl
theorem bytes_Lb : bytesT TT ty_Lb ty_s = true := by kernel_rfl
/-! ### what may be marked -/
end Go.Proofs.YtggnjjalfnhiiaaGreatDoor.E
/- Numbers as texts, by the reference; draws. -/
set_option linter.unusedSectionVars false
set_option linter.unusedSimpArgs false
set_option linter.unusedVariables false
namespace Go.Proofs.YtggnjjalfnhiiaaGreatDoor.E
open Go Go.RowKit
set_option maxRecDepth 100000
variable [L : Lam]

/-! ### lists of bytes -/
def itB (n : Int) : ByteArray := ⟨(Lib.itoa n).toArray⟩
theorem bs_append (a b : List UInt8) : bs a ++ bs b = bs (a ++ b) := by
  apply ByteArray.ext
  simp [ByteArray.data_append]
def isDg (c : UInt8) : Bool := decide (48 ≤ c.toNat) && decide (c.toNat ≤ 57)
theorem isDg_iff {c : UInt8} : isDg c = true ↔ 48 ≤ c.toNat ∧ c.toNat ≤ 57 := by unfold isDg; rw [Bool.and_eq_true, decide_eq_true_iff, decide_eq_true_iff]
def val (acc : Nat) (l : List UInt8) : Nat := l.foldl (fun a c => a * 10 + (c.toNat - 48)) acc
theorem dg_toNat {d : Nat} (h : d < 10) : (UInt8.ofNat (48 + d)).toNat = 48 + d := by
  rw [UInt8.toNat_ofNat']; omega
theorem dg_is {d : Nat} (h : d < 10) : isDg (UInt8.ofNat (48 + d)) = true := by
  rw [isDg_iff, dg_toNat h]; omega
theorem decDigits_ten {u : Nat} (h : ¬ u < 10) : Lib.decDigits u = Lib.decDigits (u / 10) ++ [UInt8.ofNat (48 + u % 10)] := by rw [Lib.decDigits, dif_neg h]
theorem decDigits_dg : ∀ (u : Nat), ∀ c, c ∈ Lib.decDigits u → isDg c = true := by
  intro u
  induction u using Nat.strongRecOn with
  | _ u ih =>
    intro c hc
    by_cases h : u < 10
    · rw [Lib.decDigits_one h] at hc
      rw [List.mem_singleton.1 hc]
      exact dg_is h
    · rw [decDigits_ten h] at hc
      rcases List.mem_append.1 hc with hc | hc
      · exact ih _ (by omega) c hc
      · rw [List.mem_singleton.1 hc]
        exact dg_is (by omega)
theorem decDigits_len : ∀ (k u : Nat), u < 10 ^ (k + 1) → 1 ≤ (Lib.decDigits u).length ∧ (Lib.decDigits u).length ≤ k + 1 := by
  intro k
  induction k with
  | zero =>
    intro u h
    rw [Lib.decDigits_one (by simpa using h)]
    simp
  | succ k ih =>
    intro u h
    by_cases c : u < 10
    · rw [Lib.decDigits_one c]
      simp
    · rw [decDigits_ten c]
      have := ih (u / 10) (by rw [Nat.pow_succ] at h; omega)
      simp only [List.length_append, List.length_cons, List.length_nil]
      omega
/-! ### what a text says -/
def sgnB (l : List UInt8) : Bool := match l with | c :: _ => decide (c.toNat = 45) | [] => false
def dgsB (l : List UInt8) : List UInt8 := if sgnB l then l.tail else l
def parOk (l : List UInt8) : Bool := decide (1 ≤ (dgsB l).length) && decide ((dgsB l).length ≤ 10) && (dgsB l).all isDg
variable {σ τ : AH} {R : AEnd → AH → Prop}
theorem wrap8 {x : Int} (h0 : 0 ≤ x) (h1 : x ≤ 255) : IntKind.u8.wrap x = x := by
  have e : x % (2 ^ IntKind.u8.bits : Int) = x := Int.emod_eq_of_lt h0 (by simp [IntKind.bits]; omega)
  unfold IntKind.wrap
  simp [e, IntKind.signed]
theorem c_l1Digits_one {n : Nat} (hn : n < 10) (h : R (.ret (str (bs (Lib.decDigits n)))) σ) : acall TP fn_spec_l1Digits [iv (n : Int)] σ R := by
  refine s_spec_l1Digits_ok ?_
  unfold s_spec_l1Digits
  have g1 : ¬ (n : Int) < 0 := by omega
  have g2 : (n : Int) < 10 := by omega
  have e2 : ibin .add (.val (.int .i64 48)) (iv (n : Int)) = some (iv (48 + (n : Int))) := ibin_add (by omega) (by omega)
  have e3 : convI .u8 (iv (48 + (n : Int))) = some (.val (.int .u8 (48 + (n : Int)))) := by
    show some (AV.val (.int .u8 (IntKind.u8.wrap (48 + (n : Int))))) = _
    rw [wrap8 (by omega) (by omega)]
  simp only [g1, g2, e2, e3, RR]
  refine ⟨by decide, ?_⟩
  rw [if_neg (by decide)]
  intro ψ hψ
  have ha : ∀ w : Int, aelems (σ.set ψ ⟨0, 1, [[.val (.int .u8 w)]]⟩) (.own ψ 0 0 1) = some [[.val (.int .u8 w)]] := fun w => by simp [aelems]
  have hb : ∀ w : Int, abytes [[.val (.int .u8 w)]] = some [UInt8.ofNat w.toNat] := fun w => rfl
  refine aconv_bytes bytes_Lb (ha _) (hb _) (by intro u h; cases h) (by intro kd n h; cases h) ?_
  have e : (⟨[UInt8.ofNat (48 + (n : Int)).toNat].toArray⟩ : ByteArray) = bs (Lib.decDigits n) := by
    rw [Lib.decDigits_one hn, show (48 + (n : Int)).toNat = 48 + n by omega]
  rw [e]
  exact aret_sub (.set (.refl σ) _ hψ) h

theorem c_spec_l1Digits_nat : ∀ (n : Nat), n ≤ 10000000000 → ∀ {σ : AH} {R : AEnd → AH → Prop}, R (.ret (str (bs (Lib.decDigits n)))) σ → acall TP fn_spec_l1Digits [iv (n : Int)] σ R := by
  intro n
  induction n using Nat.strongRecOn with
  | _ n ih =>
    intro hn σ R h
    by_cases c : n < 10
    · refine c_l1Digits_one c ?_
      exact h
    refine s_spec_l1Digits_ok ?_
    unfold s_spec_l1Digits
    have g1 : ¬ (n : Int) < 0 := by omega
    have g2 : ¬ (n : Int) < 10 := by omega
    have e0 : ibin .quo (iv (n : Int)) (.val (.int .i64 10)) = some (iv ((n / 10 : Nat) : Int)) := by
      show some (iv (IntKind.i64.wrap ((n : Int).tdiv 10))) = _
      rw [Int.tdiv_eq_ediv_of_nonneg (by omega), i64_wrap (by omega) (by omega)]
      rfl
    have e1 : ibin .rem (iv (n : Int)) (.val (.int .i64 10)) = some (iv ((n % 10 : Nat) : Int)) := by
      show some (iv ((n : Int).tmod 10)) = _
      rw [Int.tmod_eq_emod_of_nonneg (by omega)]
      rfl
    have e2 : ibin .add (.val (.int .i64 48)) (iv ((n % 10 : Nat) : Int)) = some (iv (48 + ((n % 10 : Nat) : Int))) := ibin_add (by omega) (by omega)
    have e3 : convI .u8 (iv (48 + ((n % 10 : Nat) : Int))) = some (.val (.int .u8 (48 + ((n % 10 : Nat) : Int)))) := by
      show some (AV.val (.int .u8 (IntKind.u8.wrap _))) = _
      rw [wrap8 (by omega) (by omega)]
    have e4 : ∀ w : Int, bslR 1 [.val (.int .u8 0)] 1 [(0, .val (.int .u8 w))] = some (.ro [[.val (.int .u8 w)]]) := fun w => by
      show (if 1 * 1 ≤ 2 ^ 24 ∧ (∀ c, c ∈ [[AV.val (.int .u8 w)]] → c.length = 1) then some (if 1 = 0 then AV.emp else .ro [[.val (.int .u8 w)]]) else none) = _
      rw [if_pos ⟨by decide, by simp⟩]
      rfl
    have e5 : ∀ w : Int, b2s (.ro [[.val (.int .u8 w)]]) = some (str ⟨[UInt8.ofNat w.toNat].toArray⟩) := fun w => rfl
    simp only [g1, g2, e0, e1, e2, e3, e4, e5, RR]
    refine ih (n / 10) (by omega) (by omega) ?_
    have hl := decDigits_len 10 (n / 10) (by omega)
    have e6 := sbin_add (bs (Lib.decDigits (n / 10))) ⟨[UInt8.ofNat (48 + ((n % 10 : Nat) : Int)).toNat].toArray⟩ (by rw [size_bs, size_one]; omega)
    have e7 : bs (Lib.decDigits (n / 10)) ++ ⟨[UInt8.ofNat (48 + ((n % 10 : Nat) : Int)).toNat].toArray⟩ = bs (Lib.decDigits n) := by
      rw [decDigits_ten c, ← bs_append, show (48 + ((n % 10 : Nat) : Int)).toNat = 48 + n % 10 by omega]
    rw [e7] at e6
    refine ⟨trivial, ?_⟩
    simp only [e6, RR]
    exact ret_here h
theorem aun_neg {v : Int} (h0 : -9223372036854775808 ≤ -v) (h1 : -v ≤ 9223372036854775807) : aun .neg (iv v) = some (iv (-v)) := by
  show some (iv (IntKind.i64.wrap (0 - v))) = _
  rw [Int.zero_sub, i64_wrap h0 h1]
theorem c_spec_l1Digits_int {v : Int} (h0 : -1000000000 ≤ v) (h1 : v ≤ 1000000000) (h : R (.ret (str (itB v))) σ) : acall TP fn_spec_l1Digits [iv v] σ R := by
  unfold itB Lib.itoa at h
  by_cases c : v < 0
  · rw [if_pos c] at h
    refine s_spec_l1Digits_ok ?_
    unfold s_spec_l1Digits
    have e1 : -v = ((v.natAbs : Nat) : Int) := by omega
    simp only [c, aun_neg (show -9223372036854775808 ≤ -v by omega) (show -v ≤ 9223372036854775807 by omega), RR]
    rw [e1]
    refine c_spec_l1Digits_nat _ (by omega) ?_
    have hl := decDigits_len 10 v.natAbs (by omega)
    have e6 := sbin_add ⟨#[45]⟩ (bs (Lib.decDigits v.natAbs)) (by rw [size_bs (Lib.decDigits v.natAbs)]; show 1 + (Lib.decDigits v.natAbs).length ≤ 4611686018427387904; omega)
    have e7 : (⟨#[45]⟩ : ByteArray) ++ bs (Lib.decDigits v.natAbs) = bs (45 :: Lib.decDigits v.natAbs) := bs_append [45] _
    rw [e7] at e6
    simp only [e6, RR]
    exact ret_here h
  · rw [if_neg c] at h
    have e1 : v = ((v.toNat : Nat) : Int) := by omega
    rw [e1]
    exact c_spec_l1Digits_nat _ (by omega) h
theorem jn_by {X : Type} {B : X → AH → Prop} {E : (X → AH → Prop) → Prop} (P : X → AH → Prop) (hB : ∀ x σ, P x σ → B x σ) (hE : ∀ k : X → AH → Prop, (∀ x σ, P x σ → k x σ) → E k) : jn B E := hE B hB
end Go.Proofs.YtggnjjalfnhiiaaGreatDoor.E
/- Numbers read from words by the program: the plain law. -/
set_option linter.unusedSectionVars false
set_option linter.unusedSimpArgs false
set_option linter.unusedVariables false
namespace Go.Proofs.YtggnjjalfnhiiaaGreatDoor.E
open Go Go.RowKit
variable [L : Lam]
theorem parOk_itoa {v : Int} (h0 : -1000000000 ≤ v) (h1 : v ≤ 1000000000) : parOk (Lib.itoa v) = true := by
  have key : ∀ u : Nat, u ≤ 1000000000 → ((decide (1 ≤ (Lib.decDigits u).length) && decide ((Lib.decDigits u).length ≤ 10)) && (Lib.decDigits u).all isDg) = true := by
    intro u hu
    have := decDigits_len 9 u (by omega)
    rw [Bool.and_eq_true, Bool.and_eq_true, decide_eq_true_iff, decide_eq_true_iff, List.all_eq_true]
    exact ⟨⟨this.1, this.2⟩, decDigits_dg u⟩
  unfold Lib.itoa
  split
  · have e : dgsB (45 :: Lib.decDigits v.natAbs) = Lib.decDigits v.natAbs := by simp [dgsB, sgnB]
    unfold parOk
    rw [e]
    exact key _ (by omega)
  · have e : dgsB (Lib.decDigits v.toNat) = Lib.decDigits v.toNat := by
      unfold dgsB
      have : sgnB (Lib.decDigits v.toNat) = false := by
        have hd := decDigits_dg v.toNat
        cases hc : Lib.decDigits v.toNat with
        | nil => rfl
        | cons c r =>
          rw [hc] at hd
          have := isDg_iff.1 (hd c (.head _))
          unfold sgnB
          simp only [decide_eq_false_iff_not]
          omega
      rw [this]; rfl
    unfold parOk
    rw [e]
    exact key _ (by omega)
end Go.Proofs.YtggnjjalfnhiiaaGreatDoor.E
/- The library's contracts at this program. -/
set_option linter.unusedSectionVars false
set_option linter.unusedSimpArgs false
set_option linter.unusedVariables false
namespace Go.Proofs.YtggnjjalfnhiiaaGreatDoor.E
open Go Go.Proofs
open Go.Shelf
def laysM173_ren : Go.Shelf.Ren := ⟨fun | 173 => 48 | 246 => 75 | 283 => 104 | 284 => 105 | 285 => 106 | 286 => 107 | 129 => 138 | 317 => 137 | 318 => 139 | 319 => 140 | 320 => 141 | 337 => 172 | 338 => 173 | n => n, fun | 2 => 2 | 3 => 3 | 9 => 9 | 4 => 4 | 171 => 133 | 0 => 0 | 53 => 134 | 37 => 59 | 5 => 5 | 173 => 137 | 212 => 180 | 51 => 181 | 20 => 20 | 213 => 182 | 46 => 184 | 232 => 269 | 233 => 270 | n => n, fun | 17 => 0 | 18 => 2 | 19 => 3 | n => n⟩
theorem laysM173 : Go.Proofs.LaysM.n173 Tryz.prog laysM173_ren := {
  mixed := by kernel_rfl
  f129 := Tryz.func138.trans (congrArg some (by kernel_rfl))
  f173 := Tryz.func48.trans (congrArg some (by kernel_rfl))
  f246 := Tryz.func75.trans (congrArg some (by kernel_rfl))
  f283 := Tryz.func104.trans (congrArg some (by kernel_rfl))
  f284 := Tryz.func105.trans (congrArg some (by kernel_rfl))
  f285 := Tryz.func106.trans (congrArg some (by kernel_rfl))
  f286 := Tryz.func107.trans (congrArg some (by kernel_rfl))
  f317 := Tryz.func137.trans (congrArg some (by kernel_rfl))
  f318 := Tryz.func139.trans (congrArg some (by kernel_rfl))
  f319 := Tryz.func140.trans (congrArg some (by kernel_rfl))
  f320 := Tryz.func141.trans (congrArg some (by kernel_rfl))
  f337 := Tryz.func172.trans (congrArg some (by kernel_rfl))
  f338 := Tryz.func173.trans (congrArg some (by kernel_rfl))
  t0 := Tryz.underlying0
  a0 := Tryz.isAgg0
  z0 := Tryz.sizeOf0
  v0 := Tryz.zeroValue0
  t2 := Tryz.underlying2
  a2 := Tryz.isAgg2
  z2 := Tryz.sizeOf2
  v2 := Tryz.zeroValue2
  t3 := Tryz.underlying3
  a3 := Tryz.isAgg3
  z3 := Tryz.sizeOf3
  v3 := Tryz.zeroValue3
  t4 := Tryz.underlying4
  a4 := Tryz.isAgg4
  z4 := Tryz.sizeOf4
  v4 := Tryz.zeroValue4
  t5 := Tryz.underlying5
  a5 := Tryz.isAgg5
  z5 := Tryz.sizeOf5
  v5 := Tryz.zeroValue5
  t9 := Tryz.underlying9
  a9 := Tryz.isAgg9
  z9 := Tryz.sizeOf9
  v9 := Tryz.zeroValue9
  t20 := Tryz.underlying20
  a20 := Tryz.isAgg20
  z20 := Tryz.sizeOf20
  v20 := Tryz.zeroValue20
  t37 := Tryz.underlying59
  a37 := Tryz.isAgg59
  z37 := Tryz.sizeOf59
  v37 := Tryz.zeroValue59
  t46 := Tryz.underlying184
  a46 := Tryz.isAgg184
  z46 := Tryz.sizeOf184
  v46 := Tryz.zeroValue184
  t51 := Tryz.underlying181
  a51 := Tryz.isAgg181
  z51 := Tryz.sizeOf181
  v51 := Tryz.zeroValue181
  t53 := Tryz.underlying134
  a53 := Tryz.isAgg134
  z53 := Tryz.sizeOf134
  v53 := Tryz.zeroValue134
  t171 := Tryz.underlying133
  a171 := Tryz.isAgg133
  z171 := Tryz.sizeOf133
  v171 := Tryz.zeroValue133
  t173 := Tryz.underlying137
  a173 := Tryz.isAgg137
  z173 := Tryz.sizeOf137
  v173 := Tryz.zeroValue137
  t212 := Tryz.underlying180
  a212 := Tryz.isAgg180
  z212 := Tryz.sizeOf180
  v212 := Tryz.zeroValue180
  t213 := Tryz.underlying182
  a213 := Tryz.isAgg182
  z213 := Tryz.sizeOf182
  t232 := Tryz.underlying269
  a232 := Tryz.isAgg269
  z232 := Tryz.sizeOf269
  v232 := Tryz.zeroValue269
  t233 := Tryz.underlying270
  a233 := Tryz.isAgg270
  z233 := Tryz.sizeOf270
  v233 := Tryz.zeroValue270
  g17 := by kernel_rfl
  g18 := by kernel_rfl
  g19 := by kernel_rfl
  i0 := by kernel_rfl
  i2 := by kernel_rfl
  i3 := by kernel_rfl
  i4 := by kernel_rfl
  i5 := by kernel_rfl
  i9 := by kernel_rfl
  i20 := by kernel_rfl
  i37 := by kernel_rfl
  i46 := by kernel_rfl
  i51 := by kernel_rfl
  i53 := by kernel_rfl
  i171 := by kernel_rfl
  i173 := by kernel_rfl
  i212 := by kernel_rfl
  i232 := by kernel_rfl
  i233 := by kernel_rfl
  m17 := by kernel_rfl
  m18 := by kernel_rfl
  m19 := by kernel_rfl }
open Go.RowKit Go.Sort Go.Lib in
theorem sh_strconv_FormatInt_10 (n : Int) (h0 : -9223372036854775808 ≤ n) (h1 : n ≤ 9223372036854775807) (w : World) (htab : Lib.TabIs Tryz.prog w "internal/strconv.uint64pow10" .u64 Lib.pow10Tab) :
    Calls Tryz.prog 48 #[.int .i64 n, .int .i64 10] w fun e w' => e = .returned (.string ⟨(Lib.itoa n).toArray⟩) ∧ ∃ k os, w' = grow (w.drewN k) os := Any.strconv_FormatInt_10 laysM173 n h0 h1 w htab
def laysC174_ren : Go.Shelf.Ren := ⟨fun | 174 => 244 | 247 => 252 | 245 => 253 | 287 => 256 | 279 => 257 | 280 => 258 | 281 => 259 | 282 => 260 | 321 => 261 | 322 => 262 | 316 => 263 | 171 => 265 | 205 => 264 | 243 => 266 | 246 => 75 | 283 => 104 | 284 => 105 | 285 => 106 | 286 => 107 | 129 => 138 | 317 => 137 | 318 => 139 | 319 => 140 | 320 => 141 | 337 => 172 | 338 => 173 | n => n, fun | 9 => 9 | 3 => 3 | 2 => 2 | 75 => 63 | 85 => 299 | 4 => 4 | 167 => 318 | 5 => 5 | 53 => 134 | 175 => 319 | 46 => 184 | 168 => 321 | 37 => 59 | 0 => 0 | 210 => 327 | 21 => 21 | 127 => 89 | 145 => 331 | 143 => 329 | 171 => 133 | 173 => 137 | 212 => 180 | 51 => 181 | 20 => 20 | 213 => 182 | 232 => 269 | 233 => 270 | 80 => 66 | n => n, fun | 15 => 6 | 16 => 7 | 17 => 0 | 18 => 2 | 19 => 3 | n => n⟩
end Go.Proofs.YtggnjjalfnhiiaaGreatDoor.E
/- ParseNum, walked. -/
set_option linter.unusedSectionVars false
set_option linter.unusedSimpArgs false
set_option linter.unusedVariables false
namespace Go.Proofs.YtggnjjalfnhiiaaGreatDoor.E
open Go Go.RowKit
set_option maxRecDepth 100000
theorem w_dec (n : Int) (h0 : -9223372036854775808 ≤ n) (h1 : n ≤ 9223372036854775807) (w : World) (ht : Lib.TabIs Tryz.prog w "internal/strconv.uint64pow10" .u64 Lib.pow10Tab) :
    Calls Tryz.prog 27 #[.int .i64 n] w fun e w' => e = .returned (.string (itB n)) ∧ Below w.heap.size w w' := by
  go_enter Tryz.func27, Tryz.ntmps27
  go_wp2_with (go_at_call 48; refine (sh_strconv_FormatInt_10 n h0 h1 _ ht).mono ?_; rintro e w' ⟨rfl, k, os, rfl⟩)
  go_ret
  exact ⟨rfl, Lib.below_grow _ _ (Nat.le_refl _) _ _⟩
/-- What is asked of a world. -/
structure NumW (w : World) : Prop where
  tab : Lib.TabIs Tryz.prog w "internal/strconv.uint64pow10" .u64 Lib.pow10Tab
  e1 : ∃ ev, w.cell? ⟨laysC174_ren.g 15, 0, none⟩ = some ev ∧ (ev = .nilIface ∨ ∃ te pe, ev = .iface te pe)
  e2 : ∃ ev, w.cell? ⟨laysC174_ren.g 16, 0, none⟩ = some ev ∧ (ev = .nilIface ∨ ∃ te pe, ev = .iface te pe)
theorem below_res {w w1 : World} {t : TypeId} {x y : Value} (hb : Below (w.alloc (.cells #[x, y] t)).heap.size (w.alloc (.cells #[x, y] t)) w1) :
    w1.heap[w.heap.size]? = some (.cells #[x, y] t) := by
  rw [hb.block _ (by show w.heap.size < (w.heap.push _).size; rw [Array.size_push]; omega)]
  exact heap_alloc_new w _
theorem set_res {w1 : World} {b : Nat} {t : TypeId} {x y p q : Value} (h : w1.heap[b]? = some (.cells #[x, y] t)) :
    ((w1.setCell ⟨b, 0, none⟩ p).setCell ⟨b, 1, none⟩ q).heap[b]? = some (.cells #[p, q] t) := by
  unfold World.setCell
  simp only [Array.getElem?_modify, h, if_true, Option.map_some]
  rfl
end Go.Proofs.YtggnjjalfnhiiaaGreatDoor.E
/- ParseNum, strings.Cut, IndexByte and IndexAny as calls in abstract values. -/
set_option linter.unusedSectionVars false
set_option linter.unusedSimpArgs false
set_option linter.unusedVariables false
namespace Go.Proofs.YtggnjjalfnhiiaaGreatDoor.E
open Go Go.RowKit
set_option maxRecDepth 100000
/-- What the first world is known to hold. -/
def QS (w : World) : Prop := NumW w ∧ ∃ m : Int, w.cell? ⟨1, 0, none⟩ = some (.int .i64 m)
/-- .. of the table of powers alone. -/
def QP (w : World) : Prop := Lib.TabIs Tryz.prog w "internal/strconv.uint64pow10" .u64 Lib.pow10Tab
theorem QP.below {W w : World} {B : Nat} (h : QP W) (hb : Below B W w) (hB : W.heap.size ≤ B) : QP w := tab_below h hb hB
section
variable [L : Lam]
theorem QP_at [K : Knows QP] {κ : Kap} {σ : AH} {w : World} (hr : Rel κ σ w) : QP w := by
  obtain ⟨h, hB⟩ := K.knows κ hr.kp
  exact h.below hr.bel hB
end
variable [L : Lam] [K : Knows QS]
variable {σ : AH} {R : AEnd → AH → Prop}
end Go.Proofs.YtggnjjalfnhiiaaGreatDoor.E
/- What a row's condition tells of the first world. -/
set_option linter.unusedSectionVars false
set_option linter.unusedSimpArgs false
set_option linter.unusedVariables false
namespace Go.Proofs.YtggnjjalfnhiiaaGreatDoor.E
open Go Go.RowKit
set_option maxRecDepth 100000
theorem tab_of {P : Program} {W : World} {name : String} {k : IntKind} {zs : List Int} {g : Nat} {t e : TypeId} {n : Nat}
    (hg : P.globalNamed name = some g) (hty : (P.globals[g]?).map (·.type) = some t) (ht : P.underlying t = some (.array n e)) (he : P.underlying e = some (.int k)) (hce : P.cellsOf e = 1) (hct : P.cellsOf t = n)
    (h : Lib.VarReads P W name (Lib.tabData k zs)) : Lib.TabIs P W name k zs := by
  obtain ⟨g', t', cs, fuel, p, hg', ht', hvar, hd⟩ := h
  obtain rfl := Option.some.inj (hg.symm.trans hg')
  obtain rfl := Option.some.inj (hty.symm.trans ht')
  unfold Lib.TabIs
  rw [hvar, ← Lib.cells_of_tab ht he hce hct hd]
theorem QP_of {W : World} {l : List (String × DataW Unit)} (hl : laidMet Tryz.prog l W) (h1 : ("internal/strconv.uint64pow10", Rows.laid_internal_strconv_uint64pow10) ∈ l) : QP W :=
  tab_of (g := 0) (t := 180) (e := 134) (n := 20) (by kernel_rfl) (by kernel_rfl) Tryz.underlying180 Tryz.underlying134 (by kernel_rfl) (by kernel_rfl) (Lib.laidMet.reads hl h1)
end Go.Proofs.YtggnjjalfnhiiaaGreatDoor.E
/- How arguments read as lists of blocks. Printed by mkdec.py. -/
set_option linter.unusedSectionVars false
set_option linter.unusedSimpArgs false
set_option linter.unusedVariables false
set_option maxRecDepth 100000
namespace Go.Proofs.YtggnjjalfnhiiaaGreatDoor.E
open Go Go.RowKit
attribute [local instance] lam0
theorem dec_dat {m : Nat} {cs : List AV} (h : Sh Tryz.prog (m + 2) 169 cs) : ∃ x : Dat, cs = encDat x ∧ x.name.size ≤ 9223372036854775807 := by
  obtain ⟨h1, h2⟩ := dec_struct Tryz.underlying169 h
  rw [show Tryz.prog.cellsOf 169 = 4 from by decide +kernel] at h1
  obtain ⟨a, b, c, e, rfl⟩ : ∃ a b c e, cs = [a, b, c, e] := by match cs, h1 with | [a, b, c, e], _ => exact ⟨_, _, _, _, rfl⟩
  have g0 : Sh Tryz.prog (m + 1) 2 (([a, b, c, e].drop 0).take (Tryz.prog.cellsOf 2)) := h2 _ (.head _)
  rw [show Tryz.prog.cellsOf 2 = 1 from by decide +kernel] at g0
  have k0 : Sh Tryz.prog (m + 1) 2 [a] := g0
  obtain ⟨n0, e0, w0⟩ := dec_int Tryz.underlying2 k0
  cases e0
  have g1 : Sh Tryz.prog (m + 1) 2 (([_, b, c, e].drop 1).take (Tryz.prog.cellsOf 2)) := h2 _ (.tail _ (.head _))
  rw [show Tryz.prog.cellsOf 2 = 1 from by decide +kernel] at g1
  have k1 : Sh Tryz.prog (m + 1) 2 [b] := g1
  obtain ⟨n1, e1, w1⟩ := dec_int Tryz.underlying2 k1
  cases e1
  have g2 : Sh Tryz.prog (m + 1) 2 (([_, _, c, e].drop 2).take (Tryz.prog.cellsOf 2)) := h2 _ (.tail _ (.tail _ (.head _)))
  rw [show Tryz.prog.cellsOf 2 = 1 from by decide +kernel] at g2
  have k2 : Sh Tryz.prog (m + 1) 2 [c] := g2
  obtain ⟨n2, e2, w2⟩ := dec_int Tryz.underlying2 k2
  cases e2
  have g3 : Sh Tryz.prog (m + 1) 9 (([_, _, _, e].drop 3).take (Tryz.prog.cellsOf 9)) := h2 _ (.tail _ (.tail _ (.tail _ (.head _))))
  rw [show Tryz.prog.cellsOf 9 = 1 from by decide +kernel] at g3
  have k3 : Sh Tryz.prog (m + 1) 9 [e] := g3
  obtain ⟨n3, e3, w3⟩ := dec_str Tryz.underlying9 k3
  cases e3
  exact ⟨⟨n0, n1, n2, n3⟩, rfl, w3⟩
theorem dec_dats {m : Nat} {cs : List AV} (h : Sh Tryz.prog (m + 3) 97 cs) : ∃ xs : List Dat, cs = [roD xs] ∧ bD 9223372036854775807 xs := by
  obtain ⟨es, e1, e2, e3⟩ := dec_slice Tryz.underlying97 h
  obtain ⟨xs, rfl, hx⟩ := exists_map (f := encDat) (Q := fun x => x.name.size ≤ 9223372036854775807) es fun c hc => dec_dat (e3 c hc)
  exact ⟨xs, e1, by simpa [maxLen] using e2, hx⟩
theorem dec_op {m : Nat} {cs : List AV} (h : Sh Tryz.prog (m + 4) 99 cs) : ∃ x : OpD, cs = encOp x ∧ x.name.size ≤ 9223372036854775807 ∧ bD 9223372036854775807 x.data := by
  obtain ⟨h1, h2⟩ := dec_struct Tryz.underlying99 h
  rw [show Tryz.prog.cellsOf 99 = 7 from by decide +kernel] at h1
  obtain ⟨a, b, c, d, e, f, g, rfl⟩ : ∃ a b c d e f g, cs = [a, b, c, d, e, f, g] := by match cs, h1 with | [a, b, c, d, e, f, g], _ => exact ⟨_, _, _, _, _, _, _, rfl⟩
  have g0 : Sh Tryz.prog (m + 3) 2 (([a, b, c, d, e, f, g].drop 0).take (Tryz.prog.cellsOf 2)) := h2 _ (.head _)
  rw [show Tryz.prog.cellsOf 2 = 1 from by decide +kernel] at g0
  have k0 : Sh Tryz.prog (m + 3) 2 [a] := g0
  obtain ⟨n0, e0, w0⟩ := dec_int Tryz.underlying2 k0
  cases e0
  have g1 : Sh Tryz.prog (m + 3) 2 (([_, b, c, d, e, f, g].drop 1).take (Tryz.prog.cellsOf 2)) := h2 _ (.tail _ (.head _))
  rw [show Tryz.prog.cellsOf 2 = 1 from by decide +kernel] at g1
  have k1 : Sh Tryz.prog (m + 3) 2 [b] := g1
  obtain ⟨n1, e1, w1⟩ := dec_int Tryz.underlying2 k1
  cases e1
  have g2 : Sh Tryz.prog (m + 3) 2 (([_, _, c, d, e, f, g].drop 2).take (Tryz.prog.cellsOf 2)) := h2 _ (.tail _ (.tail _ (.head _)))
  rw [show Tryz.prog.cellsOf 2 = 1 from by decide +kernel] at g2
  have k2 : Sh Tryz.prog (m + 3) 2 [c] := g2
  obtain ⟨n2, e2, w2⟩ := dec_int Tryz.underlying2 k2
  cases e2
  have g3 : Sh Tryz.prog (m + 3) 2 (([_, _, _, d, e, f, g].drop 3).take (Tryz.prog.cellsOf 2)) := h2 _ (.tail _ (.tail _ (.tail _ (.head _))))
  rw [show Tryz.prog.cellsOf 2 = 1 from by decide +kernel] at g3
  have k3 : Sh Tryz.prog (m + 3) 2 [d] := g3
  obtain ⟨n3, e3, w3⟩ := dec_int Tryz.underlying2 k3
  cases e3
  have g4 : Sh Tryz.prog (m + 3) 2 (([_, _, _, _, e, f, g].drop 4).take (Tryz.prog.cellsOf 2)) := h2 _ (.tail _ (.tail _ (.tail _ (.tail _ (.head _)))))
  rw [show Tryz.prog.cellsOf 2 = 1 from by decide +kernel] at g4
  have k4 : Sh Tryz.prog (m + 3) 2 [e] := g4
  obtain ⟨n4, e4, w4⟩ := dec_int Tryz.underlying2 k4
  cases e4
  have g5 : Sh Tryz.prog (m + 3) 9 (([_, _, _, _, _, f, g].drop 5).take (Tryz.prog.cellsOf 9)) := h2 _ (.tail _ (.tail _ (.tail _ (.tail _ (.tail _ (.head _))))))
  rw [show Tryz.prog.cellsOf 9 = 1 from by decide +kernel] at g5
  have k5 : Sh Tryz.prog (m + 3) 9 [f] := g5
  obtain ⟨n5, e5, w5⟩ := dec_str Tryz.underlying9 k5
  cases e5
  have g6 : Sh Tryz.prog (m + 3) 97 (([_, _, _, _, _, _, g].drop 6).take (Tryz.prog.cellsOf 97)) := h2 _ (.tail _ (.tail _ (.tail _ (.tail _ (.tail _ (.tail _ (.head _)))))))
  rw [show Tryz.prog.cellsOf 97 = 1 from by decide +kernel] at g6
  have k6 : Sh Tryz.prog (m + 3) 97 [g] := g6
  obtain ⟨n6, e6, w6⟩ := dec_dats k6
  cases e6
  exact ⟨⟨n0, n1, n2, n3, n4, n5, n6⟩, rfl, w5, w6⟩
theorem dec_ops {m : Nat} {cs : List AV} (h : Sh Tryz.prog (m + 5) 44 cs) : ∃ xs : List OpD, cs = [roO xs] ∧ bO 9223372036854775807 xs := by
  obtain ⟨es, e1, e2, e3⟩ := dec_slice Tryz.underlying44 h
  obtain ⟨xs, rfl, hx⟩ := exists_map (f := encOp) (Q := fun x => x.name.size ≤ 9223372036854775807 ∧ bD 9223372036854775807 x.data) es fun c hc => dec_op (e3 c hc)
  exact ⟨xs, e1, by simpa [maxLen] using e2, hx⟩
theorem dec_blk {m : Nat} {cs : List AV} (h : Sh Tryz.prog (m + 6) 46 cs) : ∃ x : Blk, cs = encBlk x ∧ bO 9223372036854775807 x.ops := by
  obtain ⟨h1, h2⟩ := dec_struct Tryz.underlying46 h
  rw [show Tryz.prog.cellsOf 46 = 2 from by decide +kernel] at h1
  obtain ⟨a, b, rfl⟩ : ∃ a b, cs = [a, b] := by match cs, h1 with | [a, b], _ => exact ⟨_, _, rfl⟩
  have g0 : Sh Tryz.prog (m + 5) 2 (([a, b].drop 0).take (Tryz.prog.cellsOf 2)) := h2 _ (.head _)
  rw [show Tryz.prog.cellsOf 2 = 1 from by decide +kernel] at g0
  have k0 : Sh Tryz.prog (m + 5) 2 [a] := g0
  obtain ⟨n0, e0, w0⟩ := dec_int Tryz.underlying2 k0
  cases e0
  have g1 : Sh Tryz.prog (m + 5) 44 (([_, b].drop 1).take (Tryz.prog.cellsOf 44)) := h2 _ (.tail _ (.head _))
  rw [show Tryz.prog.cellsOf 44 = 1 from by decide +kernel] at g1
  have k1 : Sh Tryz.prog (m + 5) 44 [b] := g1
  obtain ⟨n1, e1, w1⟩ := dec_ops k1
  cases e1
  exact ⟨⟨n0, n1⟩, rfl, w1⟩
theorem dec_blks {m : Nat} {cs : List AV} (h : Sh Tryz.prog (m + 7) 22 cs) : ∃ xs : List Blk, cs = [roBk xs] ∧ bC 9223372036854775807 xs := by
  obtain ⟨es, e1, e2, e3⟩ := dec_slice Tryz.underlying22 h
  obtain ⟨xs, rfl, hx⟩ := exists_map (f := encBlk) (Q := fun x => bO 9223372036854775807 x.ops) es fun c hc => dec_blk (e3 c hc)
  exact ⟨xs, e1, by simpa [maxLen] using e2, hx⟩
end Go.Proofs.YtggnjjalfnhiiaaGreatDoor.E
/- Code that is owned: lists of blocks, of operations, of data, each in a family of its own. -/
set_option linter.unusedSectionVars false
set_option linter.unusedSimpArgs false
set_option linter.unusedVariables false
namespace Go.Proofs.YtggnjjalfnhiiaaGreatDoor.E
open Go Go.RowKit
set_option maxRecDepth 100000
/-- The families in which a slice lies. -/
def famL : AV → List Nat
  | .own φ _ _ _ => [φ]
  | _ => []
theorem famL_mem {a : AV} {ψ : Nat} : ψ ∈ famL a ↔ Buf.fam a ψ := by
  constructor
  · intro h
    cases a with
    | own φ st off n =>
      obtain rfl : ψ = φ := by simpa [famL] using h
      exact ⟨st, off, n, rfl⟩
    | _ => simp [famL] at h
  · rintro ⟨st, off, n, rfl⟩
    simp [famL]
section
variable [L : Lam]
variable {σ τ τ' : AH} {R : AEnd → AH → Prop}
theorem buf_keep {sz : Nat} {a : AV} {es : List (List AV)} (h : Buf τ sz a es) (k : ∀ ψ, ψ ∈ famL a → τ' ψ = τ ψ) : Buf τ' sz a es := h.keep fun ψ hf => k ψ (famL_mem.2 hf)
theorem buf_live {sz : Nat} {a : AV} {es : List (List AV)} (h : Buf τ sz a es) {ψ : Nat} (hm : ψ ∈ famL a) : ∃ F, τ ψ = some F := h.fam_some (famL_mem.1 hm)
/-! ### frozen -/
theorem fz_row {sz : Nat} {a : AV} {es fs : List (List AV)} (h : Buf τ sz a es) (h0 : ∀ ψ, ψ ∈ famL a → σ ψ = none) (hl : fs.length = es.length) (hz : ∀ c, c ∈ fs → c.length = sz)
    (hc : ∀ i j, i < es.length → j < sz → Fz σ τ ((es.getD i []).getD j .any) ((fs.getD i []).getD j .any)) : Fz σ τ a (.ro fs) := by
  rcases h with ⟨e1, e⟩ | ⟨φ, st, rfl, hF⟩
  · subst e
    have : fs = [] := List.length_eq_zero_iff.1 hl
    subst this
    rcases e1 with rfl | rfl
    · exact .nil
    · exact .emp
  · refine .own hF (h0 φ (by simp [famL])) rfl (by simp) hl (fun i hi => ?_) (fun i j hi hj => ?_)
    · have hi' : i < fs.length := by omega
      have e : fs.getD i [] = fs[i] := by simp [List.getD, hi']
      rw [e]; exact hz _ (List.getElem_mem hi')
    · rw [Nat.zero_add]; exact hc i j hi hj
/-! ### lists and their families -/
end
end Go.Proofs.YtggnjjalfnhiiaaGreatDoor.E
/- Code that is owned: growing; copies that the program makes. -/
set_option linter.unusedSectionVars false
set_option linter.unusedSimpArgs false
set_option linter.unusedVariables false
namespace Go.Proofs.YtggnjjalfnhiiaaGreatDoor.E
open Go Go.RowKit
set_option maxRecDepth 100000
variable [L : Lam]
variable {σ τ τ' : AH} {R : AEnd → AH → Prop}
/-- What stays: all that was there, but these families. -/
def Kp (F : List Nat) (τ τ' : AH) : Prop := ∀ ψ, ψ ∉ F → τ ψ ≠ none → τ' ψ = τ ψ
theorem Kp.of_sub {F : List Nat} (h : AH.Sub τ τ') : Kp F τ τ' := fun ψ _ hn => by
  cases e : τ ψ with
  | none => exact absurd e hn
  | some G => exact h _ _ e
theorem Kp.sub {F : List Nat} (h : Kp F τ τ') (hs : AH.Sub σ τ) (hf : ∀ ψ, ψ ∈ F → σ ψ = none) : AH.Sub σ τ' := fun ψ G hG => by
  have h1 := hs _ _ hG
  rw [h ψ (fun c => by rw [hf ψ c] at hG; cases hG) (by rw [h1]; simp), h1]
theorem live_ne {ψ : Nat} (h : ∃ F, τ ψ = some F) : τ ψ ≠ none := by obtain ⟨F, e⟩ := h; rw [e]; simp
theorem Kp.buf {F : List Nat} {sz : Nat} {a : AV} {es : List (List AV)} (k : Kp F τ τ') (h : Buf τ sz a es) (hd : ∀ ψ, ψ ∈ famL a → ψ ∉ F) : Buf τ' sz a es := buf_keep h fun ψ hψ => k ψ (hd ψ hψ) (live_ne (buf_live h hψ))
theorem buf_app {sz : Nat} {a x : AV} {es xs : List (List AV)} {k : AV → AH → Prop} (h : Buf τ sz a es) (hx : aelems τ x = some xs) (hs : ∀ c, c ∈ xs → c.length = sz) (ho : ∀ c, c ∈ xs → ∀ y, y ∈ c → y.one = true) (hn : es.length + xs.length ≤ 4294967296)
    (hk : ∀ a' τ', Buf τ' sz a' (es ++ xs) → Kp (famL a) τ τ' → (∀ ψ, ψ ∈ famL a' → ψ ∈ famL a ∨ τ ψ = none) → k a' τ') : app sz a x τ k :=
  h.app hx hs ho hn fun a' τ' h1 h2 h3 _ => hk a' τ' h1 (fun ψ hψ hn => h2 ψ (fun c => hψ (famL_mem.2 c)) hn) fun ψ hψ => (h3 ψ (famL_mem.1 hψ)).imp famL_mem.2 id
/-- A literal of one row. -/
theorem bsl1 {sz : Nat} {z row : List AV} {x : AV} {k : AV → AH → Prop} (he : afillS sz [z] [(0, x)] = some [row]) (hs : sz ≤ 16777216) (h : ∀ ψ, τ ψ = none → k (.own ψ 0 0 1) (τ.set ψ ⟨0, sz, [row]⟩)) : bsl sz z 1 [(0, x)] τ k := by
  unfold bsl
  have e : List.replicate 1 z = [z] := rfl
  rw [e, he]
  exact ⟨by omega, by rw [if_neg (by decide)]; exact h⟩
theorem bsl0 {sz : Nat} {z : List AV} {k : AV → AH → Prop} (h : k .emp τ) : bsl sz z 0 [] τ k := ⟨by omega, by rw [if_pos rfl]; exact h⟩
theorem ael1 {ψ sz : Nat} {row : List AV} : aelems (τ.set ψ ⟨0, sz, [row]⟩) (.own ψ 0 0 1) = some [row] := by simp [aelems]
end Go.Proofs.YtggnjjalfnhiiaaGreatDoor.E
/- Lists of lists that are owned: grown, written, frozen. -/
set_option linter.unusedSectionVars false
set_option linter.unusedSimpArgs false
set_option linter.unusedVariables false
namespace Go.Proofs.YtggnjjalfnhiiaaGreatDoor.E
open Go Go.RowKit
set_option maxRecDepth 100000
variable [L : Lam]
variable {σ τ τ' : AH} {R : AEnd → AH → Prop}
/-- A call whose arguments are given out of hand. -/
theorem acall_frz {P : Program} {f : FuncId} {args args' : List AV} {σ0 σ : AH} {R : AEnd → AH → Prop} (hs : AH.Sub σ0 σ) (hl : args.length = args'.length) (hf : ∀ i, i < args.length → Fz σ0 σ (args.getD i .any) (args'.getD i .any)) (h : acall P f args' σ0 R) : acall P f args σ R := by
  obtain ⟨fn, h1, h2, h3, h4⟩ := h
  refine ⟨fn, h1, h2, h3, fun κ w vs hr hv => ?_⟩
  obtain ⟨hS, hV⟩ := imp_freeze' hs hr
  refine (h4 _ w vs hS.rel ⟨hl ▸ hv.1, fun i hi => hV _ _ _ (hf i (hl ▸ hi)) (hv.2 i (hl ▸ hi))⟩).mono ?_
  rintro e w' ⟨κ1, ae, σ1, hq, hT, hE⟩
  exact ⟨κ1, ae, σ1, hq, hS.trans hT, hE⟩
section
variable {X : Type}
variable {row : X → AV → List AV} {n : Nat} {inn : X → List (List AV)} {m : Nat} {v : AV} {bs : List (X × AV)}
end
end Go.Proofs.YtggnjjalfnhiiaaGreatDoor.E
/- Cores that are made to code: the plain law. No program in sight. -/
set_option linter.unusedSectionVars false
set_option linter.unusedSimpArgs false
set_option linter.unusedVariables false
namespace Go.Proofs.YtggnjjalfnhiiaaGreatDoor.E
open Go Go.RowKit
/-- The kids of a core. -/
def corAt (cs : List Cor) (i : Nat) : Cor := cs.getD i default
def kidsC (cs : List Cor) (x : Nat) : List Nat := (List.range cs.length).filter fun i => decide ((corAt cs i).parent = (x : Int))
abbrev St := List (Int × List OpD)
/-! ### what is done to one list leaves another as it was -/
/-! ### how much there is -/
def vis (cs : List Cor) : Nat → Nat → List Nat
  | 0, x => [x]
  | f + 1, x => x :: (kidsC cs x).flatMap (vis cs f)
def visK (cs : List Cor) (f : Nat) (ks : List Nat) : Nat := (ks.map fun k => (vis cs f k).length).sum
theorem vis_pos (cs : List Cor) : ∀ f x, 1 ≤ (vis cs f x).length := by intro f x; cases f <;> simp [vis]
theorem vis_len (cs : List Cor) (f x : Nat) : (vis cs (f + 1) x).length = 1 + visK cs f (kidsC cs x) := by
  simp [vis, visK, List.length_flatMap]; omega
/-- The kinds of cores have as many kids as they have to. -/
def hasK (k : Int) (n : Nat) : Prop := if k = 4 then n = 3 else if k = 5 ∨ k = 7 ∨ k = 8 then n = 1 else if k = 6 then 1 ≤ n else if k = 9 then 1 ≤ n ∧ n ≤ 4 else n = 0
structure WfC (cs : List Cor) : Prop where
  len : 1 ≤ cs.length ∧ cs.length ≤ 160
  kind : ∀ i, i < cs.length → 1 ≤ (corAt cs i).kind ∧ (corAt cs i).kind ≤ 9
  top : (corAt cs 0).parent = -1
  par : ∀ i, 0 < i → i < cs.length → 0 ≤ (corAt cs i).parent ∧ (corAt cs i).parent < i
  kids : ∀ i, i < cs.length → hasK (corAt cs i).kind (kidsC cs i).length
theorem mem_kidsC {cs : List Cor} {x k : Nat} : k ∈ kidsC cs x ↔ k < cs.length ∧ (corAt cs k).parent = (x : Int) := by simp [kidsC]
theorem WfC.kid {cs : List Cor} (h : WfC cs) {x k : Nat} (hk : k ∈ kidsC cs x) : x < k ∧ k < cs.length := by
  obtain ⟨h1, h2⟩ := mem_kidsC.1 hk
  have h0 : 0 < k := by
    rcases Nat.eq_zero_or_pos k with c | c
    · subst c; rw [h.top] at h2; omega
    · exact c
  have := h.par k h0 h1
  omega
/-! ### each core is visited once -/
theorem nodup_bound : ∀ (n : Nat) (l : List Nat), l.Nodup → (∀ x, x ∈ l → x < n) → l.length ≤ n := by
  intro n
  induction n with
  | zero => intro l _ h; cases l with
    | nil => simp
    | cons a r => exact absurd (h a (by simp)) (by omega)
  | succ n ih =>
    intro l hn h
    have h1 := ih (l.erase n) (hn.erase n) fun x hx => by
      have h2 := h x (List.mem_of_mem_erase hx)
      have h3 : x ≠ n := fun c => by subst c; exact (List.Nodup.not_mem_erase hn) hx
      omega
    by_cases c : n ∈ l
    · rw [List.length_erase_of_mem c] at h1; omega
    · rw [List.erase_of_not_mem c] at h1; omega
theorem nodup_app' {a b : List Nat} : (a ++ b).Nodup ↔ a.Nodup ∧ b.Nodup ∧ ∀ x, x ∈ a → x ∉ b := by
  rw [List.nodup_append]
  constructor
  · rintro ⟨h1, h2, h3⟩
    exact ⟨h1, h2, fun x hx hb => h3 x hx x hb rfl⟩
  · rintro ⟨h1, h2, h3⟩
    exact ⟨h1, h2, fun x hx y hy e => h3 x hx (e ▸ hy)⟩
def upC (cs : List Cor) (y : Nat) : Nat := (corAt cs y).parent.toNat
def upN (cs : List Cor) : Nat → Nat → Nat
  | 0, y => y
  | n + 1, y => upC cs (upN cs n y)
theorem vis_up {cs : List Cor} (hw : WfC cs) : ∀ f x y, x < cs.length → y ∈ vis cs f x → y < cs.length ∧ x ≤ y ∧ ∃ n, upN cs n y = x := by
  intro f
  induction f with
  | zero => intro x y hx h; simp [vis] at h; subst h; exact ⟨hx, Nat.le_refl _, 0, rfl⟩
  | succ f ih =>
    intro x y hx h
    simp only [vis, List.mem_cons, List.mem_flatMap] at h
    rcases h with rfl | ⟨k, hk, hy⟩
    · exact ⟨hx, Nat.le_refl _, 0, rfl⟩
    · obtain ⟨h1, h2⟩ := hw.kid hk
      obtain ⟨g1, g2, n, hn⟩ := ih k y h2 hy
      refine ⟨g1, by omega, n + 1, ?_⟩
      rw [upN, hn, upC, (mem_kidsC.1 hk).2]; simp
theorem upN_add (cs : List Cor) (y : Nat) : ∀ a b, upN cs (a + b) y = upN cs a (upN cs b y) := by
  intro a
  induction a with
  | zero => intro b; simp [upN]
  | succ a ih => intro b; rw [Nat.succ_add, upN, ih, upN]
theorem upN_le {cs : List Cor} (hw : WfC cs) : ∀ n y, y < cs.length → upN cs n y ≤ y := by
  intro n
  induction n with
  | zero => intro y _; exact Nat.le_refl _
  | succ n ih =>
    intro y hy
    have h1 := ih y hy
    rw [upN]
    unfold upC
    rcases Nat.eq_zero_or_pos (upN cs n y) with c | c
    · rw [c, hw.top]; simp
    · have := hw.par _ c (by omega); omega
theorem vis_nodup {cs : List Cor} (hw : WfC cs) : ∀ f x, x < cs.length → (vis cs f x).Nodup := by
  intro f
  induction f with
  | zero => intro x _; simp [vis]
  | succ f ih =>
    intro x hx
    simp only [vis]
    refine List.nodup_cons.2 ⟨fun h => ?_, ?_⟩
    · obtain ⟨k, hk, hy⟩ := List.mem_flatMap.1 h
      obtain ⟨h1, h2⟩ := hw.kid hk
      have := (vis_up hw f k x h2 hy).2.1
      omega
    · have hp : (kidsC cs x).Nodup := by unfold kidsC; exact List.nodup_range.filter _
      have hm : ∀ k, k ∈ kidsC cs x → x < k ∧ k < cs.length ∧ upC cs k = x := fun k hk => ⟨(hw.kid hk).1, (hw.kid hk).2, by rw [upC, (mem_kidsC.1 hk).2]; simp⟩
      generalize kidsC cs x = ks at hp hm
      induction ks with
      | nil => simp
      | cons k r ih2 =>
        rw [List.flatMap_cons]
        obtain ⟨p1, p2⟩ := List.nodup_cons.1 hp
        rw [nodup_app']
        refine ⟨ih k (hm k (by simp)).2.1, ih2 p2 fun q hq => hm q (by simp [hq]), fun y hy c => ?_⟩
        obtain ⟨q, hq, hyq⟩ := List.mem_flatMap.1 c
        obtain ⟨a1, a2, a3⟩ := hm k (by simp)
        obtain ⟨b1, b2, b3⟩ := hm q (by simp [hq])
        obtain ⟨_, _, n1, e1⟩ := vis_up hw f k y a2 hy
        obtain ⟨_, _, n2, e2⟩ := vis_up hw f q y b2 hyq
        have hkq : k ≠ q := by rintro rfl; exact p1 hq
        have key : ∀ (n : Nat) (a b : Nat), a < cs.length → upC cs a = x → x < b → upN cs (n + 1) a ≠ b := by
          intro n a b ha hu hb c
          rw [upN_add cs a n 1] at c
          have h1 : upN cs 1 a = x := hu
          rw [h1] at c
          have := upN_le hw n x hx
          omega
        rcases Nat.lt_trichotomy n1 n2 with c | c | c
        · have : upN cs (n2 - n1 - 1 + 1) k = q := by rw [← e1, ← upN_add, show n2 - n1 - 1 + 1 + n1 = n2 by omega, e2]
          exact key _ k q a2 a3 b1 this
        · subst c; rw [e1] at e2; exact hkq e2
        · have : upN cs (n1 - n2 - 1 + 1) q = k := by rw [← e2, ← upN_add, show n1 - n2 - 1 + 1 + n2 = n1 by omega, e1]
          exact key _ q k b2 b3 a1 this
theorem vis_bound {cs : List Cor} (hw : WfC cs) (f x : Nat) (hx : x < cs.length) : (vis cs f x).length ≤ 160 :=
  Nat.le_trans (nodup_bound cs.length _ (vis_nodup hw f x hx) fun y hy => (vis_up hw f x y hx hy).1) hw.len.2
/-! ### what each operation says -/
end Go.Proofs.YtggnjjalfnhiiaaGreatDoor.E
/- Cores that are made to code: the program's way. -/
set_option linter.unusedSectionVars false
set_option linter.unusedSimpArgs false
set_option linter.unusedVariables false
namespace Go.Proofs.YtggnjjalfnhiiaaGreatDoor.E
open Go Go.RowKit
set_option maxRecDepth 100000
variable [L : Lam]
variable {σ τ τ' : AH} {R : AEnd → AH → Prop}
abbrev roK (ks : List Nat) : AV := .ro (ks.map fun k : Nat => [iv (k : Int)])
theorem idx_K {ks : List Nat} {j : Nat} (hj : j < ks.length) : idx 1 (roK ks) (iv (j : Int)) σ = some (.rop [iv ((ks.getD j 0 : Nat) : Int)] 0) := by
  have := idx_ro (σ := σ) (enc := fun k : Nat => [iv (k : Int)]) (es := ks) hj (sz := 1) (fun _ => rfl)
  rw [this]; simp [List.getD, hj]
theorem lod_1 {x : AV} : lod (.rop [x] 0) σ = some x := rfl
theorem lenK {ks : List Nat} : lenS (roK ks) = some (iv (ks.length : Int)) := by simp [lenS]
section
variable {φm : Nat} {B : St} {cs : List Cor}
end
end Go.Proofs.YtggnjjalfnhiiaaGreatDoor.E
/- Cores that are made to code: the program's kids of cores, and all of it. -/
set_option linter.unusedSectionVars false
set_option linter.unusedSimpArgs false
set_option linter.unusedVariables false
namespace Go.Proofs.YtggnjjalfnhiiaaGreatDoor.E
open Go Go.RowKit
set_option maxRecDepth 100000
variable [L : Lam]
variable {σ τ τ' : AH} {R : AEnd → AH → Prop}
abbrev innK (l : List Nat) : List (List AV) := l.map fun k : Nat => [iv (k : Int)]
end Go.Proofs.YtggnjjalfnhiiaaGreatDoor.E
/- Cores that are made to code: the reference's way. -/
set_option linter.unusedSectionVars false
set_option linter.unusedSimpArgs false
set_option linter.unusedVariables false
namespace Go.Proofs.YtggnjjalfnhiiaaGreatDoor.E
open Go Go.RowKit
set_option maxRecDepth 100000
variable [L : Lam]
variable {σ τ τ' : AH} {R : AEnd → AH → Prop}
theorem push_row {sz : Nat} {a x : AV} {es : List (List AV)} {z row : List AV} {k : AV → AH → Prop} (h : Buf τ sz a es) (he : afillS sz [z] [(0, x)] = some [row]) (hs : sz ≤ 1000) (hr : row.length = sz) (ho : ∀ y, y ∈ row → y.one = true) (hn : es.length + 1 ≤ 4294967296)
    (hk : ∀ a' τ', Buf τ' sz a' (es ++ [row]) → Kp (famL a) τ τ' → (∀ ψ, ψ ∈ famL a' → ψ ∈ famL a ∨ τ ψ = none) → k a' τ') : bsl sz z 1 [(0, x)] τ fun v τ => E.app sz a v τ k := by
  refine bsl1 he (by omega) fun ψ hψ => ?_
  have hs1 : AH.Sub τ (τ.set ψ ⟨0, sz, [row]⟩) := .set (.refl τ) _ hψ
  refine buf_app ((Kp.of_sub (F := []) hs1).buf h fun _ _ c => by cases c) ael1 (by intro c hc; obtain rfl := List.mem_singleton.1 hc; exact hr) (by intro c hc; obtain rfl := List.mem_singleton.1 hc; exact ho) (by simpa using hn) fun a' τ' hB hK hfam => hk a' τ' hB (fun χ hχ hn => ?_) fun χ hχ => ?_
  · rw [hK χ hχ (by rw [AH.set_ne' (by rintro rfl; exact hn hψ)]; exact hn), AH.set_ne' (by rintro rfl; exact hn hψ)]
  · rcases hfam χ hχ with c | c
    · exact .inl c
    · exact .inr (hs1.none c)
section
variable {φm : Nat} {B : St} {cs : List Cor}
end
end Go.Proofs.YtggnjjalfnhiiaaGreatDoor.E
/- Cores: their faults. -/
set_option linter.unusedSectionVars false
set_option linter.unusedSimpArgs false
set_option linter.unusedVariables false
namespace Go.Proofs.YtggnjjalfnhiiaaGreatDoor.E
open Go Go.RowKit
set_option maxRecDepth 100000
variable [L : Lam]
variable {σ τ τ' : AH} {R : AEnd → AH → Prop}
/-! ### words -/
abbrev roS (l : List ByteArray) : AV := .ro (l.map fun s => [str s])
theorem bsl_new {sz n : Nat} {z : List AV} {ps : List (Nat × AV)} {es : List (List AV)} {k : AV → AH → Prop} (he : afillS sz (List.replicate n z) ps = some es) (hb : n * sz ≤ 16777216) (hn : n ≠ 0) (h : ∀ φ, σ φ = none → k (.own φ 0 0 n) (σ.set φ ⟨0, sz, es⟩)) : bsl sz z n ps σ k := by
  unfold bsl
  rw [he]
  exact ⟨hb, by rw [if_neg hn]; exact h⟩
/-! ### kinds -/
end Go.Proofs.YtggnjjalfnhiiaaGreatDoor.E
/- Forms that are expanded to cores: the plain law. No program in sight. -/
set_option linter.unusedSectionVars false
set_option linter.unusedSimpArgs false
set_option linter.unusedVariables false
namespace Go.Proofs.YtggnjjalfnhiiaaGreatDoor.E
open Go Go.RowKit
/-- The parts of a datum. -/
def kidsD (ds : List Dat) (x : Nat) : List Nat := (List.range ds.length).filter fun i => decide ((dat ds i).parent = (x : Int))
def nodC (k p : Int) (a : Nat) : Cor := ⟨k, p, (a : Int), 0, ⟨#[]⟩, []⟩
abbrev Sco := List (List ByteArray)
/-! ### cores hang together -/
section
variable {ds : List Dat}
theorem dataF_len (h : dataF ds = 0) : 1 ≤ ds.length ∧ ds.length ≤ 80 := by
  unfold dataF at h
  split at h
  · rename_i c; simp only [inB, Bool.and_eq_true, decide_eq_true_iff] at c; omega
  · cases h
end
end Go.Proofs.YtggnjjalfnhiiaaGreatDoor.E
/- Forms that are expanded to cores: how many cores. No program in sight. -/
set_option linter.unusedSectionVars false
set_option linter.unusedSimpArgs false
set_option linter.unusedVariables false
namespace Go.Proofs.YtggnjjalfnhiiaaGreatDoor.E
open Go Go.RowKit
def fakC (ds : List Dat) : List Cor := (List.range ds.length).map fun i => nodC (if kidsD ds i = [] then 3 else 6) (dat ds i).parent 0
section
variable {ds : List Dat} [L : Lam]
theorem fak_len : (fakC ds).length = ds.length := by simp [fakC]
theorem fak_at {i : Nat} (h : i < ds.length) : corAt (fakC ds) i = nodC (if kidsD ds i = [] then 3 else 6) (dat ds i).parent 0 := by simp [corAt, fakC, List.getD, h]
theorem fak_kids (x : Nat) : kidsC (fakC ds) x = kidsD ds x := by
  unfold kidsC
  rw [fak_len]
  unfold kidsD
  refine List.filter_congr fun i hi => ?_
  rw [fak_at (List.mem_range.1 hi)]
  rfl
theorem datF_par2 {i : Nat} (h : datF ds i = 0) : (i = 0 → (dat ds i).parent = -1) ∧ (0 < i → 0 ≤ (dat ds i).parent ∧ (dat ds i).parent < i) ∧ 1 ≤ (dat ds i).kind ∧ (dat ds i).kind ≤ 4 := by
  unfold datF at h
  split at h
  · cases h
  rename_i hb
  have hk : 1 ≤ (dat ds i).kind ∧ (dat ds i).kind ≤ 4 := by
    simp only [bareB, inB, Bool.and_eq_true, decide_eq_true_iff, Bool.not_eq_false] at hb
    exact hb.1.1
  split at h
  · rename_i hk; exact absurd h hk
  split at h
  · rename_i h0
    split at h
    · cases h
    · rename_i h1; exact ⟨fun _ => by simpa using h1, fun c => by omega, hk⟩
  · rename_i h0
    split at h
    · cases h
    · rename_i h1
      simp only [inB, Bool.and_eq_true, decide_eq_true_iff, Bool.not_eq_false] at h1
      exact ⟨fun c => absurd c h0, fun _ => by omega, hk⟩
structure DOk (ds : List Dat) : Prop where
  len : 1 ≤ ds.length ∧ ds.length ≤ 80
  top : (dat ds 0).parent = -1
  par : ∀ i, 0 < i → i < ds.length → 0 ≤ (dat ds i).parent ∧ (dat ds i).parent < i
  kind : ∀ i, i < ds.length → 1 ≤ (dat ds i).kind ∧ (dat ds i).kind ≤ 4
  pars : ∀ i, i ≤ ds.length → Pars ds i
theorem DOk.of (h : dataF ds = 0) : DOk ds := by
  have hl := dataF_len h
  have hz : ∀ j, j < ds.length → datF ds j = 0 := by
    unfold dataF at h
    split at h
    · intro j hj; exact firstF_zero _ _ h j (Nat.zero_le _) (by omega)
    · cases h
  exact ⟨hl, (datF_par2 (hz 0 (by omega))).1 rfl, fun i hi hl => (datF_par2 (hz i hl)).2.1 hi, fun i hl => (datF_par2 (hz i hl)).2.2, fun i hi => pars_of fun j hj => hz j (by omega)⟩
theorem mem_kidsD {x k : Nat} : k ∈ kidsD ds x ↔ k < ds.length ∧ (dat ds k).parent = (x : Int) := by simp [kidsD]
theorem DOk.kid (h : DOk ds) {x k : Nat} (hk : k ∈ kidsD ds x) : x < k ∧ k < ds.length := by
  obtain ⟨h1, h2⟩ := mem_kidsD.1 hk
  have h0 : 0 < k := by
    rcases Nat.eq_zero_or_pos k with c | c
    · subst c; rw [h.top] at h2; omega
    · exact c
  have := h.par k h0 h1
  omega
theorem DOk.fak (h : DOk ds) : WfC (fakC ds) := by
  have hl := h.len
  refine ⟨by rw [fak_len]; omega, fun i hi => ?_, ?_, fun i h0 hi => ?_, fun i hi => ?_⟩
  · rw [fak_len] at hi
    rw [fak_at hi]
    simp only [nodC]
    split <;> omega
  · rw [fak_at (by omega)]; exact h.top
  · rw [fak_len] at hi
    rw [fak_at hi]; exact h.par i h0 hi
  · rw [fak_len] at hi
    rw [fak_at hi, fak_kids]
    simp only [nodC]
    split
    · rename_i c; rw [c]; simp [hasK]
    · rename_i c
      have := List.length_pos_iff.2 c
      simp [hasK]; omega
theorem getD_mem {ks : List Nat} {j : Nat} (h : j < ks.length) : ks.getD j 0 ∈ ks := by
  have e : ks.getD j 0 = ks[j] := by simp [List.getD, h]
  rw [e]; exact List.getElem_mem h
/-! ### scopes in frames -/
abbrev Frs := List (List ByteArray × Int)
end
end Go.Proofs.YtggnjjalfnhiiaaGreatDoor.E
/- Data and cores as texts: the plain law. No program in sight. -/
set_option linter.unusedSectionVars false
set_option linter.unusedSimpArgs false
set_option linter.unusedVariables false
namespace Go.Proofs.YtggnjjalfnhiiaaGreatDoor.E
open Go Go.RowKit
set_option maxRecDepth 100000
def boolT (n : Int) : List UInt8 := if n = 1 then [35, 116] else [35, 102]
/-- A datum as a text. -/
def writeD (ds : List Dat) : Nat → Nat → List UInt8
  | 0, _ => []
  | f + 1, x =>
    if (dat ds x).kind = 1 then Lib.itoa (dat ds x).num
    else if (dat ds x).kind = 2 then boolT (dat ds x).num
    else if (dat ds x).kind = 3 then by8 (dat ds x).name
    else 40 :: (Lib.join ((kidsD ds x).map (writeD ds f)) [32] ++ [41])
/-! ### joining -/
theorem join_tail (x : List UInt8) (r : List (List UInt8)) : Lib.join (x :: r) [32] = x ++ (r.map fun y => 32 :: y).flatten := by
  rw [Lib.join_cons]; rfl
theorem join_more {l : List (List UInt8)} (h : l ≠ []) (r : List (List UInt8)) : Lib.join (l ++ r) [32] = Lib.join l [32] ++ (r.map fun y => 32 :: y).flatten := by
  cases l with
  | nil => exact absurd rfl h
  | cons x l => rw [List.cons_append, join_tail, join_tail, List.map_append, List.flatten_append, List.append_assoc]
theorem join_succ (l : List (List UInt8)) (y : List UInt8) : Lib.join (l ++ [y]) [32] = (if l = [] then y else Lib.join l [32] ++ 32 :: y) := by
  split
  · rename_i h; rw [h]; exact Lib.join_one _ _
  · rename_i h; rw [join_more h]; simp
def sumL (l : List (List UInt8)) : Nat := (l.map fun y => y.length + 1).sum
theorem sumL_app (a b : List (List UInt8)) : sumL (a ++ b) = sumL a + sumL b := by simp [sumL]
theorem join_len : ∀ l : List (List UInt8), (Lib.join l [32]).length ≤ sumL l := by
  intro l
  cases l with
  | nil => simp [Lib.join_nil, sumL]
  | cons x r =>
    rw [join_tail, List.length_append]
    have : ((r.map fun y => (32 : UInt8) :: y).flatten).length = sumL r := by simp [sumL, List.length_flatten, Function.comp_def]
    have e : sumL (x :: r) = x.length + 1 + sumL r := by simp [sumL]
    omega
theorem getD_len {ks : List Nat} {j : Nat} {X : Type} (f : Nat → X) (h : j < ks.length) : (ks.take (j + 1)).map f = (ks.take j).map f ++ [f (ks.getD j 0)] := by
  rw [List.take_succ_eq_append_getElem h, List.map_append]
  simp [List.getD, h]
/-! ### what is known of data and cores -/
/-- Data whose leaves are as they have to be. -/
def DTx (ds : List Dat) : Prop := ∀ i, i < ds.length → ((dat ds i).kind = 1 → -1000000000 ≤ (dat ds i).num ∧ (dat ds i).num ≤ 1000000000) ∧ ((dat ds i).kind = 2 → (dat ds i).num = 0 ∨ (dat ds i).num = 1) ∧ ((dat ds i).kind = 3 → (dat ds i).name.size ≤ 12)
section
variable [L : Lam]
theorem symOk_sm {s : ByteArray} (h : symOk s = true) : s.size ≤ 12 := by
  unfold symOk at h
  rw [Bool.and_eq_true] at h
  have := inB_iff.1 h.1; omega
theorem DTx.of {ds : List Dat} (h : dataF ds = 0) : DTx ds := by
  have hz : ∀ j, j < ds.length → datF ds j = 0 := by
    unfold dataF at h
    split at h
    · intro j hj; exact firstF_zero _ _ h j (Nat.zero_le _) (by omega)
    · cases h
  intro i hi
  have h := hz i hi
  unfold datF at h
  split at h
  · cases h
  split at h
  · rename_i hk; exact absurd h hk
  rename_i hk
  have hk : kindF (dat ds i).kind (dat ds i).num (dat ds i).name = 0 := Classical.byContradiction hk
  unfold kindF at hk
  refine ⟨fun c => ?_, fun c => ?_, fun c => ?_⟩
  · rw [if_pos c] at hk
    split at hk
    · rename_i hn; exact inB_iff.1 hn
    · cases hk
  · rw [if_neg (by omega), if_pos c] at hk
    split at hk
    · rename_i hn; have := inB_iff.1 hn; omega
    · cases hk
  · rw [if_neg (by omega), if_neg (by omega), if_pos c] at hk
    split at hk
    · rename_i hn; exact symOk_sm hn
    · cases hk
theorem itoa_len {v : Int} (h0 : -1000000000 ≤ v) (h1 : v ≤ 1000000000) : (Lib.itoa v).length ≤ 11 := by
  have h := parOk_itoa h0 h1
  unfold parOk at h
  rw [Bool.and_eq_true, Bool.and_eq_true, decide_eq_true_iff, decide_eq_true_iff] at h
  have h2 := h.1.2
  unfold dgsB at h2
  split at h2
  · rw [List.length_tail] at h2; omega
  · omega
theorem sumL_map {f : Nat → List UInt8} {g : Nat → Nat} {B : Nat} (ks : List Nat) (h : ∀ k, k ∈ ks → (f k).length + 1 ≤ B * g k) : sumL (ks.map f) ≤ B * (ks.map g).sum := by
  induction ks with
  | nil => simp [sumL]
  | cons k r ih =>
    have h1 := h k (by simp)
    have h2 := ih fun j hj => h j (List.mem_cons_of_mem _ hj)
    have e : sumL ((k :: r).map f) = (f k).length + 1 + sumL (r.map f) := by simp [sumL]
    rw [e, List.map_cons, List.sum_cons, Nat.mul_add]
    omega
theorem writeD_len {ds : List Dat} (hd : DOk ds) (ht : DTx ds) : ∀ f x, x < ds.length → (writeD ds f x).length + 1 ≤ 20 * (vis (fakC ds) f x).length := by
  intro f
  induction f with
  | zero => intro x _; simp [writeD, vis]
  | succ f ih =>
    intro x hx
    have hp := vis_pos (fakC ds) (f + 1) x
    have hv := vis_len (fakC ds) f x
    rw [fak_kids] at hv
    obtain ⟨t1, t2, t3⟩ := ht x hx
    rw [writeD]
    split
    · rename_i c; have := itoa_len (t1 c).1 (t1 c).2; omega
    split
    · unfold boolT; split <;> simp <;> omega
    split
    · rename_i c; have := t3 c; rw [size_by8] at this; omega
    · have h1 := join_len ((kidsD ds x).map (writeD ds f))
      have h2 := sumL_map (f := writeD ds f) (g := fun k => (vis (fakC ds) f k).length) (B := 20) (kidsD ds x) fun k hk => ih k (hd.kid hk).2
      change _ ≤ 20 * visK (fakC ds) f (kidsD ds x) at h2
      rw [hv]
      simp only [List.length_cons, List.length_append, List.length_nil]
      omega
theorem writeD_sm {ds : List Dat} (hd : DOk ds) (ht : DTx ds) (f x : Nat) (hx : x < ds.length) : (writeD ds f x).length ≤ 3200 := by
  have h1 := writeD_len hd ht f x hx
  have h2 := vis_bound hd.fak f x (by rw [fak_len]; exact hx)
  omega
end
end Go.Proofs.YtggnjjalfnhiiaaGreatDoor.E
