import Derived.Test.YtbppopcpgcgkkaaGreatDoorPE11
import Derived.Lib.ParseIntB
import Derived.Lib.ItoaNum
import Derived.Lib.ItoaMem
import Derived.Shelf.Strconv.ParseIntPublic10
import Derived.Shelf.Strconv.Itoa4
import Derived.Test.YtbppopcpgcgkkaaGreatDoorProg
import Derived.Lib.ParseIntBTie
import Derived.WalkKit
import Derived.BigCall
import Derived.Deep.DeepFit
import Derived.Lib.AppendIntMem
import Derived.Shelf.Strings.IndexAnyAll
import Derived.Shelf.Strings.Cut
import Derived.Shelf.Small.Strs
/- What functions come to. Printed by mkg.py. -/
set_option maxRecDepth 1000000
namespace Go.Proofs.YtbppopcpgcgkkaaGreatDoor.E
open Go Go.RowKit X
set_option linter.unusedVariables false
set_option linter.unusedSectionVars false
variable [Lam] {a0 a1 a2 a3 a4 a5 a6:AV} {σ:AH} {R:AEnd→AH→Prop}
def s_spec_l2Skip (a0 a1:AV) (σ:AH) (R:AEnd→AH→Prop):Prop:=
 lp (X:=Tup [0,1]) (fun R1 y1 σ=>
 og (lenStr y1.1) fun v7=>
 og (ibin .lss y1.2.1 v7) fun v8=>
 apick v8 (
 og (idxStr y1.1 y1.2.1) fun v11=>
 og (ibin .eql v11 (.val (.int .u8 59))) fun v12=>
 apick v12 (
 lp (X:=Tup [0,1]) (fun R2 y2 σ=>
 og (lenStr y2.1) fun v15=>
 og (ibin .lss y2.2.1 v15) fun v16=>
 og (gval v16 true false (some y2.1)) fun v18=>
 og (gval v16 true false (some y2.2.1)) fun v19=>
 og (gval v16 true false (idxStr v18 v19)) fun v20=>
 og (gval v16 true false (ibin .neq v20 (.val (.int .u8 10)))) fun v21=>
 og (pickV v16 v21 (.val (.bool false))) fun v22=>
 apick v22 (
 og (ibin .add y2.2.1 (iv 1)) fun v24=>
 R2 (y2.1,v24,()) σ) (
 R1 (y2.1,y2.2.1,()) σ)) (y1.1,y1.2.1,()) σ) (
 og (idxStr y1.1 y1.2.1) fun v27=>
 og (ibin .neq v27 (.val (.int .u8 32))) fun v28=>
 og (gval v28 true false (some y1.1)) fun v30=>
 og (gval v28 true false (some y1.2.1)) fun v31=>
 og (gval v28 true false (idxStr v30 v31)) fun v32=>
 og (gval v28 true false (ibin .neq v32 (.val (.int .u8 10)))) fun v33=>
 og (pickV v28 v33 (.val (.bool false))) fun v34=>
 apick v34 (
 aret y1.2.1 σ R) (
 og (ibin .add y1.2.1 (iv 1)) fun v37=>
 R1 (y1.1,v37,()) σ))) (
 aret y1.2.1 σ R)) (a0,a1,()) σ
def x114:Sx:= .lp [0,1] (Q (.lenStr (Z 0)) (D .lss (Z 2) (Z 0) (P 0 (Q (.idxStr (Z 2) (Z 3)) (D .eql (Z 0) (.lit (.val (.int .u8 59))) (P 0 (.lp [0,1] (Q (.lenStr (Z 0)) (D .lss (Z 2) (Z 0) (H 0 (.ret (Z 2)) (H 1 (.ret (Z 4)) (H 2 (.idxStr (Z 1) (Z 0)) (H 3 (B .neq (Z 0) (.lit (.val (.int .u8 10)))) (Q (.pickV (Z 4) (Z 0) (.lit (.val (.bool false)))) (P 0 (D .add (Z 8) (Y 1) (.jump 0 [(Z 8),(Z 0)])) (.jump 1 [(Z 7),(Z 8)]))))))))) [(Z 4),(Z 5)]) (Q (.idxStr (Z 4) (Z 5)) (D .neq (Z 0) (.lit (.val (.int .u8 32))) (H 0 (.ret (Z 6)) (H 1 (.ret (Z 8)) (H 2 (.idxStr (Z 1) (Z 0)) (H 3 (B .neq (Z 0) (.lit (.val (.int .u8 10)))) (Q (.pickV (Z 4) (Z 0) (.lit (.val (.bool false)))) (P 0 (.ret (Z 12)) (D .add (Z 12) (Y 1) (.jump 0 [(Z 12),(Z 0)]))))))))))))) (.ret (Z 3))))) [(Z 1),(Z 0)]
theorem x114_ok:okF TT Tryz.f114 2 x114=true:=by decide+kernel
theorem s_spec_l2Skip_ok (h:s_spec_l2Skip a0 a1 σ R):acall TP fn_spec_l2Skip [a0,a1] σ R:=
 acall_okF (ρ:=[a1,a0]) TT_ok Tryz.func114 rfl x114 x114_ok rfl h
def s_spec_l2Mark (a0:AV) (σ:AH) (R:AEnd→AH→Prop):Prop:=
 og (ibin .eql a0 (.val (.int .u8 40))) fun v5=>
 apick v5 (
 aret (iv 1) σ R) (
 og (ibin .eql a0 (.val (.int .u8 41))) fun v7=>
 apick v7 (
 aret (iv 2) σ R) (
 og (ibin .eql a0 (.val (.int .u8 39))) fun v9=>
 apick v9 (
 aret (iv 3) σ R) (
 aret (iv 0) σ R)))
def x115:Sx:=D .eql (Z 0) (.lit (.val (.int .u8 40))) (P 0 (.ret (Y 1)) (D .eql (Z 1) (.lit (.val (.int .u8 41))) (P 0 (.ret (Y 2)) (D .eql (Z 2) (.lit (.val (.int .u8 39))) (P 0 (.ret (Y 3)) (.ret (Y 0)))))))
theorem x115_ok:okF TT Tryz.f115 1 x115=true:=by decide+kernel
theorem s_spec_l2Mark_ok (h:s_spec_l2Mark a0 σ R):acall TP fn_spec_l2Mark [a0] σ R:=
 acall_okF (ρ:=[a0]) TT_ok Tryz.func115 rfl x115 x115_ok rfl h
def s_spec_l2End (a0 a1:AV) (σ:AH) (R:AEnd→AH→Prop):Prop:=
 lp (X:=Tup [0,1]) (fun R1 y1 σ=>
 jn (X:=Tup [0,1,33]) (fun x2 σ=>
 apick x2.2.2.1 (
 og (ibin .add x2.2.1 (iv 1)) fun v35=>
 R1 (x2.1,v35,()) σ) (
 aret x2.2.1 σ R)) fun k2=>
 og (lenStr y1.1) fun v7=>
 og (ibin .lss y1.2.1 v7) fun v8=>
 og (gval v8 true false (some y1.1)) fun v10=>
 og (gval v8 true false (some y1.2.1)) fun v11=>
 og (gval v8 true false (idxStr v10 v11)) fun v12=>
 og (gval v8 true false (ibin .neq v12 (.val (.int .u8 32)))) fun v13=>
 og (pickV v8 v13 (.val (.bool false))) fun v14=>
 og (gval v14 true false (some y1.1)) fun v16=>
 og (gval v14 true false (some y1.2.1)) fun v17=>
 og (gval v14 true false (idxStr v16 v17)) fun v18=>
 og (gval v14 true false (ibin .neq v18 (.val (.int .u8 10)))) fun v19=>
 og (pickV v14 v19 (.val (.bool false))) fun v20=>
 og (gval v20 true false (some y1.1)) fun v22=>
 og (gval v20 true false (some y1.2.1)) fun v23=>
 og (gval v20 true false (idxStr v22 v23)) fun v24=>
 og (gval v20 true false (ibin .neq v24 (.val (.int .u8 59)))) fun v25=>
 og (pickV v20 v25 (.val (.bool false))) fun v26=>
 og (gval v26 true false (some y1.1)) fun v28=>
 og (gval v26 true false (some y1.2.1)) fun v29=>
 og (gval v26 true false (idxStr v28 v29)) fun v30=>
 gpick v26 (
 acall TP fn_spec_l2Mark [v30] σ (onr (fun v31 σ=>
 og (ibin .eql v31 (iv 0)) fun v32=>
 k2 (y1.1,y1.2.1,v32,()) σ) (pn R))) (
 k2 (y1.1,y1.2.1,(.val (.bool false)),()) σ) (False)) (a0,a1,()) σ
def x116:Sx:= .lp [0,1] (.jn 97 [0,1,33] (P 2 (D .add (Z 1) (Y 1) (.jump 0 [(Z 1),(Z 0)])) (.ret (Z 1))) (Q (.lenStr (Z 0)) (D .lss (Z 2) (Z 0) (H 0 (.ret (Z 2)) (H 1 (.ret (Z 4)) (H 2 (.idxStr (Z 1) (Z 0)) (H 3 (B .neq (Z 0) (.lit (.val (.int .u8 32)))) (Q (.pickV (Z 4) (Z 0) (.lit (.val (.bool false)))) (H 0 (.ret (Z 7)) (H 1 (.ret (Z 9)) (H 2 (.idxStr (Z 1) (Z 0)) (H 3 (B .neq (Z 0) (.lit (.val (.int .u8 10)))) (Q (.pickV (Z 4) (Z 0) (.lit (.val (.bool false)))) (H 0 (.ret (Z 12)) (H 1 (.ret (Z 14)) (H 2 (.idxStr (Z 1) (Z 0)) (H 3 (B .neq (Z 0) (.lit (.val (.int .u8 59)))) (Q (.pickV (Z 4) (Z 0) (.lit (.val (.bool false)))) (H 0 (.ret (Z 17)) (H 1 (.ret (Z 19)) (H 2 (.idxStr (Z 1) (Z 0)) (.gpick (Z 3) (.call 115 [(Z 0)] (D .eql (Z 0) (Y 0) (.jump 0 [(Z 22),(Z 23),(Z 0)]))) (.jump 0 [(Z 20),(Z 21),(.lit (.val (.bool false)))]) (.no))))))))))))))))))))))) [(Z 1),(Z 0)]
theorem x116_ok:okF TT Tryz.f116 2 x116=true:=by decide+kernel
theorem s_spec_l2End_ok (h:s_spec_l2End a0 a1 σ R):acall TP fn_spec_l2End [a0,a1] σ R:=
 acall_okF (ρ:=[a1,a0]) TT_ok Tryz.func116 rfl x116 x116_ok rfl h
def s_spec_l2Word (a0:AV) (σ:AH) (R:AEnd→AH→Prop):Prop:=
 new [(iv 0),(iv 0),(str ⟨#[]⟩)] σ fun v2 σ=>
 acall TP fn_spec_l1Parse [a0] σ (onr (fun v8 σ=>
 og (aext v8 0) fun v9=>
 og (aext v8 1) fun v10=>
 apick v10 (
 og (bld [(iv 0),(iv 0),(str ⟨#[]⟩)] [(0,1),(1,1),(2,1)] [(0,(iv 4)),(1,v9)]) fun v13=>
 sto 3 v2 v13 σ fun σ=>
 og (lodA 3 v2 σ) fun r2=>
 aret (.tup [r2,(.val (.bool true))]) σ R) (
 og (sbin .eql a0 (.val (.string ⟨#[35,116]⟩))) fun v15=>
 apick v15 (
 og (bld [(iv 0),(iv 0),(str ⟨#[]⟩)] [(0,1),(1,1),(2,1)] [(0,(iv 5)),(1,(iv 1))]) fun v16=>
 sto 3 v2 v16 σ fun σ=>
 og (lodA 3 v2 σ) fun r2=>
 aret (.tup [r2,(.val (.bool true))]) σ R) (
 og (sbin .eql a0 (.val (.string ⟨#[35,102]⟩))) fun v18=>
 apick v18 (
 og (bld [(iv 0),(iv 0),(str ⟨#[]⟩)] [(0,1),(1,1),(2,1)] [(0,(iv 5))]) fun v19=>
 sto 3 v2 v19 σ fun σ=>
 og (lodA 3 v2 σ) fun r2=>
 aret (.tup [r2,(.val (.bool true))]) σ R) (
 og (bld [(iv 0),(iv 0),(str ⟨#[]⟩)] [(0,1),(1,1),(2,1)] [(0,(iv 6)),(2,a0)]) fun v21=>
 acall TP fn_spec_l2Sym [a0] σ (onr (fun v23 σ=>
 sto 3 v2 v21 σ fun σ=>
 og (lodA 3 v2 σ) fun r2=>
 aret (.tup [r2,v23]) σ R) (pn R)))))) (pn R))
def x117:Sx:= .new [(iv 0),(iv 0),(str ⟨#[]⟩)] (.call 148 [(Z 1)] (Q (.aext (Z 0) 0) (Q (.aext (Z 1) 1) (P 0 (Q (.bld [(iv 0),(iv 0),(str ⟨#[]⟩)] [(0,1),(1,1),(2,1)] [(0,(Y 4)),(1,(Z 1))]) (.sto 3 (Z 4) (Z 0) (Q (.lodA 3 (Z 4)) (.rets [(Z 0),(.lit (.val (.bool true)))])))) (Q (.sbin .eql (Z 4) (.lit (.val (.string ⟨#[35,116]⟩)))) (P 0 (Q (.bld [(iv 0),(iv 0),(str ⟨#[]⟩)] [(0,1),(1,1),(2,1)] [(0,(Y 5)),(1,(Y 1))]) (.sto 3 (Z 5) (Z 0) (Q (.lodA 3 (Z 5)) (.rets [(Z 0),(.lit (.val (.bool true)))])))) (Q (.sbin .eql (Z 5) (.lit (.val (.string ⟨#[35,102]⟩)))) (P 0 (Q (.bld [(iv 0),(iv 0),(str ⟨#[]⟩)] [(0,1),(1,1),(2,1)] [(0,(Y 5))]) (.sto 3 (Z 6) (Z 0) (Q (.lodA 3 (Z 6)) (.rets [(Z 0),(.lit (.val (.bool true)))])))) (Q (.bld [(iv 0),(iv 0),(str ⟨#[]⟩)] [(0,1),(1,1),(2,1)] [(0,(Y 6)),(2,(Z 6))]) (.call 69 [(Z 7)] (.sto 3 (Z 7) (Z 1) (Q (.lodA 3 (Z 7)) (.rets [(Z 0),(Z 1)])))))))))))))
theorem x117_ok:okF TT Tryz.f117 1 x117=true:=by decide+kernel
theorem s_spec_l2Word_ok (h:s_spec_l2Word a0 σ R):acall TP fn_spec_l2Word [a0] σ R:=
 acall_okF (ρ:=[a0]) TT_ok Tryz.func117 rfl x117 x117_ok rfl h
def s_spec_l3Begin (a0 a1:AV) (σ:AH) (R:AEnd→AH→Prop):Prop:=
 og (bld [(iv 0),(iv 0),(iv 0),(str ⟨#[]⟩)] [(0,1),(1,1),(2,1),(3,1)] [(0,(iv 4))]) fun v7=>
 acall TP fn_spec_l3Put [a0,v7] σ (onr (fun v8 σ=>
 og (ibin .neq v8 (iv 0)) fun v10=>
 apick v10 (
 aret v8 σ R) (
 og (anil a0) fun v14=>
 og (fldA 1 v14) fun v15=>
 og (lod v15 σ) fun v16=>
 og (anil a0) fun v18=>
 og (fldA 0 v18) fun v19=>
 og (lod v19 σ) fun v20=>
 og (lenS v20) fun v21=>
 og (ibin .sub v21 (iv 1)) fun v22=>
 og (bslR 1 [(iv 0)] 1 [(0,v22)]) fun v23=>
 app 1 v16 v23 σ fun v24 σ=>
 (True)∧
 og (anil a0) fun v25=>
 og (fldA 1 v25) fun v26=>
 sto 1 v26 v24 σ fun σ=>
 (True)∧
 og (anil a0) fun v29=>
 og (fldA 2 v29) fun v30=>
 og (lod v30 σ) fun v31=>
 bsl 1 [(.val (.bool false))] 1 [(0,a1)] σ fun v33 σ=>
 app 1 v31 v33 σ fun v34 σ=>
 og (anil a0) fun v35=>
 og (fldA 2 v35) fun v36=>
 sto 1 v36 v34 σ fun σ=>
 apick a1 (
 og (bld [(iv 0),(iv 0),(iv 0),(str ⟨#[]⟩)] [(0,1),(1,1),(2,1),(3,1)] [(0,(iv 3)),(3,(.val (.string ⟨#[113,117,111,116,101]⟩)))]) fun v39=>
 acall TP fn_spec_l3Put [a0,v39] σ (onr (fun v40 σ=>
 aret v40 σ R) (pn R))) (
 aret (iv 0) σ R))) (pn R))
def x118:Sx:=Q (.bld [(iv 0),(iv 0),(iv 0),(str ⟨#[]⟩)] [(0,1),(1,1),(2,1),(3,1)] [(0,(Y 4))]) (.call 120 [(Z 2),(Z 0)] (D .neq (Z 0) (Y 0) (P 0 (.ret (Z 1)) (.ord [0,1,2,3,4,5,6,7,8,9,10,11,12,13,14,15] [0,0,2,6,14,0,32,96,224,480,992,2016,4094,8191,16383,32767] (Q (A 4) (Q (F 1 0) (M 0 (Q (A 7) (Q (F 0 0) (M 0 (O 0 (D .sub (Z 0) (Y 1) (Q (.bslR 1 [(iv 0)] 1 [(0,(Z 0))]) (.app 1 (Z 6) (Z 0) (.wat [] (Q (A 14) (Q (F 1 0) (.sto 1 (Z 0) (Z 2) (.wat [] (Q (A 16) (Q (F 2 0) (M 0 (.bsl 1 [(.val (.bool false))] 1 [(0,(Z 18))] (.app 1 (Z 1) (Z 0) (Q (A 21) (Q (F 2 0) (.sto 1 (Z 0) (Z 2) (P 22 (Q (.bld [(iv 0),(iv 0),(iv 0),(str ⟨#[]⟩)] [(0,1),(1,1),(2,1),(3,1)] [(0,(Y 3)),(3,(.lit (.val (.string ⟨#[113,117,111,116,101]⟩))))]) (.call 120 [(Z 24),(Z 0)] (.ret (Z 0)))) (.ret (Y 0))))))))))))))))))))))))))))))
theorem x118_ok:okF TT Tryz.f118 2 x118=true:=by decide+kernel
theorem s_spec_l3Begin_ok (h:s_spec_l3Begin a0 a1 σ R):acall TP fn_spec_l3Begin [a0,a1] σ R:=
 acall_okF (ρ:=[a1,a0]) TT_ok Tryz.func118 rfl x118 x118_ok rfl h
def s_spec_l3Whole (a0:AV) (σ:AH) (R:AEnd→AH→Prop):Prop:=
 lp (X:=Tup [0]) (fun R1 y1 σ=>
 og (anil y1.1) fun v3=>
 og (fldA 1 v3) fun v4=>
 og (lod v4 σ) fun v5=>
 og (lenS v5) fun v6=>
 og (ibin .gtr v6 (iv 0)) fun v7=>
 og (gval v7 true false (some y1.1)) fun v9=>
 og (gval v7 true false (anil v9)) fun v10=>
 og (gval v7 true false (fldA 2 v10)) fun v11=>
 og (gval v7 true false (lod v11 σ)) fun v12=>
 og (gval v7 true false (some y1.1)) fun v13=>
 og (gval v7 true false (anil v13)) fun v14=>
 og (gval v7 true false (fldA 2 v14)) fun v15=>
 og (gval v7 true false (lod v15 σ)) fun v16=>
 og (gval v7 true false (lenS v16)) fun v17=>
 og (gval v7 true false (ibin .sub v17 (iv 1))) fun v18=>
 og (gval v7 true false (idx 1 v12 v18 σ)) fun v19=>
 og (gval v7 true false (lod v19 σ)) fun v20=>
 og (pickV v7 v20 (.val (.bool false))) fun v21=>
 apick v21 (
 og (anil y1.1) fun v24=>
 og (fldA 1 v24) fun v25=>
 og (lod v25 σ) fun v26=>
 og (anil y1.1) fun v28=>
 og (fldA 1 v28) fun v29=>
 og (lod v29 σ) fun v30=>
 og (lenS v30) fun v31=>
 og (ibin .sub v31 (iv 1)) fun v32=>
 og (slc 1 v26 none (some v32) none σ) fun v33=>
 og (anil y1.1) fun v34=>
 og (fldA 1 v34) fun v35=>
 sto 1 v35 v33 σ fun σ=>
 (True)∧
 og (anil y1.1) fun v38=>
 og (fldA 2 v38) fun v39=>
 og (lod v39 σ) fun v40=>
 og (anil y1.1) fun v42=>
 og (fldA 2 v42) fun v43=>
 og (lod v43 σ) fun v44=>
 og (lenS v44) fun v45=>
 og (ibin .sub v45 (iv 1)) fun v46=>
 og (slc 1 v40 none (some v46) none σ) fun v47=>
 og (anil y1.1) fun v48=>
 og (fldA 2 v48) fun v49=>
 sto 1 v49 v47 σ fun σ=>
 (True)∧
 R1 (y1.1,()) σ) (
 aret (.tup []) σ R)) (a0,()) σ
def x119:Sx:= .lp [0] (.ord [0,1,2,3,4,5,6,7,8,9,10,11,12,13,14,15,16,17,18,19] [0,1,3,7,15,31,63,127,255,511,1023,127,2175,6271,14463,30847,63615,131071,262143,524287] (Q (A 0) (Q (F 1 0) (M 0 (O 0 (D .gtr (Z 0) (Y 0) (H 0 (.ret (Z 5)) (H 1 (A 0) (H 2 (F 2 0) (H 3 (L 0) (H 4 (.ret (Z 9)) (H 5 (A 0) (H 6 (F 2 0) (H 7 (L 0) (H 8 (N 0) (H 9 (B .sub (Z 0) (Y 1)) (H 10 (I 1 6 0) (H 11 (L 0) (Q (.pickV (Z 12) (Z 0) (.lit (.val (.bool false)))) (P 0 (.ord [0,1,2,3,4,5,6,7,8,9,10,11,12,13,14] [0,0,2,6,14,0,32,96,224,480,992,2046,4095,8191,16383] (Q (A 18) (Q (F 1 0) (M 0 (Q (A 21) (Q (F 1 0) (M 0 (O 0 (D .sub (Z 0) (Y 1) (Q (.slc 1 (Z 5) none (some (Z 0)) none) (Q (A 27) (Q (F 1 0) (.sto 1 (Z 0) (Z 2) (.wat [] (.ord [0,1,2,3,4,5,6,7,8,9,10,11,12,13,14] [0,0,2,6,14,0,32,96,224,480,992,2046,4095,8191,16383] (Q (A 29) (Q (F 2 0) (M 0 (Q (A 32) (Q (F 2 0) (M 0 (O 0 (D .sub (Z 0) (Y 1) (Q (.slc 1 (Z 5) none (some (Z 0)) none) (Q (A 38) (Q (F 2 0) (.sto 1 (Z 0) (Z 2) (.wat [] (.jump 0 [(Z 40)]))))))))))))))))))))))))))))) (.rets []))))))))))))))))))))) [(Z 0)]
theorem x119_ok:okF TT Tryz.f119 1 x119=true:=by decide+kernel
theorem s_spec_l3Whole_ok (h:s_spec_l3Whole a0 σ R):acall TP fn_spec_l3Whole [a0] σ R:=
 acall_okF (ρ:=[a0]) TT_ok Tryz.func119 rfl x119 x119_ok rfl h
def s_spec_l3Put (a0 a1:AV) (σ:AH) (R:AEnd→AH→Prop):Prop:=
 abox a1 σ fun v3 σ=>
 og (anil a0) fun v7=>
 og (fldA 0 v7) fun v8=>
 og (lod v8 σ) fun v9=>
 og (lenS v9) fun v10=>
 og (ibin .geq v10 (iv 80)) fun v11=>
 og (gval v11 false false (some a0)) fun v13=>
 og (gval v11 false false (anil v13)) fun v14=>
 og (gval v11 false false (fldA 1 v14)) fun v15=>
 og (gval v11 false false (lod v15 σ)) fun v16=>
 og (gval v11 false false (lenS v16)) fun v17=>
 og (gval v11 false false (ibin .geq v17 (iv 12))) fun v18=>
 og (pickV v11 (.val (.bool true)) v18) fun v19=>
 apick v19 (
 aret (iv 2) σ R) (
 og (fldA 1 v3) fun v20=>
 sto 1 v20 (iv (-1)) σ fun σ=>
 jn (X:=Tup [0,3]) (fun x1 σ=>
 frz x1.2.1 σ fun f3 σ=>
 og (anil x1.1) fun v39=>
 og (fldA 0 v39) fun v40=>
 og (lod v40 σ) fun v41=>
 og (lodA 4 f3 σ) fun v42=>
 og (bslR 4 [(iv 0),(iv 0),(iv 0),(str ⟨#[]⟩)] 1 [(0,v42)]) fun v43=>
 app 4 v41 v43 σ fun v44 σ=>
 (True)∧
 og (anil x1.1) fun v45=>
 og (fldA 0 v45) fun v46=>
 sto 1 v46 v44 σ fun σ=>
 (True)∧
 aret (iv 0) σ R) fun k1=>
 og (anil a0) fun v22=>
 og (fldA 1 v22) fun v23=>
 og (lod v23 σ) fun v24=>
 og (lenS v24) fun v25=>
 og (ibin .gtr v25 (iv 0)) fun v27=>
 apick v27 (
 og (anil a0) fun v29=>
 og (fldA 1 v29) fun v30=>
 og (lod v30 σ) fun v31=>
 og (ibin .sub v25 (iv 1)) fun v33=>
 og (idx 1 v31 v33 σ) fun v34=>
 og (lod v34 σ) fun v35=>
 og (fldA 1 v3) fun v36=>
 sto 1 v36 v35 σ fun σ=>
 k1 (a0,v3,()) σ) (
 k1 (a0,v3,()) σ))
def x120:Sx:= .box (Z 0) (Q (A 2) (Q (F 0 0) (M 0 (O 0 (D .geq (Z 0) (Y 80) (G 0 (.ret (Z 7)) (G 1 (A 0) (G 2 (F 1 0) (G 3 (L 0) (G 4 (N 0) (G 5 (B .geq (Z 0) (Y 12)) (Q (.pickV (Z 6) (.lit (.val (.bool true))) (Z 0)) (P 0 (.ret (Y 2)) (Q (F 1 12) (.sto 1 (Z 0) (Y (-1)) (.jn 31 [0,3] (.frz 0 (Z 1) (.ord [0,1,2,3,4,5,6,7,8,9,10] [0,0,2,6,14,0,32,126,255,511,1023] (Q (A 1) (Q (F 0 0) (M 0 (Q (.lodA 4 (Z 3)) (Q (.bslR 4 [(iv 0),(iv 0),(iv 0),(str ⟨#[]⟩)] 1 [(0,(Z 0))]) (.app 4 (Z 2) (Z 0) (.wat [] (Q (A 7) (Q (F 0 0) (.sto 1 (Z 0) (Z 2) (.wat [] (.ret (Y 0))))))))))))))) (Q (A 15) (Q (F 1 0) (M 0 (O 0 (D .gtr (Z 0) (Y 0) (P 0 (Q (A 20) (Q (F 1 0) (M 0 (D .sub (Z 4) (Y 1) (J 1 1 0 (M 0 (Q (F 1 24) (.sto 1 (Z 0) (Z 1) (.jump 0 [(Z 27),(Z 25)]))))))))) (.jump 0 [(Z 20),(Z 18)])))))))))))))))))))))))
theorem x120_ok:okF TT Tryz.f120 2 x120=true:=by decide+kernel
theorem s_spec_l3Put_ok (h:s_spec_l3Put a0 a1 σ R):acall TP fn_spec_l3Put [a0,a1] σ R:=
 acall_okF (ρ:=[a1,a0]) TT_ok Tryz.func120 rfl x120 x120_ok rfl h
def s_spec_l2Byte (a0:AV) (σ:AH) (R:AEnd→AH→Prop):Prop:=
 og (ibin .geq a0 (.val (.int .u8 97))) fun v6=>
 og (gval v6 true false (some a0)) fun v8=>
 og (gval v6 true false (ibin .leq v8 (.val (.int .u8 122)))) fun v9=>
 og (pickV v6 v9 (.val (.bool false))) fun v10=>
 apick v10 (
 aret (.val (.bool true)) σ R) (
 lp (X:=Tup [0,3,4]) (fun R1 y1 σ=>
 og (lenStr y1.2.1) fun v13=>
 og (ibin .lss y1.2.2.1 v13) fun v14=>
 apick v14 (
 og (idxStr y1.2.1 y1.2.2.1) fun v19=>
 og (ibin .eql v19 y1.1) fun v21=>
 apick v21 (
 aret (.val (.bool true)) σ R) (
 og (ibin .add y1.2.2.1 (iv 1)) fun v16=>
 R1 (y1.1,y1.2.1,v16,()) σ)) (
 aret (.val (.bool false)) σ R)) (a0,(.val (.string ⟨#[43,45,42,47,60,61,63,33]⟩)),(iv 0),()) σ)
def x121:Sx:=D .geq (Z 0) (.lit (.val (.int .u8 97))) (H 0 (.ret (Z 1)) (H 1 (B .leq (Z 0) (.lit (.val (.int .u8 122)))) (Q (.pickV (Z 2) (Z 0) (.lit (.val (.bool false)))) (P 0 (.ret (.lit (.val (.bool true)))) (.lp [0,3,4] (Q (.lenStr (Z 1)) (D .lss (Z 3) (Z 0) (P 0 (Q (.idxStr (Z 3) (Z 4)) (D .eql (Z 0) (Z 3) (P 0 (.ret (.lit (.val (.bool true)))) (D .add (Z 6) (Y 1) (.jump 0 [(Z 5),(Z 6),(Z 0)]))))) (.ret (.lit (.val (.bool false))))))) [(Z 4),(.lit (.val (.string ⟨#[43,45,42,47,60,61,63,33]⟩))),(Y 0)])))))
theorem x121_ok:okF TT Tryz.f121 1 x121=true:=by decide+kernel
theorem s_spec_l2Byte_ok (h:s_spec_l2Byte a0 σ R):acall TP fn_spec_l2Byte [a0] σ R:=
 acall_okF (ρ:=[a0]) TT_ok Tryz.func121 rfl x121 x121_ok rfl h
def s_spec_l4Lambda (a0 a1 a2 a3:AV) (σ:AH) (R:AEnd→AH→Prop):Prop:=
 og (lenS a1) fun v16=>
 og (ibin .neq v16 (iv 3)) fun v17=>
 og (gval v17 false false (some a0)) fun v19=>
 og (gval v17 false false (anil v19)) fun v20=>
 og (gval v17 false false (fldA 0 v20)) fun v21=>
 og (gval v17 false false (lod v21 σ)) fun v22=>
 og (gval v17 false false (some a1)) fun v23=>
 og (gval v17 false false (idx 1 v23 (iv 1) σ)) fun v24=>
 og (gval v17 false false (lod v24 σ)) fun v25=>
 og (gval v17 false false (idx 4 v22 v25 σ)) fun v26=>
 og (gval v17 false false (fldA 0 v26)) fun v27=>
 og (gval v17 false false (lod v27 σ)) fun v28=>
 og (gval v17 false false (ibin .neq v28 (iv 4))) fun v29=>
 og (pickV v17 (.val (.bool true)) v29) fun v30=>
 apick v30 (
 aret (iv 1) σ R) (
 og (anil a0) fun v32=>
 og (fldA 0 v32) fun v33=>
 og (lod v33 σ) fun v34=>
 og (idx 1 a1 (iv 1) σ) fun v36=>
 og (lod v36 σ) fun v37=>
 acall TP fn_spec_l3Parts [v34,v37] σ (onr (fun v38 σ=>
 (True)∧
 bsl 1 [(str ⟨#[]⟩)] 0 [] σ fun v39 σ=>
 lp (X:=Tup [0,1,2,3,9,10,11]) (fun R1 y1 σ=>
 og (lenS y1.2.2.2.2.1) fun v42=>
 og (ibin .lss y1.2.2.2.2.2.2.1 v42) fun v43=>
 apick v43 (
 og (idx 1 y1.2.2.2.2.1 y1.2.2.2.2.2.2.1 σ) fun v50=>
 og (lod v50 σ) fun v51=>
 acall TP fn_spec_l4Param [y1.1,v51,y1.2.2.2.2.2.1] σ (onr (fun v53 σ=>
 og (aext v53 0) fun v54=>
 og (aext v53 1) fun v55=>
 og (ibin .neq v55 (iv 0)) fun v57=>
 apick v57 (
 aret v55 σ R) (
 bsl 1 [(str ⟨#[]⟩)] 1 [(0,v54)] σ fun v61 σ=>
 app 1 y1.2.2.2.2.2.1 v61 σ fun v62 σ=>
 og (ibin .add y1.2.2.2.2.2.2.1 (iv 1)) fun v45=>
 R1 (y1.1,y1.2.1,y1.2.2.1,y1.2.2.2.1,y1.2.2.2.2.1,v62,v45,()) σ)) (pn R))) (
 og (lenS y1.2.2.2.2.2.1) fun v64=>
 og (ibin .gtr v64 (iv 3)) fun v65=>
 apick v65 (
 aret (iv 2) σ R) (
 og (lenS y1.2.2.2.2.2.1) fun v69=>
 og (bld [(iv 0),(iv 0),(iv 0),(iv 0),(str ⟨#[]⟩),nilS] [(0,1),(1,1),(2,1),(3,1),(4,1),(5,1)] [(0,(iv 5)),(1,y1.2.2.1),(2,v69)]) fun v70=>
 acall TP fn_spec_l4Put [y1.1,v70] σ (onr (fun v71 σ=>
 og (idx 1 y1.2.1 (iv 2) σ) fun v74=>
 og (lod v74 σ) fun v75=>
 acall TP fn_spec_l4Bind [y1.1,y1.2.2.2.2.2.1,y1.2.2.2.1] σ (onr (fun v80 σ=>
 (lod v74 σ=some v75∧idx 1 y1.2.1 (iv 2) σ=some v74∧True)∧
 acall TP fn_spec_l4Expand [y1.1,v75,v71,v80] σ (onr (fun v81 σ=>
 (True)∧
 aret v81 σ R) (pn R))) (pn R))) (pn R))))) (a0,a1,a2,a3,v38,v39,(iv 0),()) σ) (pn R)))
def x122:Sx:= .ord [0,1,2,3,4,5,6,7,8,9,10,11,12,13,14,15] [0,1,3,7,15,31,63,127,15,271,783,2047,4095,8191,16383,32767] (O 2 (D .neq (Z 0) (Y 3) (G 0 (.ret (Z 5)) (G 1 (A 0) (G 2 (F 0 0) (G 3 (L 0) (G 4 (.ret (Z 8)) (G 5 (.idx 1 (Z 0) (Y 1)) (G 6 (L 0) (G 7 (I 4 3 0) (G 8 (F 0 0) (G 9 (L 0) (G 10 (B .neq (Z 0) (Y 4)) (Q (.pickV (Z 11) (.lit (.val (.bool true))) (Z 0)) (P 0 (.ret (Y 1)) (.ord [0,1,2,3,4,5,6,7,8] [0,1,3,7,0,16,48,127,255] (Q (A 17) (Q (F 0 0) (M 0 (Q (.idx 1 (Z 19) (Y 1)) (M 0 (.call 76 [(Z 2),(Z 0)] (.wat [] (.bsl 1 [(str ⟨#[]⟩)] 0 [] (.lp [0,1,2,3,9,10,11] (O 4 (D .lss (Z 7) (Z 0) (P 0 (J 1 6 8 (M 0 (.call 149 [(Z 4),(Z 0),(Z 9)] (Q (.aext (Z 0) 0) (Q (.aext (Z 1) 1) (D .neq (Z 0) (Y 0) (P 0 (.ret (Z 1)) (.bsl 1 [(str ⟨#[]⟩)] 1 [(0,(Z 2))] (.app 1 (Z 14) (Z 0) (D .add (Z 16) (Y 1) (.jump 0 [(Z 11),(Z 12),(Z 13),(Z 14),(Z 15),(Z 1),(Z 0)]))))))))))) (O 7 (D .gtr (Z 0) (Y 3) (P 0 (.ret (Y 2)) (O 9 (Q (.bld [(iv 0),(iv 0),(iv 0),(iv 0),(str ⟨#[]⟩),nilS] [(0,1),(1,1),(2,1),(3,1),(4,1),(5,1)] [(0,(Y 5)),(1,(Z 7)),(2,(Z 0))]) (.call 72 [(Z 6),(Z 0)] (.ord [0,1,2,3,4,5,6,7,8,9,10] [0,0,2,6,0,0,0,0,224,511,1023] (Q (.idx 1 (Z 8) (Y 2)) (M 0 (.call 150 [(Z 9),(Z 14),(Z 12)] (.wat [⟨none,(.lod (Z 2)),(Z 1)⟩,⟨none,(.idx 1 (Z 11) (Y 2)),(Z 2)⟩] (.call 39 [(Z 10),(Z 1),(Z 3),(Z 0)] (.wat [] (.ret (Z 0)))))))))))))))))) [(Z 24),(Z 23),(Z 22),(Z 21),(Z 1),(Z 0),(Y 0)])))))))))))))))))))))))))
theorem x122_ok:okF TT Tryz.f122 4 x122=true:=by decide+kernel
theorem s_spec_l4Lambda_ok (h:s_spec_l4Lambda a0 a1 a2 a3 σ R):acall TP fn_spec_l4Lambda [a0,a1,a2,a3] σ R:=
 acall_okF (ρ:=[a3,a2,a1,a0]) TT_ok Tryz.func122 rfl x122 x122_ok rfl h
def s_spec_l4Let (a0 a1 a2 a3:AV) (σ:AH) (R:AEnd→AH→Prop):Prop:=
 og (lenS a1) fun v20=>
 og (ibin .neq v20 (iv 3)) fun v21=>
 og (gval v21 false false (some a0)) fun v23=>
 og (gval v21 false false (anil v23)) fun v24=>
 og (gval v21 false false (fldA 0 v24)) fun v25=>
 og (gval v21 false false (lod v25 σ)) fun v26=>
 og (gval v21 false false (some a1)) fun v27=>
 og (gval v21 false false (idx 1 v27 (iv 1) σ)) fun v28=>
 og (gval v21 false false (lod v28 σ)) fun v29=>
 og (gval v21 false false (idx 4 v26 v29 σ)) fun v30=>
 og (gval v21 false false (fldA 0 v30)) fun v31=>
 og (gval v21 false false (lod v31 σ)) fun v32=>
 og (gval v21 false false (ibin .neq v32 (iv 4))) fun v33=>
 og (pickV v21 (.val (.bool true)) v33) fun v34=>
 apick v34 (
 aret (iv 1) σ R) (
 og (anil a0) fun v36=>
 og (fldA 0 v36) fun v37=>
 og (lod v37 σ) fun v38=>
 og (idx 1 a1 (iv 1) σ) fun v40=>
 og (lod v40 σ) fun v41=>
 acall TP fn_spec_l3Parts [v38,v41] σ (onr (fun v42 σ=>
 (True)∧
 bsl 1 [(str ⟨#[]⟩)] 0 [] σ fun v43 σ=>
 bsl 1 [(iv 0)] 0 [] σ fun v44 σ=>
 lp (X:=Tup [0,1,2,3,9,10,11,12]) (fun R1 y1 σ=>
 og (lenS y1.2.2.2.2.1) fun v47=>
 og (ibin .lss y1.2.2.2.2.2.2.2.1 v47) fun v48=>
 apick v48 (
 og (anil y1.1) fun v52=>
 og (fldA 0 v52) fun v53=>
 og (lod v53 σ) fun v54=>
 og (idx 1 y1.2.2.2.2.1 y1.2.2.2.2.2.2.2.1 σ) fun v57=>
 og (lod v57 σ) fun v58=>
 acall TP fn_spec_l3Parts [v54,v58] σ (onr (fun v59 σ=>
 (True)∧
 og (lenS v59) fun v61=>
 og (ibin .neq v61 (iv 2)) fun v62=>
 apick v62 (
 aret (iv 1) σ R) (
 og (idx 1 v59 (iv 0) σ) fun v66=>
 og (lod v66 σ) fun v67=>
 acall TP fn_spec_l4Param [y1.1,v67,y1.2.2.2.2.2.1] σ (onr (fun v69 σ=>
 og (aext v69 0) fun v70=>
 og (aext v69 1) fun v71=>
 og (ibin .neq v71 (iv 0)) fun v73=>
 apick v73 (
 aret v71 σ R) (
 bsl 1 [(str ⟨#[]⟩)] 1 [(0,v70)] σ fun v77 σ=>
 app 1 y1.2.2.2.2.2.1 v77 σ fun v78 σ=>
 og (idx 1 v59 (iv 1) σ) fun v81=>
 og (lod v81 σ) fun v82=>
 bsl 1 [(iv 0)] 1 [(0,v82)] σ fun v83 σ=>
 app 1 y1.2.2.2.2.2.2.1 v83 σ fun v84 σ=>
 og (ibin .add y1.2.2.2.2.2.2.2.1 (iv 1)) fun v50=>
 R1 (y1.1,y1.2.1,y1.2.2.1,y1.2.2.2.1,y1.2.2.2.2.1,v78,v84,v50,()) σ)) (pn R)))) (pn R))) (
 og (lenS y1.2.2.2.2.2.1) fun v86=>
 og (ibin .gtr v86 (iv 3)) fun v87=>
 apick v87 (
 aret (iv 2) σ R) (
 og (bld [(iv 0),(iv 0),(iv 0),(iv 0),(str ⟨#[]⟩),nilS] [(0,1),(1,1),(2,1),(3,1),(4,1),(5,1)] [(0,(iv 9)),(1,y1.2.2.1)]) fun v90=>
 acall TP fn_spec_l4Put [y1.1,v90] σ (onr (fun v91 σ=>
 og (lenS y1.2.2.2.2.2.1) fun v95=>
 og (bld [(iv 0),(iv 0),(iv 0),(iv 0),(str ⟨#[]⟩),nilS] [(0,1),(1,1),(2,1),(3,1),(4,1),(5,1)] [(0,(iv 5)),(1,v91),(2,v95)]) fun v96=>
 acall TP fn_spec_l4Put [y1.1,v96] σ (onr (fun v97 σ=>
 og (idx 1 y1.2.1 (iv 2) σ) fun v100=>
 og (lod v100 σ) fun v101=>
 acall TP fn_spec_l4Bind [y1.1,y1.2.2.2.2.2.1,y1.2.2.2.1] σ (onr (fun v106 σ=>
 (lod v100 σ=some v101∧idx 1 y1.2.1 (iv 2) σ=some v100∧True)∧
 acall TP fn_spec_l4Expand [y1.1,v101,v97,v106] σ (onr (fun v107 σ=>
 (True)∧
 og (ibin .neq v107 (iv 0)) fun v109=>
 apick v109 (
 aret v107 σ R) (
 acall TP fn_spec_l4All [y1.1,y1.2.2.2.2.2.2.1,v91,y1.2.2.2.1] σ (onr (fun v115 σ=>
 aret v115 σ R) (pn R)))) (pn R))) (pn R))) (pn R))) (pn R))))) (a0,a1,a2,a3,v42,v43,v44,(iv 0),()) σ) (pn R)))
def x123:Sx:= .ord [0,1,2,3,4,5,6,7,8,9,10,11,12,13,14,15] [0,1,3,7,15,31,63,127,15,271,783,2047,4095,8191,16383,32767] (O 2 (D .neq (Z 0) (Y 3) (G 0 (.ret (Z 5)) (G 1 (A 0) (G 2 (F 0 0) (G 3 (L 0) (G 4 (.ret (Z 8)) (G 5 (.idx 1 (Z 0) (Y 1)) (G 6 (L 0) (G 7 (I 4 3 0) (G 8 (F 0 0) (G 9 (L 0) (G 10 (B .neq (Z 0) (Y 4)) (Q (.pickV (Z 11) (.lit (.val (.bool true))) (Z 0)) (P 0 (.ret (Y 1)) (.ord [0,1,2,3,4,5,6,7,8] [0,1,3,7,0,16,48,127,255] (Q (A 17) (Q (F 0 0) (M 0 (Q (.idx 1 (Z 19) (Y 1)) (M 0 (.call 76 [(Z 2),(Z 0)] (.wat [] (.bsl 1 [(str ⟨#[]⟩)] 0 [] (.bsl 1 [(iv 0)] 0 [] (.lp [0,1,2,3,9,10,11,12] (O 4 (D .lss (Z 8) (Z 0) (P 0 (.ord [0,1,2,3,4,5,6,7,8,9] [0,1,3,7,0,0,48,112,255,511] (Q (A 2) (Q (F 0 0) (M 0 (J 1 9 12 (M 0 (.call 76 [(Z 2),(Z 0)] (.wat [] (O 0 (D .neq (Z 0) (Y 2) (P 0 (.ret (Y 1)) (Q (.idx 1 (Z 2) (Y 0)) (M 0 (.call 149 [(Z 12),(Z 0),(Z 17)] (Q (.aext (Z 0) 0) (Q (.aext (Z 1) 1) (D .neq (Z 0) (Y 0) (P 0 (.ret (Z 1)) (.bsl 1 [(str ⟨#[]⟩)] 1 [(0,(Z 2))] (.app 1 (Z 22) (Z 0) (Q (.idx 1 (Z 10) (Y 1)) (M 0 (.bsl 1 [(iv 0)] 1 [(0,(Z 0))] (.app 1 (Z 27) (Z 0) (D .add (Z 29) (Y 1) (.jump 0 [(Z 23),(Z 24),(Z 25),(Z 26),(Z 27),(Z 5),(Z 1),(Z 0)])))))))))))))))))))))))))) (O 7 (D .gtr (Z 0) (Y 3) (P 0 (.ret (Y 2)) (Q (.bld [(iv 0),(iv 0),(iv 0),(iv 0),(str ⟨#[]⟩),nilS] [(0,1),(1,1),(2,1),(3,1),(4,1),(5,1)] [(0,(Y 9)),(1,(Z 6))]) (.call 72 [(Z 5),(Z 0)] (O 11 (Q (.bld [(iv 0),(iv 0),(iv 0),(iv 0),(str ⟨#[]⟩),nilS] [(0,1),(1,1),(2,1),(3,1),(4,1),(5,1)] [(0,(Y 5)),(1,(Z 1)),(2,(Z 0))]) (.call 72 [(Z 8),(Z 0)] (.ord [0,1,2,3,4,5,6,7,8,9,10] [0,0,2,6,0,0,0,0,224,511,1023] (Q (.idx 1 (Z 10) (Y 2)) (M 0 (.call 150 [(Z 11),(Z 16),(Z 14)] (.wat [⟨none,(.lod (Z 2)),(Z 1)⟩,⟨none,(.idx 1 (Z 13) (Y 2)),(Z 2)⟩] (.call 39 [(Z 12),(Z 1),(Z 3),(Z 0)] (.wat [] (D .neq (Z 0) (Y 0) (P 0 (.ret (Z 1)) (.call 78 [(Z 14),(Z 20),(Z 8),(Z 17)] (.ret (Z 0))))))))))))))))))))))) [(Z 25),(Z 24),(Z 23),(Z 22),(Z 2),(Z 1),(Z 0),(Y 0)]))))))))))))))))))))))))))
theorem x123_ok:okF TT Tryz.f123 4 x123=true:=by decide+kernel
theorem s_spec_l4Let_ok (h:s_spec_l4Let a0 a1 a2 a3 σ R):acall TP fn_spec_l4Let [a0,a1,a2,a3] σ R:=
 acall_okF (ρ:=[a3,a2,a1,a0]) TT_ok Tryz.func123 rfl x123 x123_ok rfl h
def s_spec_l4Assign (a0 a1 a2 a3 a4:AV) (σ:AH) (R:AEnd→AH→Prop):Prop:=
 og (lenS a1) fun v17=>
 og (ibin .neq v17 (iv 3)) fun v18=>
 og (gval v18 false false (some a4)) fun v20=>
 og (gval v18 false false (ibin .eql v20 (iv 8))) fun v21=>
 og (gval v18 false false (some v21)) fun v22=>
 og (gval v22 true true (some a2)) fun v23=>
 og (gval v22 true true (ibin .neq v23 (iv (-1)))) fun v24=>
 og (gval v18 false false (pickV v22 v24 (.val (.bool false)))) fun v25=>
 og (pickV v18 (.val (.bool true)) v25) fun v26=>
 apick v26 (
 aret (iv 1) σ R) (
 og (idx 1 a1 (iv 1) σ) fun v30=>
 og (lod v30 σ) fun v31=>
 acall TP fn_spec_l4Param [a0,v31,nilS] σ (onr (fun v32 σ=>
 og (aext v32 0) fun v33=>
 og (aext v32 1) fun v34=>
 og (ibin .neq v34 (iv 0)) fun v36=>
 apick v36 (
 aret v34 σ R) (
 acall TP fn_spec_l4Find [a0,a3,v33] σ (onr (fun v42 σ=>
 og (aext v42 0) fun v43=>
 og (aext v42 1) fun v44=>
 og (aext v42 2) fun v45=>
 apick v45 (
 aret (iv 1) σ R) (
 og (idx 1 a1 (iv 2) σ) fun v49=>
 og (lod v49 σ) fun v50=>
 og (bld [(iv 0),(iv 0),(iv 0),(iv 0),(str ⟨#[]⟩),nilS] [(0,1),(1,1),(2,1),(3,1),(4,1),(5,1)] [(0,a4),(1,a2),(4,v33)]) fun v55=>
 acall TP fn_spec_l4Put [a0,v55] σ (onr (fun v56 σ=>
 (lod v49 σ=some v50∧idx 1 a1 (iv 2) σ=some v49∧True)∧
 acall TP fn_spec_l4Expand [a0,v50,v56,a3] σ (onr (fun v58 σ=>
 (True)∧
 aret v58 σ R) (pn R))) (pn R)))) (pn R)))) (pn R)))
def x124:Sx:=O 3 (D .neq (Z 0) (Y 3) (G 0 (.ret (Z 2)) (G 1 (B .eql (Z 0) (Y 8)) (G 2 (.ret (Z 0)) (.gog (Z 0) true true (.ret (Z 7)) (.gog (Z 1) true true (B .neq (Z 0) (Y (-1))) (G 5 (.pickV (Z 2) (Z 0) (.lit (.val (.bool false)))) (Q (.pickV (Z 6) (.lit (.val (.bool true))) (Z 0)) (P 0 (.ret (Y 1)) (Q (.idx 1 (Z 12) (Y 1)) (M 0 (.call 149 [(Z 15),(Z 0),(.lit nilS)] (Q (.aext (Z 0) 0) (Q (.aext (Z 1) 1) (D .neq (Z 0) (Y 0) (P 0 (.ret (Z 1)) (.call 75 [(Z 19),(Z 16),(Z 2)] (Q (.aext (Z 0) 0) (Q (.aext (Z 1) 1) (Q (.aext (Z 2) 2) (P 0 (.ret (Y 1)) (.ord [0,1,2,3,4,5,6,7,8,10,9,11,12] [0,0,2,6,0,0,0,0,224,496,0,2047,4095] (Q (.idx 1 (Z 22) (Y 2)) (M 0 (Q (.bld [(iv 0),(iv 0),(iv 0),(iv 0),(str ⟨#[]⟩),nilS] [(0,1),(1,1),(2,1),(3,1),(4,1),(5,1)] [(0,(Z 21)),(1,(Z 23)),(4,(Z 8))]) (.call 72 [(Z 26),(Z 0)] (.wat [⟨none,(.lod (Z 3)),(Z 2)⟩,⟨none,(.idx 1 (Z 26) (Y 2)),(Z 3)⟩] (.call 39 [(Z 27),(Z 2),(Z 0),(Z 24)] (.wat [] (.ret (Z 0)))))))))))))))))))))))))))))))
theorem x124_ok:okF TT Tryz.f124 5 x124=true:=by decide+kernel
theorem s_spec_l4Assign_ok (h:s_spec_l4Assign a0 a1 a2 a3 a4 σ R):acall TP fn_spec_l4Assign [a0,a1,a2,a3,a4] σ R:=
 acall_okF (ρ:=[a4,a3,a2,a1,a0]) TT_ok Tryz.func124 rfl x124 x124_ok rfl h
def s_spec_l4Around (a0 a1 a2:AV) (σ:AH) (R:AEnd→AH→Prop):Prop:=
 og (idx 6 a0 a1 σ) fun v10=>
 og (fldA 1 v10) fun v11=>
 og (lod v11 σ) fun v12=>
 lp (X:=Tup [0,2,7]) (fun R1 y1 σ=>
 og (ibin .geq y1.2.2.1 (iv 0)) fun v14=>
 apick v14 (
 jn (X:=Tup [0,2,7]) (fun x2 σ=>
 og (idx 6 x2.1 x2.2.2.1 σ) fun v28=>
 og (fldA 1 v28) fun v29=>
 og (lod v29 σ) fun v30=>
 R1 (x2.1,x2.2.1,v30,()) σ) fun k2=>
 og (idx 6 y1.1 y1.2.2.1 σ) fun v17=>
 og (fldA 0 v17) fun v18=>
 og (lod v18 σ) fun v19=>
 og (ibin .eql v19 (iv 5)) fun v20=>
 apick v20 (
 og (ibin .eql y1.2.1 (iv 0)) fun v22=>
 apick v22 (
 aret y1.2.2.1 σ R) (
 og (ibin .sub y1.2.1 (iv 1)) fun v25=>
 k2 (y1.1,v25,y1.2.2.1,()) σ)) (
 k2 (y1.1,y1.2.1,y1.2.2.1,()) σ)) (
 aret (iv (-1)) σ R)) (a0,a2,v12,()) σ
def x125:Sx:=J 6 2 1 (Q (F 1 0) (M 0 (.lp [0,2,7] (D .geq (Z 2) (Y 0) (P 0 (.jn 453 [0,2,7] (J 6 0 2 (Q (F 1 0) (M 0 (.jump 0 [(Z 3),(Z 4),(Z 0)])))) (J 6 1 3 (Q (F 0 0) (M 0 (D .eql (Z 0) (Y 5) (P 0 (D .eql (Z 6) (Y 0) (P 0 (.ret (Z 8)) (D .sub (Z 7) (Y 1) (.jump 0 [(Z 7),(Z 0),(Z 9)])))) (.jump 0 [(Z 5),(Z 6),(Z 7)]))))))) (.ret (Y (-1))))) [(Z 5),(Z 3),(Z 0)])))
theorem x125_ok:okF TT Tryz.f125 3 x125=true:=by decide+kernel
theorem s_spec_l4Around_ok (h:s_spec_l4Around a0 a1 a2 σ R):acall TP fn_spec_l4Around [a0,a1,a2] σ R:=
 acall_okF (ρ:=[a2,a1,a0]) TT_ok Tryz.func125 rfl x125 x125_ok rfl h
def s_strings_makeASCIISet (a0:AV) (σ:AH) (R:AEnd→AH→Prop):Prop:=
 new (List.replicate 256 (.val (.bool false))) σ fun v2 σ=>
 lp (X:=Tup [0,2,4]) (fun R1 y1 σ=>
 og (lenStr y1.1) fun v8=>
 og (ibin .lss y1.2.2.1 v8) fun v9=>
 apick v9 (
 og (idxStr y1.1 y1.2.2.1) fun v14=>
 og (ibin .geq v14 (.val (.int .u8 128))) fun v16=>
 apick v16 (
 og (lodA 256 y1.2.1 σ) fun v17=>
 sto 256 y1.2.1 v17 σ fun σ=>
 og (lodA 256 y1.2.1 σ) fun r2=>
 aret (.tup [r2,(.val (.bool false))]) σ R) (
 og (idxArr 256 1 y1.2.1 v14) fun v19=>
 sto 1 v19 (.val (.bool true)) σ fun σ=>
 og (ibin .add y1.2.2.1 (iv 1)) fun v11=>
 R1 (y1.1,y1.2.1,v11,()) σ)) (
 og (lodA 256 y1.2.1 σ) fun v20=>
 sto 256 y1.2.1 v20 σ fun σ=>
 og (lodA 256 y1.2.1 σ) fun r2=>
 aret (.tup [r2,(.val (.bool true))]) σ R)) (a0,v2,(iv 0),()) σ
def x130:Sx:= .new (List.replicate 256 (.val (.bool false))) (.lp [0,2,4] (Q (.lenStr (Z 0)) (D .lss (Z 3) (Z 0) (P 0 (Q (.idxStr (Z 2) (Z 4)) (D .geq (Z 0) (.lit (.val (.int .u8 128))) (P 0 (Q (.lodA 256 (Z 5)) (.sto 256 (Z 6) (Z 0) (Q (.lodA 256 (Z 6)) (.rets [(Z 0),(.lit (.val (.bool false)))])))) (Q (.idxArr 256 1 (Z 5) (Z 1)) (.sto 1 (Z 0) (.lit (.val (.bool true))) (D .add (Z 7) (Y 1) (.jump 0 [(Z 6),(Z 7),(Z 0)]))))))) (Q (.lodA 256 (Z 3)) (.sto 256 (Z 4) (Z 0) (Q (.lodA 256 (Z 4)) (.rets [(Z 0),(.lit (.val (.bool true)))]))))))) [(Z 1),(Z 0),(Y 0)])
theorem x130_ok:okF TT Tryz.f130 1 x130=true:=by decide+kernel
theorem s_strings_makeASCIISet_ok (h:s_strings_makeASCIISet a0 σ R):acall TP fn_strings_makeASCIISet [a0] σ R:=
 acall_okF (ρ:=[a0]) TT_ok Tryz.func130 rfl x130 x130_ok rfl h
def s_strings_asciiSet_contains (a0 a1:AV) (σ:AH) (R:AEnd→AH→Prop):Prop:=
 og (anil a0) fun v7=>
 og (idxArr 256 1 v7 a1) fun v8=>
 og (lod v8 σ) fun v9=>
 aret v9 σ R
def x131:Sx:=Q (A 1) (Q (.idxArr 256 1 (Z 0) (Z 1)) (M 0 (.ret (Z 0))))
theorem x131_ok:okF TT Tryz.f131 2 x131=true:=by decide+kernel
theorem s_strings_asciiSet_contains_ok (h:s_strings_asciiSet_contains a0 a1 σ R):acall TP fn_strings_asciiSet_contains [a0,a1] σ R:=
 acall_okF (ρ:=[a1,a0]) TT_ok Tryz.func131 rfl x131 x131_ok rfl h
def s_impl_SymFault (a0:AV) (σ:AH) (R:AEnd→AH→Prop):Prop:=
 jn (X:=Tup [11]) (fun x1 σ=>
 apick x1.1 (
 aret (iv 5) σ R) (
 aret (iv 0) σ R)) fun k1=>
 og (lenStr a0) fun v4=>
 acall TP fn_impl_in [v4,(iv 1),(iv 12)] σ (onr (fun v5 σ=>
 og (aun .not v5) fun v6=>
 og (gval v6 false false (some a0)) fun v8=>
 gpick v6 (
 k1 ((.val (.bool true)),()) σ) (
 acall TP fn_strings_Trim [v8,(.val (.string ⟨#[97,98,99,100,101,102,103,104,105,106,107,108,109,110,111,112,113,114,115,116,117,118,119,120,121,122,43,45,42,47,60,61,63,33]⟩))] σ (onr (fun v9 σ=>
 og (sbin .neq v9 (str ⟨#[]⟩)) fun v10=>
 k1 (v10,()) σ) (pn R))) (False)) (pn R))
def x133:Sx:= .jn 13 [11] (P 0 (.ret (Y 5)) (.ret (Y 0))) (Q (.lenStr (Z 0)) (.call 49 [(Z 0),(Y 1),(Y 12)] (Q (.aun .not (Z 0)) (G 0 (.ret (Z 3)) (.gpick (Z 1) (.jump 0 [(.lit (.val (.bool true)))]) (.call 158 [(Z 0),(.lit (.val (.string ⟨#[97,98,99,100,101,102,103,104,105,106,107,108,109,110,111,112,113,114,115,116,117,118,119,120,121,122,43,45,42,47,60,61,63,33]⟩)))] (Q (.sbin .neq (Z 0) (.lit (str ⟨#[]⟩))) (.jump 0 [(Z 0)]))) (.no))))))
theorem x133_ok:okF TT Tryz.f133 1 x133=true:=by decide+kernel
theorem s_impl_SymFault_ok (h:s_impl_SymFault a0 σ R):acall TP fn_impl_SymFault [a0] σ R:=
 acall_okF (ρ:=[a0]) TT_ok Tryz.func133 rfl x133 x133_ok rfl h
def s_impl_kindFault (a0 a1 a2 a3 a4 a5:AV) (σ:AH) (R:AEnd→AH→Prop):Prop:=
 jn (X:=Tup []) (fun x1 σ=>
 aret (iv 0) σ R) fun k1=>
 og (ibin .eql a0 a1) fun v16=>
 apick v16 (
 acall TP fn_impl_NumFault [a4] σ (onr (fun v18 σ=>
 aret v18 σ R) (pn R))) (
 og (ibin .eql a0 a3) fun v21=>
 apick v21 (
 acall TP fn_impl_in [a4,(iv 0),(iv 1)] σ (onr (fun v23 σ=>
 og (aun .not v23) fun v24=>
 apick v24 (
 aret (iv 3) σ R) (
 k1 (()) σ)) (pn R))) (
 og (ibin .eql a0 a2) fun v27=>
 apick v27 (
 acall TP fn_impl_SymFault [a5] σ (onr (fun v29 σ=>
 aret v29 σ R) (pn R))) (
 k1 (()) σ)))
def x134:Sx:= .jn 7 [] (.ret (Y 0)) (D .eql (Z 5) (Z 4) (P 0 (.call 157 [(Z 2)] (.ret (Z 0))) (D .eql (Z 6) (Z 3) (P 0 (.call 49 [(Z 3),(Y 0),(Y 1)] (Q (.aun .not (Z 0)) (P 0 (.ret (Y 3)) (.jump 0 [])))) (D .eql (Z 7) (Z 5) (P 0 (.call 133 [(Z 3)] (.ret (Z 0))) (.jump 0 [])))))))
theorem x134_ok:okF TT Tryz.f134 6 x134=true:=by decide+kernel
theorem s_impl_kindFault_ok (h:s_impl_kindFault a0 a1 a2 a3 a4 a5 σ R):acall TP fn_impl_kindFault [a0,a1,a2,a3,a4,a5] σ R:=
 acall_okF (ρ:=[a5,a4,a3,a2,a1,a0]) TT_ok Tryz.func134 rfl x134 x134_ok rfl h
def s_impl_datumFault_1 (a0 a1:AV) (σ:AH) (R:AEnd→AH→Prop):Prop:=
 og (lod a1 σ) fun v4=>
 og (idx 4 v4 a0 σ) fun v6=>
 og (fldA 1 v6) fun v7=>
 og (lod v7 σ) fun v8=>
 aret v8 σ R
def x135:Sx:=M 0 (J 4 0 2 (Q (F 1 0) (M 0 (.ret (Z 0)))))
theorem x135_ok:okF TT Tryz.f135 2 x135=true:=by decide+kernel
theorem s_impl_datumFault_1_ok (h:s_impl_datumFault_1 a0 a1 σ R):acall TP fn_impl_datumFault_1 [a0,a1] σ R:=
 acall_okF (ρ:=[a1,a0]) TT_ok Tryz.func135 rfl x135 x135_ok rfl h
def s_impl_deep (a0 a1:AV) (σ:AH) (R:AEnd→AH→Prop):Prop:=
 lp (X:=Tup [0,1,5]) (fun R1 y1 σ=>
 og (ibin .geq y1.2.1 (iv 0)) fun v7=>
 apick v7 (
 og (ibin .add y1.2.2.1 (iv 1)) fun v14=>
 og (idx 4 y1.1 y1.2.1 σ) fun v10=>
 og (fldA 1 v10) fun v11=>
 og (lod v11 σ) fun v12=>
 R1 (y1.1,v12,v14,()) σ) (
 aret y1.2.2.1 σ R)) (a0,a1,(iv 0),()) σ
def x136:Sx:= .lp [0,1,5] (D .geq (Z 1) (Y 0) (P 0 (D .add (Z 3) (Y 1) (J 4 2 3 (Q (F 1 0) (M 0 (.jump 0 [(Z 5),(Z 0),(Z 3)]))))) (.ret (Z 3)))) [(Z 1),(Z 0),(Y 0)]
theorem x136_ok:okF TT Tryz.f136 2 x136=true:=by decide+kernel
theorem s_impl_deep_ok (h:s_impl_deep a0 a1 σ R):acall TP fn_impl_deep [a0,a1] σ R:=
 acall_okF (ρ:=[a1,a0]) TT_ok Tryz.func136 rfl x136 x136_ok rfl h
def s_impl_expander_put (a0 a1:AV) (σ:AH) (R:AEnd→AH→Prop):Prop:=
 abox a1 σ fun v3 σ=>
 frz v3 σ fun f3 σ=>
 og (anil a0) fun v7=>
 og (fldA 1 v7) fun v8=>
 og (lod v8 σ) fun v9=>
 og (lodA 6 f3 σ) fun v10=>
 og (bslR 6 [(iv 0),(iv 0),(iv 0),(iv 0),(str ⟨#[]⟩),nilS] 1 [(0,v10)]) fun v11=>
 app 6 v9 v11 σ fun v12 σ=>
 (True)∧
 og (anil a0) fun v13=>
 og (fldA 1 v13) fun v14=>
 sto 1 v14 v12 σ fun σ=>
 (True)∧
 og (anil a0) fun v16=>
 og (fldA 1 v16) fun v17=>
 og (lod v17 σ) fun v18=>
 og (lenS v18) fun v19=>
 og (ibin .sub v19 (iv 1)) fun v20=>
 aret v20 σ R
def x137:Sx:= .box (Z 0) (.frz 2 (Z 0) (.ord [0,1,2,3,4,5,6,7,8,9,10] [0,0,2,6,14,0,32,126,255,511,1023] (Q (A 3) (Q (F 1 0) (M 0 (Q (.lodA 6 (Z 3)) (Q (.bslR 6 [(iv 0),(iv 0),(iv 0),(iv 0),(str ⟨#[]⟩),nilS] 1 [(0,(Z 0))]) (.app 6 (Z 2) (Z 0) (.wat [] (Q (A 9) (Q (F 1 0) (.sto 1 (Z 0) (Z 2) (.wat [] (Q (A 11) (Q (F 1 0) (M 0 (O 0 (D .sub (Z 0) (Y 1) (.ret (Z 0))))))))))))))))))))
theorem x137_ok:okF TT Tryz.f137 2 x137=true:=by decide+kernel
theorem s_impl_expander_put_ok (h:s_impl_expander_put a0 a1 σ R):acall TP fn_impl_expander_put [a0,a1] σ R:=
 acall_okF (ρ:=[a1,a0]) TT_ok Tryz.func137 rfl x137 x137_ok rfl h
def s_impl_sub (a0 a1:AV) (σ:AH) (R:AEnd→AH→Prop):Prop:=
 og (idx 4 a0 a1 σ) fun v10=>
 og (lodA 4 v10 σ) fun v11=>
 bsl 4 [(iv 0),(iv 0),(iv 0),(str ⟨#[]⟩)] 1 [(0,v11)] σ fun v12 σ=>
 og (idx 4 v12 (iv 0) σ) fun v14=>
 og (fldA 1 v14) fun v15=>
 sto 1 v15 (iv (-1)) σ fun σ=>
 jn (X:=Tup [5]) (fun x1 σ=>
 aret x1.1 σ R) fun k1=>
 og (ibin .add a1 (iv 1)) fun v18=>
 og (slc 4 a0 (some v18) none none σ) fun v19=>
 og (lenS v19) fun v20=>
 lp (X:=Tup [1,5,19,20,21]) (fun R2 y2 σ=>
 og (ibin .lss y2.2.2.2.2.1 y2.2.2.2.1) fun v22=>
 apick v22 (
 og (idx 4 y2.2.2.1 y2.2.2.2.2.1 σ) fun v23=>
 og (lodA 4 v23 σ) fun v24=>
 new [(iv 0),(iv 0),(iv 0),(str ⟨#[]⟩)] σ fun v7 σ=>
 sto 4 v7 v24 σ fun σ=>
 og (fldA 1 v7) fun v25=>
 og (lod v25 σ) fun v26=>
 og (ibin .lss v26 y2.1) fun v28=>
 apick v28 (
 k1 (y2.2.1,()) σ) (
 og (fldA 1 v7) fun v29=>
 og (lod v29 σ) fun v30=>
 og (ibin .sub v30 y2.1) fun v32=>
 og (fldA 1 v7) fun v33=>
 sto 1 v33 v32 σ fun σ=>
 frz v7 σ fun f7 σ=>
 og (lodA 4 f7 σ) fun v35=>
 bsl 4 [(iv 0),(iv 0),(iv 0),(str ⟨#[]⟩)] 1 [(0,v35)] σ fun v36 σ=>
 app 4 y2.2.1 v36 σ fun v37 σ=>
 og (ibin .add y2.2.2.2.2.1 (iv 1)) fun v38=>
 R2 (y2.1,v37,y2.2.2.1,y2.2.2.2.1,v38,()) σ)) (
 k1 (y2.2.1,()) σ)) (a1,v12,v19,v20,(iv 0),()) σ
def x138:Sx:=J 4 1 0 (Q (.lodA 4 (Z 0)) (.bsl 4 [(iv 0),(iv 0),(iv 0),(str ⟨#[]⟩)] 1 [(0,(Z 0))] (Q (.idx 4 (Z 0) (Y 0)) (Q (F 1 0) (.sto 1 (Z 0) (Y (-1)) (.jn 31 [5] (.ret (Z 0)) (D .add (Z 5) (Y 1) (Q (.slc 4 (Z 7) (some (Z 0)) none none) (O 0 (.lp [1,5,19,20,21] (D .lss (Z 4) (Z 3) (P 0 (J 4 3 5 (Q (.lodA 4 (Z 0)) (.new [(iv 0),(iv 0),(iv 0),(str ⟨#[]⟩)] (.sto 4 (Z 0) (Z 1) (Q (F 1 0) (M 0 (D .lss (Z 0) (Z 6) (P 0 (.jump 1 [(Z 8)]) (Q (F 1 3) (M 0 (D .sub (Z 0) (Z 9) (Q (F 1 6) (.sto 1 (Z 0) (Z 1) (.frz 8 (Z 7) (Q (.lodA 4 (Z 0)) (.bsl 4 [(iv 0),(iv 0),(iv 0),(str ⟨#[]⟩)] 1 [(0,(Z 0))] (.app 4 (Z 15) (Z 0) (D .add (Z 19) (Y 1) (.jump 0 [(Z 16),(Z 1),(Z 18),(Z 19),(Z 0)]))))))))))))))))))) (.jump 1 [(Z 2)]))) [(Z 8),(Z 5),(Z 1),(Z 0),(Y 0)]))))))))))
theorem x138_ok:okF TT Tryz.f138 2 x138=true:=by decide+kernel
theorem s_impl_sub_ok (h:s_impl_sub a0 a1 σ R):acall TP fn_impl_sub [a0,a1] σ R:=
 acall_okF (ρ:=[a1,a0]) TT_ok Tryz.func138 rfl x138 x138_ok rfl h
def s_impl_IsKeyword (a0:AV) (σ:AH) (R:AEnd→AH→Prop):Prop:=
 bsl 1 [(str ⟨#[]⟩)] 7 [(0,(.val (.string ⟨#[113,117,111,116,101]⟩))),(1,(.val (.string ⟨#[105,102]⟩))),(2,(.val (.string ⟨#[108,97,109,98,100,97]⟩))),(3,(.val (.string ⟨#[108,101,116]⟩))),(4,(.val (.string ⟨#[98,101,103,105,110]⟩))),(5,(.val (.string ⟨#[100,101,102,105,110,101]⟩))),(6,(.val (.string ⟨#[115,101,116,33]⟩)))] σ fun v3 σ=>
 acall TP fn_slices_Contains [v3,a0] σ (onr (fun v5 σ=>
 aret v5 σ R) (pn R))
def x139:Sx:= .bsl 1 [(str ⟨#[]⟩)] 7 [(0,(.lit (.val (.string ⟨#[113,117,111,116,101]⟩)))),(1,(.lit (.val (.string ⟨#[105,102]⟩)))),(2,(.lit (.val (.string ⟨#[108,97,109,98,100,97]⟩)))),(3,(.lit (.val (.string ⟨#[108,101,116]⟩)))),(4,(.lit (.val (.string ⟨#[98,101,103,105,110]⟩)))),(5,(.lit (.val (.string ⟨#[100,101,102,105,110,101]⟩)))),(6,(.lit (.val (.string ⟨#[115,101,116,33]⟩))))] (.call 159 [(Z 0),(Z 1)] (.ret (Z 0)))
theorem x139_ok:okF TT Tryz.f139 1 x139=true:=by decide+kernel
theorem s_impl_IsKeyword_ok (h:s_impl_IsKeyword a0 σ R):acall TP fn_impl_IsKeyword [a0] σ R:=
 acall_okF (ρ:=[a0]) TT_ok Tryz.func139 rfl x139 x139_ok rfl h
def s_impl_find (a0 a1:AV) (σ:AH) (R:AEnd→AH→Prop):Prop:=
 og (lenS a0) fun v10=>
 lp (X:=Tup [0,1,10,11]) (fun R1 y1 σ=>
 og (ibin .lss y1.2.2.2.1 y1.2.2.1) fun v12=>
 apick v12 (
 og (lenS y1.1) fun v16=>
 og (ibin .sub v16 (iv 1)) fun v17=>
 og (ibin .sub v17 y1.2.2.2.1) fun v19=>
 og (idx 1 y1.1 v19 σ) fun v20=>
 og (lod v20 σ) fun v21=>
 acall TP fn_slices_Index [v21,y1.2.1] σ (onr (fun v23 σ=>
 og (ibin .geq v23 (iv 0)) fun v25=>
 apick v25 (
 aret (.tup [y1.2.2.2.1,v23,(.val (.bool true))]) σ R) (
 og (ibin .add y1.2.2.2.1 (iv 1)) fun v28=>
 R1 (y1.1,y1.2.1,y1.2.2.1,v28,()) σ)) (pn R))) (
 aret (.tup [(iv 0),(iv 0),(.val (.bool false))]) σ R)) (a0,a1,v10,(iv 0),()) σ
def x140:Sx:=O 1 (.lp [0,1,10,11] (D .lss (Z 3) (Z 2) (P 0 (O 1 (D .sub (Z 0) (Y 1) (D .sub (Z 0) (Z 6) (J 1 4 0 (M 0 (.call 160 [(Z 0),(Z 7)] (D .geq (Z 0) (Y 0) (P 0 (.rets [(Z 11),(Z 1),(.lit (.val (.bool true)))]) (D .add (Z 11) (Y 1) (.jump 0 [(Z 9),(Z 10),(Z 11),(Z 0)])))))))))) (.rets [(Y 0),(Y 0),(.lit (.val (.bool false)))]))) [(Z 2),(Z 1),(Z 0),(Y 0)])
theorem x140_ok:okF TT Tryz.f140 2 x140=true:=by decide+kernel
theorem s_impl_find_ok (h:s_impl_find a0 a1 σ R):acall TP fn_impl_find [a0,a1] σ R:=
 acall_okF (ρ:=[a1,a0]) TT_ok Tryz.func140 rfl x140 x140_ok rfl h
def s_impl_expander_keyword (a0 a1 a2 a3 a4:AV) (σ:AH) (R:AEnd→AH→Prop):Prop:=
 og (lenS a2) fun v20=>
 og (sbin .eql a1 (.val (.string ⟨#[113,117,111,116,101]⟩))) fun v71=>
 apick v71 (
 og (ibin .neq v20 (iv 1)) fun v73=>
 acall TP fn_impl_failIf [v73,(iv 1)] σ (onr (fun v74 σ=>
 og (anil a0) fun v78=>
 og (fldA 0 v78) fun v79=>
 og (lod v79 σ) fun v80=>
 og (idx 1 a2 (iv 0) σ) fun v82=>
 og (lod v82 σ) fun v83=>
 acall TP fn_impl_sub [v80,v83] σ (onr (fun v84 σ=>
 (True)∧
 og (bld [(iv 0),(iv 0),(iv 0),(iv 0),(str ⟨#[]⟩),nilS] [(0,1),(1,1),(2,1),(3,1),(4,1),(5,1)] [(0,(iv 1)),(1,a3),(5,v84)]) fun v85=>
 acall TP fn_impl_expander_put [a0,v85] σ (onr (fun v86 σ=>
 (True)∧
 aret (.tup []) σ R) (pn R))) (pn R))) (pn R))) (
 og (sbin .eql a1 (.val (.string ⟨#[105,102]⟩))) fun v88=>
 apick v88 (
 og (ibin .neq v20 (iv 3)) fun v90=>
 acall TP fn_impl_failIf [v90,(iv 1)] σ (onr (fun v91 σ=>
 og (bld [(iv 0),(iv 0),(iv 0),(iv 0),(str ⟨#[]⟩),nilS] [(0,1),(1,1),(2,1),(3,1),(4,1),(5,1)] [(0,(iv 4)),(1,a3)]) fun v95=>
 acall TP fn_impl_expander_put [a0,v95] σ (onr (fun v96 σ=>
 acall TP fn_impl_expander_all [a0,v96,a2,a4] σ (onr (fun v99 σ=>
 aret (.tup []) σ R) (pn R))) (pn R))) (pn R))) (
 og (sbin .eql a1 (.val (.string ⟨#[98,101,103,105,110]⟩))) fun v101=>
 apick v101 (
 og (ibin .eql v20 (iv 0)) fun v103=>
 acall TP fn_impl_failIf [v103,(iv 1)] σ (onr (fun v104 σ=>
 og (bld [(iv 0),(iv 0),(iv 0),(iv 0),(str ⟨#[]⟩),nilS] [(0,1),(1,1),(2,1),(3,1),(4,1),(5,1)] [(0,(iv 6)),(1,a3)]) fun v108=>
 acall TP fn_impl_expander_put [a0,v108] σ (onr (fun v109 σ=>
 acall TP fn_impl_expander_all [a0,v109,a2,a4] σ (onr (fun v112 σ=>
 aret (.tup []) σ R) (pn R))) (pn R))) (pn R))) (
 og (sbin .eql a1 (.val (.string ⟨#[108,97,109,98,100,97]⟩))) fun v114=>
 apick v114 (
 og (ibin .neq v20 (iv 2)) fun v116=>
 og (gval v116 false false (some a0)) fun v118=>
 og (gval v116 false false (anil v118)) fun v119=>
 og (gval v116 false false (fldA 0 v119)) fun v120=>
 og (gval v116 false false (lod v120 σ)) fun v121=>
 og (gval v116 false false (some a2)) fun v122=>
 og (gval v116 false false (idx 1 v122 (iv 0) σ)) fun v123=>
 og (gval v116 false false (lod v123 σ)) fun v124=>
 og (gval v116 false false (idx 4 v121 v124 σ)) fun v125=>
 og (gval v116 false false (fldA 0 v125)) fun v126=>
 og (gval v116 false false (lod v126 σ)) fun v127=>
 og (gval v116 false false (ibin .neq v127 (iv 4))) fun v128=>
 og (pickV v116 (.val (.bool true)) v128) fun v129=>
 acall TP fn_impl_failIf [v129,(iv 1)] σ (onr (fun v130 σ=>
 (True)∧
 og (anil a0) fun v134=>
 og (fldA 0 v134) fun v135=>
 og (lod v135 σ) fun v136=>
 og (idx 1 a2 (iv 0) σ) fun v138=>
 og (lod v138 σ) fun v139=>
 acall TP fn_impl_parts [v136,v139] σ (onr (fun v140 σ=>
 (True)∧
 acall TP fn_impl_expander_names [a0,v140] σ (onr (fun v141 σ=>
 (True)∧
 og (aext v141 0) fun v142=>
 og (aext v141 1) fun v143=>
 og (aun .not v143) fun v145=>
 acall TP fn_impl_failIf [v145,(iv 1)] σ (onr (fun v146 σ=>
 og (lenS v142) fun v148=>
 og (ibin .gtr v148 (iv 3)) fun v149=>
 acall TP fn_impl_failIf [v149,(iv 2)] σ (onr (fun v150 σ=>
 og (idx 1 a2 (iv 1) σ) fun v153=>
 og (lod v153 σ) fun v154=>
 og (lenS v142) fun v158=>
 og (bld [(iv 0),(iv 0),(iv 0),(iv 0),(str ⟨#[]⟩),nilS] [(0,1),(1,1),(2,1),(3,1),(4,1),(5,1)] [(0,(iv 5)),(1,a3),(2,v158)]) fun v159=>
 acall TP fn_impl_expander_put [a0,v159] σ (onr (fun v160 σ=>
 (lod v153 σ=some v154∧idx 1 a2 (iv 1) σ=some v153∧True)∧
 acall TP fn_impl_inner [a4,v142] σ (onr (fun v163 σ=>
 (lod v153 σ=some v154∧idx 1 a2 (iv 1) σ=some v153∧True)∧
 acall TP fn_impl_expander_form [a0,v154,v160,v163] σ (onr (fun v164 σ=>
 (True)∧
 aret (.tup []) σ R) (pn R))) (pn R))) (pn R))) (pn R))) (pn R))) (pn R))) (pn R))) (pn R))) (
 og (sbin .eql a1 (.val (.string ⟨#[108,101,116]⟩))) fun v166=>
 apick v166 (
 acall TP fn_impl_expander_let [a0,a2,a3,a4] σ (onr (fun v171 σ=>
 aret (.tup []) σ R) (pn R))) (
 og (ibin .neq v20 (iv 2)) fun v23=>
 acall TP fn_impl_failIf [v23,(iv 1)] σ (onr (fun v24 σ=>
 og (slc 1 a2 none (some (iv 1)) none σ) fun v28=>
 acall TP fn_impl_expander_names [a0,v28] σ (onr (fun v29 σ=>
 og (aext v29 0) fun v30=>
 og (aext v29 1) fun v31=>
 og (aun .not v31) fun v33=>
 og (gval v33 false false (some a1)) fun v35=>
 og (gval v33 false false (sbin .eql v35 (.val (.string ⟨#[100,101,102,105,110,101]⟩)))) fun v36=>
 og (gval v33 false false (some v36)) fun v37=>
 og (gval v37 true true (some a3)) fun v38=>
 og (gval v37 true true (ibin .geq v38 (iv 0))) fun v39=>
 og (gval v33 false false (pickV v37 v39 (.val (.bool false)))) fun v40=>
 og (pickV v33 (.val (.bool true)) v40) fun v41=>
 acall TP fn_impl_failIf [v41,(iv 1)] σ (onr (fun v42 σ=>
 jn (X:=Tup [0,2,3,4,13,15]) (fun x1 σ=>
 og (idx 1 x1.2.1 (iv 1) σ) fun v58=>
 og (lod v58 σ) fun v59=>
 og (idx 1 x1.2.2.2.2.1 (iv 0) σ) fun v64=>
 og (lod v64 σ) fun v65=>
 og (bld [(iv 0),(iv 0),(iv 0),(iv 0),(str ⟨#[]⟩),nilS] [(0,1),(1,1),(2,1),(3,1),(4,1),(5,1)] [(0,x1.2.2.2.2.2.1),(1,x1.2.2.1),(4,v65)]) fun v66=>
 acall TP fn_impl_expander_put [x1.1,v66] σ (onr (fun v67 σ=>
 (lod v58 σ=some v59∧idx 1 x1.2.1 (iv 1) σ=some v58∧True)∧
 acall TP fn_impl_expander_form [x1.1,v59,v67,x1.2.2.2.1] σ (onr (fun v69 σ=>
 (True)∧
 aret (.tup []) σ R) (pn R))) (pn R))) fun k1=>
 og (sbin .eql a1 (.val (.string ⟨#[115,101,116,33]⟩))) fun v44=>
 apick v44 (
 og (idx 1 v30 (iv 0) σ) fun v48=>
 og (lod v48 σ) fun v49=>
 acall TP fn_impl_find [a4,v49] σ (onr (fun v50 σ=>
 og (aext v50 0) fun v51=>
 og (aext v50 1) fun v52=>
 og (aext v50 2) fun v53=>
 acall TP fn_impl_failIf [v53,(iv 1)] σ (onr (fun v55 σ=>
 k1 (a0,a2,a3,a4,v30,(iv 7),()) σ) (pn R))) (pn R))) (
 k1 (a0,a2,a3,a4,v30,(iv 8),()) σ)) (pn R))) (pn R))) (pn R)))))))
def x141:Sx:=O 2 (Q (.sbin .eql (Z 4) (.lit (.val (.string ⟨#[113,117,111,116,101]⟩)))) (P 0 (D .neq (Z 1) (Y 1) (.call 94 [(Z 0),(Y 1)] (.ord [0,1,2,3,4,5,6,7,8,9,10,11] [0,0,0,4,12,28,0,64,192,508,1022,2047] (Q (A 8) (Q (F 0 0) (M 0 (Q (.idx 1 (Z 9) (Y 0)) (M 0 (.call 138 [(Z 2),(Z 0)] (.wat [] (Q (.bld [(iv 0),(iv 0),(iv 0),(iv 0),(str ⟨#[]⟩),nilS] [(0,1),(1,1),(2,1),(3,1),(4,1),(5,1)] [(0,(Y 1)),(1,(Z 11)),(5,(Z 0))]) (.call 137 [(Z 15),(Z 0)] (.wat [] (.rets [])))))))))))))) (Q (.sbin .eql (Z 5) (.lit (.val (.string ⟨#[105,102]⟩)))) (P 0 (D .neq (Z 2) (Y 3) (.call 94 [(Z 0),(Y 1)] (Q (.bld [(iv 0),(iv 0),(iv 0),(iv 0),(str ⟨#[]⟩),nilS] [(0,1),(1,1),(2,1),(3,1),(4,1),(5,1)] [(0,(Y 4)),(1,(Z 6))]) (.call 137 [(Z 10),(Z 0)] (.call 142 [(Z 11),(Z 0),(Z 9),(Z 7)] (.rets [])))))) (Q (.sbin .eql (Z 6) (.lit (.val (.string ⟨#[98,101,103,105,110]⟩)))) (P 0 (D .eql (Z 3) (Y 0) (.call 94 [(Z 0),(Y 1)] (Q (.bld [(iv 0),(iv 0),(iv 0),(iv 0),(str ⟨#[]⟩),nilS] [(0,1),(1,1),(2,1),(3,1),(4,1),(5,1)] [(0,(Y 6)),(1,(Z 7))]) (.call 137 [(Z 11),(Z 0)] (.call 142 [(Z 12),(Z 0),(Z 10),(Z 8)] (.rets [])))))) (Q (.sbin .eql (Z 7) (.lit (.val (.string ⟨#[108,97,109,98,100,97]⟩)))) (P 0 (.ord [0,1,2,3,4,5,6,7,8,9,10,11,12,13,14,15] [0,1,3,7,15,31,63,7,135,391,1023,2047,4095,8191,16383,32767] (D .neq (Z 4) (Y 2) (G 0 (.ret (Z 10)) (G 1 (A 0) (G 2 (F 0 0) (G 3 (L 0) (G 4 (.ret (Z 12)) (G 5 (.idx 1 (Z 0) (Y 0)) (G 6 (L 0) (G 7 (I 4 3 0) (G 8 (F 0 0) (G 9 (L 0) (G 10 (B .neq (Z 0) (Y 4)) (Q (.pickV (Z 11) (.lit (.val (.bool true))) (Z 0)) (.call 94 [(Z 0),(Y 1)] (.wat [] (.ord [0,1,2,3,4,5,6,7,8,9,10,11,12,13,14] [0,0,2,6,14,0,32,96,254,511,1023,2047,2047,4095,16383] (Q (A 23) (Q (F 0 0) (M 0 (Q (.idx 1 (Z 24) (Y 0)) (M 0 (.call 102 [(Z 2),(Z 0)] (.wat [] (.call 161 [(Z 29),(Z 0)] (.wat [] (Q (.aext (Z 0) 0) (Q (.aext (Z 1) 1) (Q (.aun .not (Z 0)) (.call 94 [(Z 0),(Y 1)] (O 3 (D .gtr (Z 0) (Y 3) (.call 94 [(Z 0),(Y 2)] (.ord [0,1,2,3,4,5,6,7,8,10,11,9,12,13] [0,0,2,6,0,0,0,64,224,496,0,0,4080,8191] (Q (.idx 1 (Z 35) (Y 1)) (M 0 (O 8 (Q (.bld [(iv 0),(iv 0),(iv 0),(iv 0),(str ⟨#[]⟩),nilS] [(0,1),(1,1),(2,1),(3,1),(4,1),(5,1)] [(0,(Y 5)),(1,(Z 37)),(2,(Z 0))]) (.call 137 [(Z 41),(Z 0)] (.wat [⟨none,(.lod (Z 4)),(Z 3)⟩,⟨none,(.idx 1 (Z 40) (Y 1)),(Z 4)⟩] (.call 162 [(Z 38),(Z 11)] (.wat [⟨none,(.lod (Z 5)),(Z 4)⟩,⟨none,(.idx 1 (Z 41) (Y 1)),(Z 5)⟩] (.call 93 [(Z 43),(Z 4),(Z 1),(Z 0)] (.wat [] (.rets []))))))))))))))))))))))))))))))))))))))))))))) (Q (.sbin .eql (Z 8) (.lit (.val (.string ⟨#[108,101,116]⟩)))) (P 0 (.call 163 [(Z 10),(Z 8),(Z 7),(Z 6)] (.rets [])) (D .neq (Z 5) (Y 2) (.call 94 [(Z 0),(Y 1)] (Q (.slc 1 (Z 10) none (some (Y 1)) none) (.call 161 [(Z 13),(Z 0)] (Q (.aext (Z 0) 0) (Q (.aext (Z 1) 1) (Q (.aun .not (Z 0)) (G 0 (.ret (Z 16)) (G 1 (.sbin .eql (Z 0) (.lit (.val (.string ⟨#[100,101,102,105,110,101]⟩)))) (G 2 (.ret (Z 0)) (.gog (Z 0) true true (.ret (Z 17)) (.gog (Z 1) true true (B .geq (Z 0) (Y 0)) (G 5 (.pickV (Z 2) (Z 0) (.lit (.val (.bool false)))) (Q (.pickV (Z 6) (.lit (.val (.bool true))) (Z 0)) (.call 94 [(Z 0),(Y 1)] (.jn 491519 [0,2,3,4,13,15] (.ord [0,1,2,3,4,5,6,7,8,9,10,12,11,13] [0,0,2,6,0,0,0,0,128,384,992,2032,0,8191] (Q (.idx 1 (Z 1) (Y 1)) (M 0 (Q (.idx 1 (Z 6) (Y 0)) (M 0 (Q (.bld [(iv 0),(iv 0),(iv 0),(iv 0),(str ⟨#[]⟩),nilS] [(0,1),(1,1),(2,1),(3,1),(4,1),(5,1)] [(0,(Z 9)),(1,(Z 6)),(4,(Z 0))]) (.call 137 [(Z 5),(Z 0)] (.wat [⟨none,(.lod (Z 5)),(Z 4)⟩,⟨none,(.idx 1 (Z 7) (Y 1)),(Z 5)⟩] (.call 93 [(Z 6),(Z 4),(Z 0),(Z 9)] (.wat [] (.rets []))))))))))) (Q (.sbin .eql (Z 24) (.lit (.val (.string ⟨#[115,101,116,33]⟩)))) (P 0 (Q (.idx 1 (Z 11) (Y 0)) (M 0 (.call 140 [(Z 24),(Z 0)] (Q (.aext (Z 0) 0) (Q (.aext (Z 1) 1) (Q (.aext (Z 2) 2) (.call 94 [(Z 0),(Y 1)] (.jump 0 [(Z 33),(Z 31),(Z 30),(Z 29),(Z 18),(Y 7)])))))))) (.jump 0 [(Z 26),(Z 24),(Z 23),(Z 22),(Z 11),(Y 8)])))))))))))))))))))))))))))))
theorem x141_ok:okF TT Tryz.f141 5 x141=true:=by decide+kernel
theorem s_impl_expander_keyword_ok (h:s_impl_expander_keyword a0 a1 a2 a3 a4 σ R):acall TP fn_impl_expander_keyword [a0,a1,a2,a3,a4] σ R:=
 acall_okF (ρ:=[a4,a3,a2,a1,a0]) TT_ok Tryz.func141 rfl x141 x141_ok rfl h
def s_impl_expander_all (a0 a1 a2 a3:AV) (σ:AH) (R:AEnd→AH→Prop):Prop:=
 og (lenS a2) fun v11=>
 lp (X:=Tup [0,1,3,10,11,12]) (fun R1 y1 σ=>
 og (ibin .lss y1.2.2.2.2.2.1 y1.2.2.2.2.1) fun v13=>
 apick v13 (
 og (idx 1 y1.2.2.2.1 y1.2.2.2.2.2.1 σ) fun v14=>
 og (lod v14 σ) fun v15=>
 acall TP fn_impl_expander_form [y1.1,v15,y1.2.1,y1.2.2.1] σ (onr (fun v20 σ=>
 og (ibin .add y1.2.2.2.2.2.1 (iv 1)) fun v21=>
 R1 (y1.1,y1.2.1,y1.2.2.1,y1.2.2.2.1,y1.2.2.2.2.1,v21,()) σ) (pn R))) (
 aret (.tup []) σ R)) (a0,a1,a3,a2,v11,(iv 0),()) σ
def x142:Sx:=O 1 (.lp [0,1,3,10,11,12] (D .lss (Z 5) (Z 4) (P 0 (J 1 4 6 (M 0 (.call 93 [(Z 3),(Z 0),(Z 4),(Z 5)] (D .add (Z 9) (Y 1) (.jump 0 [(Z 5),(Z 6),(Z 7),(Z 8),(Z 9),(Z 0)]))))) (.rets []))) [(Z 4),(Z 3),(Z 1),(Z 2),(Z 0),(Y 0)])
theorem x142_ok:okF TT Tryz.f142 4 x142=true:=by decide+kernel
theorem s_impl_expander_all_ok (h:s_impl_expander_all a0 a1 a2 a3 σ R):acall TP fn_impl_expander_all [a0,a1,a2,a3] σ R:=
 acall_okF (ρ:=[a3,a2,a1,a0]) TT_ok Tryz.func142 rfl x142 x142_ok rfl h
def s_spec_l1Parse (a0:AV) (σ:AH) (R:AEnd→AH→Prop):Prop:=
 jn (X:=Tup [0,4]) (fun x1 σ=>
 og (lenStr x1.1) fun v16=>
 og (ibin .sub v16 x1.2.1) fun v18=>
 og (ibin .lss v18 (iv 1)) fun v19=>
 og (gval v19 false false (some x1.1)) fun v21=>
 og (gval v19 false false (lenStr v21)) fun v22=>
 og (gval v19 false false (some x1.2.1)) fun v23=>
 og (gval v19 false false (ibin .sub v22 v23)) fun v24=>
 og (gval v19 false false (ibin .gtr v24 (iv 10))) fun v25=>
 og (pickV v19 (.val (.bool true)) v25) fun v26=>
 apick v26 (
 aret (.tup [(iv 0),(.val (.bool false))]) σ R) (
 lp (X:=Tup [0,4,5,6]) (fun R2 y2 σ=>
 og (lenStr y2.1) fun v30=>
 og (ibin .lss y2.2.2.2.1 v30) fun v31=>
 apick v31 (
 og (idxStr y2.1 y2.2.2.2.1) fun v36=>
 og (ibin .lss v36 (.val (.int .u8 48))) fun v37=>
 og (gval v37 false false (some y2.1)) fun v39=>
 og (gval v37 false false (some y2.2.2.2.1)) fun v40=>
 og (gval v37 false false (idxStr v39 v40)) fun v41=>
 og (gval v37 false false (ibin .gtr v41 (.val (.int .u8 57)))) fun v42=>
 og (pickV v37 (.val (.bool true)) v42) fun v43=>
 apick v43 (
 aret (.tup [(iv 0),(.val (.bool false))]) σ R) (
 og (ibin .mul y2.2.2.1 (iv 10)) fun v45=>
 og (idxStr y2.1 y2.2.2.2.1) fun v48=>
 og (ibin .sub v48 (.val (.int .u8 48))) fun v49=>
 og (convI .i64 v49) fun v50=>
 og (ibin .add v45 v50) fun v51=>
 og (ibin .add y2.2.2.2.1 (iv 1)) fun v33=>
 R2 (y2.1,y2.2.1,v51,v33,()) σ)) (
 jn (X:=Tup [0,5]) (fun x3 σ=>
 jn (X:=Tup [2,3]) (fun x4 σ=>
 aret (.tup [x4.1,x4.2.1]) σ R) fun k4=>
 acall TP fn_spec_l1Num [x3.2.1] σ (onr (fun v58 σ=>
 og (gval v58 true false (some x3.2.1)) fun v60=>
 gpick v58 (
 acall TP fn_spec_l1Digits [v60] σ (onr (fun v61 σ=>
 og (sbin .eql v61 x3.1) fun v63=>
 k4 (x3.2.1,v63,()) σ) (pn R))) (
 k4 (x3.2.1,(.val (.bool false)),()) σ) (False)) (pn R))) fun k3=>
 og (ibin .eql y2.2.1 (iv 1)) fun v53=>
 apick v53 (
 og (aun .neg y2.2.2.1) fun v55=>
 k3 (y2.1,v55,()) σ) (
 k3 (y2.1,y2.2.2.1,()) σ))) (x1.1,x1.2.1,(iv 0),x1.2.1,()) σ)) fun k1=>
 og (lenStr a0) fun v8=>
 og (ibin .gtr v8 (iv 0)) fun v9=>
 og (gval v9 true false (some a0)) fun v11=>
 og (gval v9 true false (idxStr v11 (iv 0))) fun v12=>
 og (gval v9 true false (ibin .eql v12 (.val (.int .u8 45)))) fun v13=>
 og (pickV v9 v13 (.val (.bool false))) fun v14=>
 apick v14 (
 k1 (a0,(iv 1),()) σ) (
 k1 (a0,(iv 0),()) σ)
def x148:Sx:= .jn 15 [0,4] (Q (.lenStr (Z 0)) (D .sub (Z 0) (Z 2) (D .lss (Z 0) (Y 1) (G 0 (.ret (Z 3)) (G 1 (.lenStr (Z 0)) (G 2 (.ret (Z 6)) (G 3 (B .sub (Z 1) (Z 0)) (G 4 (B .gtr (Z 0) (Y 10)) (Q (.pickV (Z 5) (.lit (.val (.bool true))) (Z 0)) (P 0 (.rets [(Y 0),(.lit (.val (.bool false)))]) (.lp [0,4,5,6] (Q (.lenStr (Z 0)) (D .lss (Z 4) (Z 0) (P 0 (Q (.idxStr (Z 2) (Z 5)) (D .lss (Z 0) (.lit (.val (.int .u8 48))) (G 0 (.ret (Z 4)) (G 1 (.ret (Z 8)) (G 2 (.idxStr (Z 1) (Z 0)) (G 3 (B .gtr (Z 0) (.lit (.val (.int .u8 57)))) (Q (.pickV (Z 4) (.lit (.val (.bool true))) (Z 0)) (P 0 (.rets [(Y 0),(.lit (.val (.bool false)))]) (D .mul (Z 11) (Y 10) (Q (.idxStr (Z 10) (Z 13)) (D .sub (Z 0) (.lit (.val (.int .u8 48))) (Q (.conv .i64 (Z 0)) (D .add (Z 3) (Z 0) (D .add (Z 17) (Y 1) (.jump 0 [(Z 15),(Z 16),(Z 1),(Z 0)]))))))))))))))) (.jn 255 [0,5] (.jn 511 [2,3] (.rets [(Z 0),(Z 1)]) (.call 67 [(Z 1)] (H 0 (.ret (Z 2)) (.gpick (Z 1) (.call 44 [(Z 0)] (Q (.sbin .eql (Z 0) (Z 3)) (.jump 0 [(Z 5),(Z 0)]))) (.jump 0 [(Z 3),(.lit (.val (.bool false)))]) (.no))))) (D .eql (Z 3) (Y 1) (P 0 (Q (.aun .neg (Z 5)) (.jump 0 [(Z 4),(Z 0)])) (.jump 0 [(Z 3),(Z 5)]))))))) [(Z 9),(Z 10),(Y 0),(Z 10)]))))))))))) (Q (.lenStr (Z 0)) (D .gtr (Z 0) (Y 0) (H 0 (.ret (Z 2)) (H 1 (.idxStr (Z 0) (Y 0)) (H 2 (B .eql (Z 0) (.lit (.val (.int .u8 45)))) (Q (.pickV (Z 3) (Z 0) (.lit (.val (.bool false)))) (P 0 (.jump 0 [(Z 6),(Y 1)]) (.jump 0 [(Z 6),(Y 0)]))))))))
theorem x148_ok:okF TT Tryz.f148 1 x148=true:=by decide+kernel
theorem s_spec_l1Parse_ok (h:s_spec_l1Parse a0 σ R):acall TP fn_spec_l1Parse [a0] σ R:=
 acall_okF (ρ:=[a0]) TT_ok Tryz.func148 rfl x148 x148_ok rfl h
def s_spec_l4Param (a0 a1 a2:AV) (σ:AH) (R:AEnd→AH→Prop):Prop:=
 og (anil a0) fun v11=>
 og (fldA 0 v11) fun v12=>
 og (lod v12 σ) fun v13=>
 og (idx 4 v13 a1 σ) fun v15=>
 jn (X:=Tup [2,8,27]) (fun x1 σ=>
 apick x1.2.2.1 (
 aret (.tup [(str ⟨#[]⟩),(iv 1)]) σ R) (
 lp (X:=Tup [2,8,9]) (fun R2 y2 σ=>
 og (lenS y2.1) fun v30=>
 og (ibin .lss y2.2.2.1 v30) fun v31=>
 apick v31 (
 og (idx 1 y2.1 y2.2.2.1 σ) fun v36=>
 og (lod v36 σ) fun v37=>
 og (anil y2.2.1) fun v39=>
 og (fldA 3 v39) fun v40=>
 og (lod v40 σ) fun v41=>
 og (sbin .eql v37 v41) fun v42=>
 apick v42 (
 aret (.tup [(str ⟨#[]⟩),(iv 1)]) σ R) (
 og (ibin .add y2.2.2.1 (iv 1)) fun v33=>
 R2 (y2.1,y2.2.1,v33,()) σ)) (
 og (anil y2.2.1) fun v44=>
 og (fldA 3 v44) fun v45=>
 og (lod v45 σ) fun v46=>
 aret (.tup [v46,(iv 0)]) σ R)) (x1.1,x1.2.1,(iv 0),()) σ)) fun k1=>
 og (anil v15) fun v17=>
 og (fldA 0 v17) fun v18=>
 og (lod v18 σ) fun v19=>
 og (ibin .neq v19 (iv 3)) fun v20=>
 og (gval v20 false false (some v15)) fun v22=>
 og (gval v20 false false (anil v22)) fun v23=>
 og (gval v20 false false (fldA 3 v23)) fun v24=>
 og (gval v20 false false (lod v24 σ)) fun v25=>
 gpick v20 (
 k1 (a2,v15,(.val (.bool true)),()) σ) (
 acall TP fn_spec_IsKeyword [v25] σ (onr (fun v26 σ=>
 k1 (a2,v15,v26,()) σ) (pn R))) (False)
def x149:Sx:=Q (A 2) (Q (F 0 0) (M 0 (J 4 0 4 (.jn 29 [2,8,27] (P 2 (.rets [(.lit (str ⟨#[]⟩)),(Y 1)]) (.lp [2,8,9] (O 0 (D .lss (Z 3) (Z 0) (P 0 (.ord [0,1,2,3,4,5,6,7,8] [0,0,3,7,0,16,48,112,255] (J 1 2 4 (M 0 (Q (A 5) (Q (F 3 0) (M 0 (Q (.sbin .eql (Z 3) (Z 0)) (P 0 (.rets [(.lit (str ⟨#[]⟩)),(Y 1)]) (D .add (Z 10) (Y 1) (.jump 0 [(Z 9),(Z 10),(Z 0)])))))))))) (Q (A 3) (Q (F 3 0) (M 0 (.rets [(Z 0),(Y 0)]))))))) [(Z 0),(Z 1),(Y 0)])) (Q (A 0) (Q (F 0 0) (M 0 (D .neq (Z 0) (Y 3) (G 0 (.ret (Z 4)) (G 1 (A 0) (G 2 (F 3 0) (G 3 (L 0) (.gpick (Z 4) (.jump 0 [(Z 12),(Z 8),(.lit (.val (.bool true)))]) (.call 74 [(Z 0)] (.jump 0 [(Z 13),(Z 9),(Z 0)])) (.no))))))))))))))
theorem x149_ok:okF TT Tryz.f149 3 x149=true:=by decide+kernel
theorem s_spec_l4Param_ok (h:s_spec_l4Param a0 a1 a2 σ R):acall TP fn_spec_l4Param [a0,a1,a2] σ R:=
 acall_okF (ρ:=[a2,a1,a0]) TT_ok Tryz.func149 rfl x149 x149_ok rfl h
def s_spec_l4Bind (a0 a1 a2:AV) (σ:AH) (R:AEnd→AH→Prop):Prop:=
 og (anil a0) fun v9=>
 og (fldA 2 v9) fun v10=>
 og (lod v10 σ) fun v11=>
 og (bld [nilS,(iv 0)] [(0,1),(1,1)] [(0,a1),(1,a2)]) fun v14=>
 bsl 2 [nilS,(iv 0)] 1 [(0,v14)] σ fun v15 σ=>
 app 2 v11 v15 σ fun v16 σ=>
 og (anil a0) fun v17=>
 og (fldA 2 v17) fun v18=>
 sto 1 v18 v16 σ fun σ=>
 og (anil a0) fun v20=>
 og (fldA 2 v20) fun v21=>
 og (lod v21 σ) fun v22=>
 og (lenS v22) fun v23=>
 og (ibin .sub v23 (iv 1)) fun v24=>
 aret v24 σ R
def x150:Sx:=Q (A 2) (Q (F 2 0) (M 0 (Q (.bld [nilS,(iv 0)] [(0,1),(1,1)] [(0,(Z 4)),(1,(Z 3))]) (.bsl 2 [nilS,(iv 0)] 1 [(0,(Z 0))] (.app 2 (Z 2) (Z 0) (Q (A 8) (Q (F 2 0) (.sto 1 (Z 0) (Z 2) (Q (A 10) (Q (F 2 0) (M 0 (O 0 (D .sub (Z 0) (Y 1) (.ret (Z 0)))))))))))))))
theorem x150_ok:okF TT Tryz.f150 3 x150=true:=by decide+kernel
theorem s_spec_l4Bind_ok (h:s_spec_l4Bind a0 a1 a2 σ R):acall TP fn_spec_l4Bind [a0,a1,a2] σ R:=
 acall_okF (ρ:=[a2,a1,a0]) TT_ok Tryz.func150 rfl x150 x150_ok rfl h
def s_impl_NumFault (a0:AV) (σ:AH) (R:AEnd→AH→Prop):Prop:=
 acall TP fn_impl_in [a0,(iv (-1000000000)),(iv 1000000000)] σ (onr (fun v4 σ=>
 og (aun .not v4) fun v5=>
 apick v5 (
 aret (iv 3) σ R) (
 aret (iv 0) σ R)) (pn R))
def x157:Sx:= .call 49 [(Z 0),(Y (-1000000000)),(Y 1000000000)] (Q (.aun .not (Z 0)) (P 0 (.ret (Y 3)) (.ret (Y 0))))
theorem x157_ok:okF TT Tryz.f157 1 x157=true:=by decide+kernel
theorem s_impl_NumFault_ok (h:s_impl_NumFault a0 σ R):acall TP fn_impl_NumFault [a0] σ R:=
 acall_okF (ρ:=[a0]) TT_ok Tryz.func157 rfl x157 x157_ok rfl h
def s_strings_Trim (a0 a1:AV) (σ:AH) (R:AEnd→AH→Prop):Prop:=
 og (sbin .eql a0 (str ⟨#[]⟩)) fun v8=>
 og (gval v8 false false (some a1)) fun v10=>
 og (gval v8 false false (sbin .eql v10 (str ⟨#[]⟩))) fun v11=>
 og (pickV v8 (.val (.bool true)) v11) fun v12=>
 apick v12 (
 aret a0 σ R) (
 og (lenStr a1) fun v15=>
 og (ibin .eql v15 (iv 1)) fun v16=>
 og (gval v16 true false (some a1)) fun v18=>
 og (gval v16 true false (idxStr v18 (iv 0))) fun v19=>
 og (gval v16 true false (ibin .lss v19 (.val (.int .u8 128)))) fun v20=>
 og (pickV v16 v20 (.val (.bool false))) fun v21=>
 apick v21 (
 og (idxStr a1 (iv 0)) fun v24=>
 og (idxStr a1 (iv 0)) fun v27=>
 acall TP fn_strings_trimRightByte [a0,v24] σ (onr (fun v25 σ=>
 (True)∧
 acall TP fn_strings_trimLeftByte [v25,v27] σ (onr (fun v28 σ=>
 (True)∧
 aret v28 σ R) (pn R))) (pn R))) (
 acall TP fn_strings_makeASCIISet [a1] σ (onr (fun v31 σ=>
 og (aext v31 0) fun v32=>
 og (aext v31 1) fun v33=>
 new (List.replicate 256 (.val (.bool false))) σ fun v5 σ=>
 sto 256 v5 v32 σ fun σ=>
 frz v5 σ fun f5 σ=>
 apick v33 (
 acall TP fn_strings_trimRightASCII [a0,f5] σ (onr (fun v36 σ=>
 acall TP fn_strings_trimLeftASCII [v36,f5] σ (onr (fun v37 σ=>
 aret v37 σ R) (pn R))) (pn R))) (
 acall TP fn_strings_trimRightUnicode [a0,a1] σ (onr (fun v40 σ=>
 acall TP fn_strings_trimLeftUnicode [v40,a1] σ (onr (fun v42 σ=>
 aret v42 σ R) (pn R))) (pn R)))) (pn R))))
def x158:Sx:=Q (.sbin .eql (Z 1) (.lit (str ⟨#[]⟩))) (G 0 (.ret (Z 1)) (G 1 (.sbin .eql (Z 0) (.lit (str ⟨#[]⟩))) (Q (.pickV (Z 2) (.lit (.val (.bool true))) (Z 0)) (P 0 (.ret (Z 5)) (Q (.lenStr (Z 4)) (D .eql (Z 0) (Y 1) (H 0 (.ret (Z 6)) (H 1 (.idxStr (Z 0) (Y 0)) (H 2 (B .lss (Z 0) (.lit (.val (.int .u8 128)))) (Q (.pickV (Z 3) (Z 0) (.lit (.val (.bool false)))) (P 0 (.ord [0,1,2,4,5,3,6,7] [0,0,2,7,0,16,63,127] (Q (.idxStr (Z 10) (Y 0)) (Q (.idxStr (Z 11) (Y 0)) (.call 175 [(Z 13),(Z 1)] (.wat [] (.call 174 [(Z 0),(Z 1)] (.wat [] (.ret (Z 0))))))))) (.call 130 [(Z 10)] (Q (.aext (Z 0) 0) (Q (.aext (Z 1) 1) (.new (List.replicate 256 (.val (.bool false))) (.sto 256 (Z 0) (Z 2) (.frz 15 (Z 0) (P 2 (.call 177 [(Z 16),(Z 0)] (.call 176 [(Z 0),(Z 1)] (.ret (Z 0)))) (.call 179 [(Z 16),(Z 15)] (.call 178 [(Z 0),(Z 16)] (.ret (Z 0))))))))))))))))))))))
theorem x158_ok:okF TT Tryz.f158 2 x158=true:=by decide+kernel
theorem s_strings_Trim_ok (h:s_strings_Trim a0 a1 σ R):acall TP fn_strings_Trim [a0,a1] σ R:=
 acall_okF (ρ:=[a1,a0]) TT_ok Tryz.func158 rfl x158 x158_ok rfl h
def s_slices_Contains (a0 a1:AV) (σ:AH) (R:AEnd→AH→Prop):Prop:=
 acall TP fn_slices_Index [a0,a1] σ (onr (fun v7 σ=>
 og (ibin .geq v7 (iv 0)) fun v8=>
 aret v8 σ R) (pn R))
def x159:Sx:= .call 160 [(Z 1),(Z 0)] (D .geq (Z 0) (Y 0) (.ret (Z 0)))
theorem x159_ok:okF TT Tryz.f159 2 x159=true:=by decide+kernel
theorem s_slices_Contains_ok (h:s_slices_Contains a0 a1 σ R):acall TP fn_slices_Contains [a0,a1] σ R:=
 acall_okF (ρ:=[a1,a0]) TT_ok Tryz.func159 rfl x159 x159_ok rfl h
def s_slices_Index (a0 a1:AV) (σ:AH) (R:AEnd→AH→Prop):Prop:=
 og (lenS a0) fun v7=>
 lp (X:=Tup [0,1,7,8]) (fun R1 y1 σ=>
 og (ibin .lss y1.2.2.2.1 y1.2.2.1) fun v9=>
 apick v9 (
 og (idx 1 y1.1 y1.2.2.2.1 σ) fun v14=>
 og (lod v14 σ) fun v15=>
 og (sbin .eql y1.2.1 v15) fun v16=>
 apick v16 (
 aret y1.2.2.2.1 σ R) (
 og (ibin .add y1.2.2.2.1 (iv 1)) fun v18=>
 R1 (y1.1,y1.2.1,y1.2.2.1,v18,()) σ)) (
 aret (iv (-1)) σ R)) (a0,a1,v7,(iv 0),()) σ
def x160:Sx:=O 1 (.lp [0,1,7,8] (D .lss (Z 3) (Z 2) (P 0 (J 1 1 4 (M 0 (Q (.sbin .eql (Z 4) (Z 0)) (P 0 (.ret (Z 7)) (D .add (Z 7) (Y 1) (.jump 0 [(Z 5),(Z 6),(Z 7),(Z 0)])))))) (.ret (Y (-1))))) [(Z 2),(Z 1),(Z 0),(Y 0)])
theorem x160_ok:okF TT Tryz.f160 2 x160=true:=by decide+kernel
theorem s_slices_Index_ok (h:s_slices_Index a0 a1 σ R):acall TP fn_slices_Index [a0,a1] σ R:=
 acall_okF (ρ:=[a1,a0]) TT_ok Tryz.func160 rfl x160 x160_ok rfl h
def s_impl_expander_names (a0 a1:AV) (σ:AH) (R:AEnd→AH→Prop):Prop:=
 bsl 1 [(str ⟨#[]⟩)] 0 [] σ fun v10 σ=>
 og (lenS a1) fun v12=>
 lp (X:=Tup [0,6,11,12,13]) (fun R1 y1 σ=>
 og (ibin .lss y1.2.2.2.2.1 y1.2.2.2.1) fun v14=>
 apick v14 (
 og (idx 1 y1.2.2.1 y1.2.2.2.2.1 σ) fun v15=>
 og (lod v15 σ) fun v16=>
 og (anil y1.1) fun v18=>
 og (fldA 0 v18) fun v19=>
 og (lod v19 σ) fun v20=>
 og (idx 4 v20 v16 σ) fun v22=>
 og (lodA 4 v22 σ) fun v23=>
 new [(iv 0),(iv 0),(iv 0),(str ⟨#[]⟩)] σ fun v9 σ=>
 sto 4 v9 v23 σ fun σ=>
 jn (X:=Tup [0,6,9,11,12,13,37]) (fun x2 σ=>
 apick x2.2.2.2.2.2.2.1 (
 aret (.tup [nilS,(.val (.bool false))]) σ R) (
 og (fldA 3 x2.2.2.1) fun v39=>
 og (lod v39 σ) fun v40=>
 bsl 1 [(str ⟨#[]⟩)] 1 [(0,v40)] σ fun v41 σ=>
 app 1 x2.2.1 v41 σ fun v42 σ=>
 og (ibin .add x2.2.2.2.2.2.1 (iv 1)) fun v43=>
 R1 (x2.1,v42,x2.2.2.2.1,x2.2.2.2.2.1,v43,()) σ)) fun k2=>
 frz v9 σ fun f9 σ=>
 og (fldA 0 f9) fun v24=>
 og (lod v24 σ) fun v25=>
 og (ibin .neq v25 (iv 3)) fun v26=>
 og (gval v26 false false (fldA 3 f9)) fun v28=>
 og (gval v26 false false (lod v28 σ)) fun v29=>
 gpick v26 (
 k2 (y1.1,y1.2.1,f9,y1.2.2.1,y1.2.2.2.1,y1.2.2.2.2.1,(.val (.bool true)),()) σ) (
 acall TP fn_impl_IsKeyword [v29] σ (onr (fun v30 σ=>
 og (gval v30 false false (some y1.2.1)) fun v33=>
 og (gval v30 false false (fldA 3 f9)) fun v34=>
 og (gval v30 false false (lod v34 σ)) fun v35=>
 gpick v30 (
 k2 (y1.1,y1.2.1,f9,y1.2.2.1,y1.2.2.2.1,y1.2.2.2.2.1,(.val (.bool true)),()) σ) (
 acall TP fn_slices_Contains [v33,v35] σ (onr (fun v36 σ=>
 k2 (y1.1,y1.2.1,f9,y1.2.2.1,y1.2.2.2.1,y1.2.2.2.2.1,v36,()) σ) (pn R))) (False)) (pn R))) (False)) (
 aret (.tup [y1.2.1,(.val (.bool true))]) σ R)) (a0,v10,a1,v12,(iv 0),()) σ
def x161:Sx:= .bsl 1 [(str ⟨#[]⟩)] 0 [] (O 1 (.lp [0,6,11,12,13] (D .lss (Z 4) (Z 3) (P 0 (J 1 3 5 (M 0 (Q (A 3) (Q (F 0 0) (M 0 (J 4 0 3 (Q (.lodA 4 (Z 0)) (.new [(iv 0),(iv 0),(iv 0),(str ⟨#[]⟩)] (.sto 4 (Z 0) (Z 1) (.jn 29901 [0,6,9,11,12,13,37] (P 6 (.rets [(.lit nilS),(.lit (.val (.bool false)))]) (Q (F 3 2) (M 0 (.bsl 1 [(str ⟨#[]⟩)] 1 [(0,(Z 0))] (.app 1 (Z 4) (Z 0) (D .add (Z 9) (Y 1) (.jump 0 [(Z 5),(Z 1),(Z 8),(Z 9),(Z 0)]))))))) (.frz 13 (Z 0) (Q (F 0 0) (M 0 (D .neq (Z 0) (Y 3) (G 0 (F 3 3) (G 1 (L 0) (.gpick (Z 2) (.jump 0 [(Z 15),(Z 16),(Z 5),(Z 17),(Z 18),(Z 19),(.lit (.val (.bool true)))]) (.call 139 [(Z 0)] (G 0 (.ret (Z 17)) (G 1 (F 3 7) (G 2 (L 0) (.gpick (Z 3) (.jump 0 [(Z 19),(Z 20),(Z 9),(Z 21),(Z 22),(Z 23),(.lit (.val (.bool true)))]) (.call 159 [(Z 2),(Z 0)] (.jump 0 [(Z 20),(Z 21),(Z 10),(Z 22),(Z 23),(Z 24),(Z 0)])) (.no)))))) (.no)))))))))))))))))) (.rets [(Z 2),(.lit (.val (.bool true)))]))) [(Z 3),(Z 1),(Z 2),(Z 0),(Y 0)]))
theorem x161_ok:okF TT Tryz.f161 2 x161=true:=by decide+kernel
theorem s_impl_expander_names_ok (h:s_impl_expander_names a0 a1 σ R):acall TP fn_impl_expander_names [a0,a1] σ R:=
 acall_okF (ρ:=[a1,a0]) TT_ok Tryz.func161 rfl x161 x161_ok rfl h
def s_impl_inner (a0 a1:AV) (σ:AH) (R:AEnd→AH→Prop):Prop:=
 acall TP fn_slices_Clone_180 [a0] σ (onr (fun v6 σ=>
 bsl 1 [nilS] 1 [(0,a1)] σ fun v8 σ=>
 app 1 v6 v8 σ fun v9 σ=>
 aret v9 σ R) (pn R))
def x162:Sx:= .call 180 [(Z 1)] (.bsl 1 [nilS] 1 [(0,(Z 1))] (.app 1 (Z 1) (Z 0) (.ret (Z 0))))
theorem x162_ok:okF TT Tryz.f162 2 x162=true:=by decide+kernel
theorem s_impl_inner_ok (h:s_impl_inner a0 a1 σ R):acall TP fn_impl_inner [a0,a1] σ R:=
 acall_okF (ρ:=[a1,a0]) TT_ok Tryz.func162 rfl x162 x162_ok rfl h
def s_impl_expander_let (a0 a1 a2 a3:AV) (σ:AH) (R:AEnd→AH→Prop):Prop:=
 og (lenS a1) fun v17=>
 og (ibin .neq v17 (iv 2)) fun v18=>
 og (gval v18 false false (some a0)) fun v20=>
 og (gval v18 false false (anil v20)) fun v21=>
 og (gval v18 false false (fldA 0 v21)) fun v22=>
 og (gval v18 false false (lod v22 σ)) fun v23=>
 og (gval v18 false false (some a1)) fun v24=>
 og (gval v18 false false (idx 1 v24 (iv 0) σ)) fun v25=>
 og (gval v18 false false (lod v25 σ)) fun v26=>
 og (gval v18 false false (idx 4 v23 v26 σ)) fun v27=>
 og (gval v18 false false (fldA 0 v27)) fun v28=>
 og (gval v18 false false (lod v28 σ)) fun v29=>
 og (gval v18 false false (ibin .neq v29 (iv 4))) fun v30=>
 og (pickV v18 (.val (.bool true)) v30) fun v31=>
 acall TP fn_impl_failIf [v31,(iv 1)] σ (onr (fun v32 σ=>
 (True)∧
 bsl 1 [(iv 0)] 0 [] σ fun v33 σ=>
 bsl 1 [(iv 0)] 0 [] σ fun v34 σ=>
 og (anil a0) fun v36=>
 og (fldA 0 v36) fun v37=>
 og (lod v37 σ) fun v38=>
 og (idx 1 a1 (iv 0) σ) fun v40=>
 og (lod v40 σ) fun v41=>
 acall TP fn_impl_parts [v38,v41] σ (onr (fun v42 σ=>
 (True)∧
 og (lenS v42) fun v43=>
 lp (X:=Tup [0,1,2,3,8,9,42,43,44]) (fun R1 y1 σ=>
 og (ibin .lss y1.2.2.2.2.2.2.2.2.1 y1.2.2.2.2.2.2.2.1) fun v45=>
 apick v45 (
 og (idx 1 y1.2.2.2.2.2.2.1 y1.2.2.2.2.2.2.2.2.1 σ) fun v46=>
 og (lod v46 σ) fun v47=>
 og (anil y1.1) fun v49=>
 og (fldA 0 v49) fun v50=>
 og (lod v50 σ) fun v51=>
 acall TP fn_impl_parts [v51,v47] σ (onr (fun v53 σ=>
 og (anil y1.1) fun v55=>
 og (fldA 0 v55) fun v56=>
 og (lod v56 σ) fun v57=>
 og (idx 4 v57 v47 σ) fun v59=>
 og (fldA 0 v59) fun v60=>
 og (lod v60 σ) fun v61=>
 og (ibin .neq v61 (iv 4)) fun v62=>
 og (gval v62 false false (some v53)) fun v64=>
 og (gval v62 false false (lenS v64)) fun v65=>
 og (gval v62 false false (ibin .neq v65 (iv 2))) fun v66=>
 og (pickV v62 (.val (.bool true)) v66) fun v67=>
 acall TP fn_impl_failIf [v67,(iv 1)] σ (onr (fun v68 σ=>
 og (idx 1 v53 (iv 0) σ) fun v71=>
 og (lod v71 σ) fun v72=>
 og (bslR 1 [(iv 0)] 1 [(0,v72)]) fun v73=>
 og (idx 1 v53 (iv 1) σ) fun v77=>
 og (lod v77 σ) fun v78=>
 og (bslR 1 [(iv 0)] 1 [(0,v78)]) fun v79=>
 app 1 y1.2.2.2.2.1 v73 σ fun v74 σ=>
 (lod v77 σ=some v78∧idx 1 v53 (iv 1) σ=some v77∧True)∧
 app 1 y1.2.2.2.2.2.1 v79 σ fun v80 σ=>
 (True)∧
 og (ibin .add y1.2.2.2.2.2.2.2.2.1 (iv 1)) fun v81=>
 R1 (y1.1,y1.2.1,y1.2.2.1,y1.2.2.2.1,v74,v80,y1.2.2.2.2.2.2.1,y1.2.2.2.2.2.2.2.1,v81,()) σ) (pn R))) (pn R))) (
 acall TP fn_impl_expander_names [y1.1,y1.2.2.2.2.1] σ (onr (fun v85 σ=>
 og (aext v85 0) fun v86=>
 og (aext v85 1) fun v87=>
 og (aun .not v87) fun v89=>
 acall TP fn_impl_failIf [v89,(iv 1)] σ (onr (fun v90 σ=>
 og (lenS v86) fun v92=>
 og (ibin .gtr v92 (iv 3)) fun v93=>
 acall TP fn_impl_failIf [v93,(iv 2)] σ (onr (fun v94 σ=>
 og (bld [(iv 0),(iv 0),(iv 0),(iv 0),(str ⟨#[]⟩),nilS] [(0,1),(1,1),(2,1),(3,1),(4,1),(5,1)] [(0,(iv 9)),(1,y1.2.2.1)]) fun v97=>
 acall TP fn_impl_expander_put [y1.1,v97] σ (onr (fun v98 σ=>
 og (idx 1 y1.2.1 (iv 1) σ) fun v101=>
 og (lod v101 σ) fun v102=>
 og (lenS v86) fun v106=>
 og (bld [(iv 0),(iv 0),(iv 0),(iv 0),(str ⟨#[]⟩),nilS] [(0,1),(1,1),(2,1),(3,1),(4,1),(5,1)] [(0,(iv 5)),(1,v98),(2,v106)]) fun v107=>
 acall TP fn_impl_expander_put [y1.1,v107] σ (onr (fun v108 σ=>
 (lod v101 σ=some v102∧idx 1 y1.2.1 (iv 1) σ=some v101∧True)∧
 acall TP fn_impl_inner [y1.2.2.2.1,v86] σ (onr (fun v111 σ=>
 (lod v101 σ=some v102∧idx 1 y1.2.1 (iv 1) σ=some v101∧True)∧
 acall TP fn_impl_expander_form [y1.1,v102,v108,v111] σ (onr (fun v112 σ=>
 (True)∧
 acall TP fn_impl_expander_all [y1.1,v98,y1.2.2.2.2.2.1,y1.2.2.2.1] σ (onr (fun v117 σ=>
 aret (.tup []) σ R) (pn R))) (pn R))) (pn R))) (pn R))) (pn R))) (pn R))) (pn R))) (pn R)))) (a0,a1,a2,a3,v33,v34,v42,v43,(iv 0),()) σ) (pn R))) (pn R))
def x163:Sx:= .ord [0,1,2,3,4,5,6,7,8,9,10,11,12,13,14,15,16] [0,1,3,7,15,31,63,127,15,271,783,2047,4095,8191,16383,32767,65535] (O 2 (D .neq (Z 0) (Y 2) (G 0 (.ret (Z 5)) (G 1 (A 0) (G 2 (F 0 0) (G 3 (L 0) (G 4 (.ret (Z 8)) (G 5 (.idx 1 (Z 0) (Y 0)) (G 6 (L 0) (G 7 (I 4 3 0) (G 8 (F 0 0) (G 9 (L 0) (G 10 (B .neq (Z 0) (Y 4)) (Q (.pickV (Z 11) (.lit (.val (.bool true))) (Z 0)) (.call 94 [(Z 0),(Y 1)] (.wat [] (.bsl 1 [(iv 0)] 0 [] (.bsl 1 [(iv 0)] 0 [] (.ord [0,1,2,3,4,5,6,9,7,8] [0,1,3,7,0,16,48,127,255,0] (Q (A 20) (Q (F 0 0) (M 0 (Q (.idx 1 (Z 22) (Y 0)) (M 0 (.call 102 [(Z 2),(Z 0)] (.wat [] (O 0 (.lp [0,1,2,3,8,9,42,43,44] (D .lss (Z 8) (Z 7) (P 0 (J 1 7 9 (M 0 (Q (A 3) (Q (F 0 0) (M 0 (.call 102 [(Z 0),(Z 3)] (Q (A 7) (Q (F 0 0) (M 0 (J 4 0 7 (Q (F 0 0) (M 0 (D .neq (Z 0) (Y 4) (G 0 (.ret (Z 7)) (G 1 (N 0) (G 2 (B .neq (Z 0) (Y 2)) (Q (.pickV (Z 3) (.lit (.val (.bool true))) (Z 0)) (.call 94 [(Z 0),(Y 1)] (.ord [0,1,2,3,4,6,7,8,9,10,5,11,12,13] [0,0,2,6,14,31,0,0,128,384,896,2047,4095,8191] (Q (.idx 1 (Z 12) (Y 0)) (M 0 (Q (.bslR 1 [(iv 0)] 1 [(0,(Z 0))]) (Q (.idx 1 (Z 15) (Y 1)) (M 0 (Q (.bslR 1 [(iv 0)] 1 [(0,(Z 0))]) (.app 1 (Z 29) (Z 3) (.wat [⟨none,(.lod (Z 3)),(Z 2)⟩,⟨none,(.idx 1 (Z 19) (Y 1)),(Z 3)⟩] (.app 1 (Z 31) (Z 1) (.wat [] (D .add (Z 35) (Y 1) (.jump 0 [(Z 28),(Z 29),(Z 30),(Z 31),(Z 2),(Z 1),(Z 34),(Z 35),(Z 0)]))))))))))))))))))))))))))))))) (.call 161 [(Z 1),(Z 5)] (Q (.aext (Z 0) 0) (Q (.aext (Z 1) 1) (Q (.aun .not (Z 0)) (.call 94 [(Z 0),(Y 1)] (O 3 (D .gtr (Z 0) (Y 3) (.call 94 [(Z 0),(Y 2)] (Q (.bld [(iv 0),(iv 0),(iv 0),(iv 0),(str ⟨#[]⟩),nilS] [(0,1),(1,1),(2,1),(3,1),(4,1),(5,1)] [(0,(Y 9)),(1,(Z 11))]) (.call 137 [(Z 10),(Z 0)] (.ord [0,1,2,3,4,5,6,7,8,10,11,9,12,13] [0,0,2,6,0,0,0,64,224,496,0,0,4080,8191] (Q (.idx 1 (Z 12) (Y 1)) (M 0 (O 10 (Q (.bld [(iv 0),(iv 0),(iv 0),(iv 0),(str ⟨#[]⟩),nilS] [(0,1),(1,1),(2,1),(3,1),(4,1),(5,1)] [(0,(Y 5)),(1,(Z 3)),(2,(Z 0))]) (.call 137 [(Z 15),(Z 0)] (.wat [⟨none,(.lod (Z 4)),(Z 3)⟩,⟨none,(.idx 1 (Z 17) (Y 1)),(Z 4)⟩] (.call 162 [(Z 19),(Z 13)] (.wat [⟨none,(.lod (Z 5)),(Z 4)⟩,⟨none,(.idx 1 (Z 18) (Y 1)),(Z 5)⟩] (.call 93 [(Z 17),(Z 4),(Z 1),(Z 0)] (.wat [] (.call 142 [(Z 18),(Z 7),(Z 23),(Z 21)] (.rets []))))))))))))))))))))))))) [(Z 27),(Z 26),(Z 25),(Z 24),(Z 8),(Z 7),(Z 1),(Z 0),(Y 0)]))))))))))))))))))))))))))))
theorem x163_ok:okF TT Tryz.f163 4 x163=true:=by decide+kernel
theorem s_impl_expander_let_ok (h:s_impl_expander_let a0 a1 a2 a3 σ R):acall TP fn_impl_expander_let [a0,a1,a2,a3] σ R:=
 acall_okF (ρ:=[a3,a2,a1,a0]) TT_ok Tryz.func163 rfl x163 x163_ok rfl h
def s_strings_trimLeftASCII (a0 a1:AV) (σ:AH) (R:AEnd→AH→Prop):Prop:=
 jn (X:=Tup [0]) (fun x1 σ=>
 aret x1.1 σ R) fun k1=>
 lp (X:=Tup [0,1]) (fun R2 y2 σ=>
 og (lenStr y2.1) fun v6=>
 og (ibin .gtr v6 (iv 0)) fun v7=>
 apick v7 (
 og (idxStr y2.1 (iv 0)) fun v10=>
 acall TP fn_strings_asciiSet_contains [y2.2.1,v10] σ (onr (fun v11 σ=>
 og (aun .not v11) fun v12=>
 apick v12 (
 k1 (y2.1,()) σ) (
 og (slcStr y2.1 (some (iv 1)) none) fun v14=>
 R2 (v14,y2.2.1,()) σ)) (pn R))) (
 k1 (y2.1,()) σ)) (a0,a1,()) σ
def x176:Sx:= .jn 7 [0] (.ret (Z 0)) (.lp [0,1] (Q (.lenStr (Z 0)) (D .gtr (Z 0) (Y 0) (P 0 (Q (.idxStr (Z 2) (Y 0)) (.call 131 [(Z 4),(Z 0)] (Q (.aun .not (Z 0)) (P 0 (.jump 1 [(Z 5)]) (Q (.slcStr (Z 5) (some (Y 1)) none) (.jump 0 [(Z 0),(Z 7)])))))) (.jump 1 [(Z 2)])))) [(Z 1),(Z 0)])
theorem x176_ok:okF TT Tryz.f176 2 x176=true:=by decide+kernel
theorem s_strings_trimLeftASCII_ok (h:s_strings_trimLeftASCII a0 a1 σ R):acall TP fn_strings_trimLeftASCII [a0,a1] σ R:=
 acall_okF (ρ:=[a1,a0]) TT_ok Tryz.func176 rfl x176 x176_ok rfl h
def s_strings_trimRightASCII (a0 a1:AV) (σ:AH) (R:AEnd→AH→Prop):Prop:=
 jn (X:=Tup [0]) (fun x1 σ=>
 aret x1.1 σ R) fun k1=>
 lp (X:=Tup [0,1]) (fun R2 y2 σ=>
 og (lenStr y2.1) fun v6=>
 og (ibin .gtr v6 (iv 0)) fun v7=>
 apick v7 (
 og (lenStr y2.1) fun v11=>
 og (ibin .sub v11 (iv 1)) fun v12=>
 og (idxStr y2.1 v12) fun v13=>
 acall TP fn_strings_asciiSet_contains [y2.2.1,v13] σ (onr (fun v14 σ=>
 og (aun .not v14) fun v15=>
 apick v15 (
 k1 (y2.1,()) σ) (
 og (lenStr y2.1) fun v18=>
 og (ibin .sub v18 (iv 1)) fun v19=>
 og (slcStr y2.1 none (some v19)) fun v20=>
 R2 (v20,y2.2.1,()) σ)) (pn R))) (
 k1 (y2.1,()) σ)) (a0,a1,()) σ
def x177:Sx:= .jn 7 [0] (.ret (Z 0)) (.lp [0,1] (Q (.lenStr (Z 0)) (D .gtr (Z 0) (Y 0) (P 0 (Q (.lenStr (Z 2)) (D .sub (Z 0) (Y 1) (Q (.idxStr (Z 4) (Z 0)) (.call 131 [(Z 6),(Z 0)] (Q (.aun .not (Z 0)) (P 0 (.jump 1 [(Z 7)]) (Q (.lenStr (Z 7)) (D .sub (Z 0) (Y 1) (Q (.slcStr (Z 9) none (some (Z 0))) (.jump 0 [(Z 0),(Z 11)])))))))))) (.jump 1 [(Z 2)])))) [(Z 1),(Z 0)])
theorem x177_ok:okF TT Tryz.f177 2 x177=true:=by decide+kernel
theorem s_strings_trimRightASCII_ok (h:s_strings_trimRightASCII a0 a1 σ R):acall TP fn_strings_trimRightASCII [a0,a1] σ R:=
 acall_okF (ρ:=[a1,a0]) TT_ok Tryz.func177 rfl x177 x177_ok rfl h
def s_slices_Clone_180 (a0:AV) (σ:AH) (R:AEnd→AH→Prop):Prop:=
 abin TT .eql ty_LLs a0 nilS fun v4=>
 apick v4 (
 aret nilS σ R) (
 bsl 1 [nilS] 0 [] σ fun v5 σ=>
 app 1 v5 a0 σ fun v7 σ=>
 aret v7 σ R)
def x180:Sx:= .cmp .eql 195 (Z 0) (.lit nilS) (P 0 (.ret (.lit nilS)) (.bsl 1 [nilS] 0 [] (.app 1 (Z 0) (Z 2) (.ret (Z 0)))))
theorem x180_ok:okF TT Tryz.f180 1 x180=true:=by decide+kernel
theorem s_slices_Clone_180_ok (h:s_slices_Clone_180 a0 σ R):acall TP fn_slices_Clone_180 [a0] σ R:=
 acall_okF (ρ:=[a0]) TT_ok Tryz.func180 rfl x180 x180_ok rfl h
end Go.Proofs.YtbppopcpgcgkkaaGreatDoor.E
/- Texts: bytes of a text, trimming by a set of bytes, names. -/
set_option linter.unusedSectionVars false
set_option linter.unusedSimpArgs false
set_option linter.unusedVariables false
namespace Go.Proofs.YtbppopcpgcgkkaaGreatDoor.E
open Go Go.RowKit
variable [L:Lam]
variable {σ:AH} {R:AEnd→AH→Prop}
abbrev u8v (n:Int):AV:= .val (.int .u8 n)
abbrev bs (l:List UInt8):ByteArray:=⟨l.toArray⟩
abbrev by8 (s:ByteArray):List UInt8:=s.data.toList
theorem bs_by8 (s:ByteArray):bs (by8 s)=s:=by cases s;simp
theorem size_by8 (s:ByteArray):s.size=(by8 s).length:=by show s.data.size=s.data.toList.length;simp
theorem size_bs (l:List UInt8):(bs l).size=l.length:=by show l.toArray.size=l.length;simp
theorem abd_nat (i d:Nat):abd (some (iv (i:Nat))) d=some i:=by simp [abd]
theorem by8_bs (l:List UInt8):by8 (bs l)=l:=by simp
theorem ga_bs {l:List UInt8} {i:Nat} (h:i<l.length):(bs l)[i]? =some l[i]:=by
 have h':i<(bs l).size:=by rw [size_bs];exact h
 rw [getElem?_pos (bs l) i h']
 rfl
theorem idxStr_bs {l:List UInt8} {i:Nat} (h:i<l.length):idxStr (str (bs l)) (.val (.int .i64 (i:Int)))=some (u8v (l[i].toNat:Nat)):=by
 simp only [idxStr,Int.toNat_natCast,ga_bs h]
 rw [if_pos (by omega)]
theorem slc_from1 {b:UInt8} {l:List UInt8}:slcStr (str (bs (b::l))) (some (.val (.int .i64 1))) none=some (str (bs l)):=by
 have e1:abd (some (AV.val (.int .i64 1))) 0=some 1:=rfl
 have e2:abd none (bs (b::l)).size=some (bs (b::l)).size:=rfl
 simp only [slcStr,e1,e2]
 rw [if_pos ⟨by rw [size_bs];simp,Nat.le_refl _⟩]
 congr 3
 apply ByteArray.ext
 rw [ByteArray.data_extract,size_bs];simp
theorem slc_init {b:UInt8} {l:List UInt8}:slcStr (str (bs (l++[b]))) none (some (.val (.int .i64 (l.length:Nat))))=some (str (bs l)):=by
 have e1:abd none 0=some 0:=rfl
 have e2:abd (some (AV.val (.int .i64 ((l.length:Nat):Int)))) (bs (l++[b])).size=some l.length:=abd_nat _ _
 simp only [slcStr,e1,e2]
 rw [if_pos ⟨Nat.zero_le _,by rw [size_bs];simp⟩]
 congr 3
 apply ByteArray.ext
 rw [ByteArray.data_extract];simp
theorem ibin_cmp8 (a b:Int):ibin .geq (u8v a) (u8v b)=some (bv (decide (b≤a)))∧ibin .leq (u8v a) (u8v b)=some (bv (decide (a≤b)))∧ibin .lss (u8v a) (u8v b)=some (bv (decide (a<b)))∧ibin .gtr (u8v a) (u8v b)=some (bv (decide (b<a)))∧
  ibin .eql (u8v a) (u8v b)=some (bv (decide (a=b)))∧ibin .neq (u8v a) (u8v b)=some (bv (!decide (a=b))):=⟨id rfl,id rfl,id rfl,id rfl,id rfl,id rfl⟩
theorem lod_rop {cs:List AV} {off:Nat} {σ:AH}:lod (.rop cs off) σ=cs[off]? :=by
 unfold lod acellsAt
 simp only []
 rcases Nat.lt_or_ge off cs.length with h|h
 ·rw [List.drop_eq_getElem_cons h,List.getElem?_eq_getElem h]
 ·rw [List.drop_eq_nil_of_le h,List.getElem?_eq_none h]
theorem dropWhile_nil (p:UInt8→Bool):∀l:List UInt8,l.dropWhile p=[]↔∀b,b∈l→p b=true:=by
 intro l
 induction l with
 |nil=>simp
 |cons b l ih=>
  rw [List.dropWhile_cons]
  by_cases h:p b=true
  ·rw [if_pos h,ih];simp [h]
  ·rw [if_neg h];simp [h]
theorem any_contains (c:List UInt8) (b:UInt8):(c.any fun x=>x.toNat==b.toNat)=c.contains b:=by
 induction c with
 |nil=>rfl
 |cons x c ih=>
  rw [List.any_cons,List.contains_cons,ih]
  congr 1
  by_cases e:x=b
  ·subst e;simp
  ·have h1:x.toNat≠b.toNat:=fun h=>e (UInt8.toNat_inj.1 h)
   have h2:(x.toNat==b.toNat)=false:=by simpa using h1
   have h3:(b==x)=false:=by simpa using Ne.symm e
   rw [h2,h3]
def setC (c:List UInt8):List AV:=(List.range 256).map fun j=>bv (c.any fun b=>b.toNat==j)
theorem setC_len (c:List UInt8):(setC c).length=256:=by simp [setC]
theorem setC_nil:setC []=List.replicate 256 (bv false):=by
 unfold setC
 simp only [List.any_nil]
 rw [List.map_const',List.length_range]
theorem setC_at (c:List UInt8) {n:Nat} (h:n<256):(setC c)[n]? =some (bv (c.any fun b=>b.toNat==n)):=by simp [setC,h]
theorem setC_snoc (c:List UInt8) (b:UInt8):(setC c).set b.toNat (bv true)=setC (c++[b]):=by
 apply List.ext_getElem?
 intro j
 by_cases hj:j<256
 ·rw [setC_at _ hj,List.getElem?_set]
  by_cases e:b.toNat=j
  ·rw [if_pos e,if_pos (by rw [setC_len];exact e▸hj)];simp [e]
  ·rw [if_neg e,setC_at _ hj];simp [e]
 ·rw [List.getElem?_eq_none (by rw [List.length_set,setC_len];omega),List.getElem?_eq_none (by rw [setC_len];omega)]
theorem u8_lt (b:UInt8):b.toNat<256:=b.toNat_lt
theorem c_strings_makeASCIISet {c:List UInt8} (hc:∀b,b∈c→b.toNat<128) (hl:c.length≤1000000) (h:R (.ret (.tup [.agg (setC c),bv true])) σ):acall TP fn_strings_makeASCIISet [str (bs c)] σ R:=by
 refine s_strings_makeASCIISet_ok ?_
 unfold s_strings_makeASCIISet
 intro φ hφ
 simp only [List.length_replicate]
 refine lp_for c.length (fun i=>(str (bs c),.ptr φ 0 0 0,iv (i:Int),())) (fun i σ'=>σ'=σ.set φ ⟨0,256,[setC (c.take i)]⟩) rfl (by rw [List.take_zero,setC_nil]) ?_
 rintro i σ' hi rfl R' hR'
 have hF:(σ.set φ ⟨0,256,[setC (c.take i)]⟩) φ=some ⟨0,256,[setC (c.take i)]⟩:=AH.set_same ..
 have hsz:(bs c).size=c.length:=size_bs c
 simp only [RR,hsz]
 by_cases hlt:i<c.length
 ·have g:(i:Int)<(c.length:Int):=by omega
  have hb:=hc _ (List.getElem_mem hlt)
  have g2:¬(128:Int)≤((c[i].toNat:Nat):Int):=by omega
  have e1:idxArr 256 1 (.ptr φ 0 0 0) (u8v (c[i].toNat:Nat))=some (.ptr φ 0 0 c[i].toNat):=by
   simp only [idxArr]
   rw [if_pos ⟨by omega,by omega⟩];simp
  simp only [g,idxStr_bs hlt,ibin_cmp8,g2,e1,ibin_up hlt (by omega),RR]
  refine sto_fld (sz:=256) (off:=c[i].toNat) (i:=0) (cs:=setC (c.take i)) (v:=bv true) hF rfl (u8_lt _) rfl rfl ?_
  have ht:c.take i++[c[i]]=c.take (i+1):=List.take_append_getElem hlt
  simp only [List.set_cons_zero,AH.set_set,setC_snoc,ht]
  exact hR' hlt _ _ (.refl _) rfl
 ·have g:¬(i:Int)<(c.length:Int):=by omega
  obtain rfl:i=c.length:=by omega
  rw [List.take_length] at hF ⊢
  have e1:=lodA_at (σ:=σ.set φ ⟨0,256,[setC c]⟩) (st:=0) (i:=0) (n:=256) (cs:=setC c) hF rfl rfl (setC_len c)
  simp only [g,e1,RR]
  refine sto_own (es:=[setC c]) (cs:=setC c) hF (by simp) (setC_len c) rfl (setC_len c) ?_ ?_
  ·intro x hx
   obtain ⟨j,_,rfl⟩:=List.mem_map.1 hx;rfl
  simp only [List.set_cons_zero,AH.set_set,e1,RR]
  exact aret_sub (sub_set (.refl _) hφ) h
theorem c_strings_asciiSet_contains {c:List UInt8} {b:UInt8} (h:R (.ret (bv (c.contains b))) σ):acall TP fn_strings_asciiSet_contains [.rop (setC c) 0,u8v (b.toNat:Nat)] σ R:=by
 refine s_strings_asciiSet_contains_ok ?_
 unfold s_strings_asciiSet_contains
 have e1:idxArr 256 1 (.rop (setC c) 0) (u8v (b.toNat:Nat))=some (.rop (setC c) b.toNat):=by
  have:=u8_lt b
  simp only [idxArr]
  rw [if_pos ⟨by omega,by omega⟩];simp
 have e2:lod (.rop (setC c) b.toNat) σ=some (bv (c.contains b)):=by
  have hb:=u8_lt b
  have hi:b.toNat<(setC c).length:=by rw [setC_len];exact hb
  have e:=setC_at c hb
  rw [lod_rop,e,any_contains]
 simp only [RR,e1,e2]
 exact ret_here h
def trimL (p:UInt8→Bool) (l:List UInt8):List UInt8:=l.dropWhile p
def trimR (p:UInt8→Bool) (l:List UInt8):List UInt8:=(l.reverse.dropWhile p).reverse
theorem trimR_snoc (p:UInt8→Bool) (l:List UInt8) (b:UInt8):trimR p (l++[b])=if p b then trimR p l else l++[b]:=by
 unfold trimR
 rw [List.reverse_append]
 simp only [List.reverse_cons,List.reverse_nil,List.nil_append,List.singleton_append,List.dropWhile_cons]
 split<;>simp
theorem trim_nil (p:UInt8→Bool):∀l:List UInt8,trimL p (trimR p l)=[]↔l.all p=true:=by
 intro l
 have hR:trimR p l=[]↔l.all p=true:=by
  unfold trimR
  rw [List.reverse_eq_nil_iff,dropWhile_nil]
  simp [List.all_eq_true]
 constructor
 ·intro h
  unfold trimL at h
  rw [dropWhile_nil] at h
  refine hR.1 ?_
  by_cases e:trimR p l=[]
  ·exact e
  ·exfalso
   have hne:l.reverse.dropWhile p≠[]:=fun h'=>e (by unfold trimR;rw [h'];rfl)
   have h1:=List.head_dropWhile_not p hne
   have h2:=h ((l.reverse.dropWhile p).head hne) (by unfold trimR;rw [List.mem_reverse];exact List.head_mem hne)
   rw [h1] at h2;cases h2
 ·intro h
  rw [hR.2 h];rfl
theorem c_strings_trimRightASCII {c l:List UInt8} (hl:l.length≤1000000) (h:R (.ret (str (bs (trimR c.contains l)))) σ):acall TP fn_strings_trimRightASCII [str (bs l),.rop (setC c) 0] σ R:=by
 refine s_strings_trimRightASCII_ok ?_
 unfold s_strings_trimRightASCII
 refine jn_of (fun x σ'=>σ'=σ∧x=(str (bs (trimR c.contains l)),())) ?_ ?_
 ·rintro x σ' ⟨rfl,rfl⟩;exact ret_here h
 intro k hk
 refine lp_by (fun n x σ'=>∃l',x=(str (bs l'),.rop (setC c) 0,())∧σ'=σ∧l'.length=n∧n≤1000000∧trimR c.contains l'=trimR c.contains l) l.length ⟨l,rfl,rfl,rfl,hl,rfl⟩ ?_
 rintro n x σ' ⟨l',rfl,rfl,hn,hn2,ht⟩ R' hR'
 have hsz:(bs l').size=l'.length:=size_bs l'
 simp only [RR,hsz]
 rcases List.eq_nil_or_concat l' with rfl|⟨m,b,rfl⟩
 ·have e:trimR c.contains l=[]:=ht.symm
  have g:¬(0:Int)<(([]:List UInt8).length:Int):=by simp
  simp only [g,RR]
  exact hk _ _ ⟨rfl,by rw [e];rfl⟩
 ·rw [List.concat_eq_append] at ht hn hsz ⊢
  have hlen:(m++[b]).length=m.length+1:=by simp
  have g:(0:Int)<((m++[b]).length:Int):=by omega
  have e1:ibin .sub (.val (.int .i64 ((m++[b]).length:Int))) (.val (.int .i64 1))=some (iv (m.length:Nat)):=by rw [ibin_sub (by omega) (by omega)];congr 3;omega
  have e2:idxStr (str (bs (m++[b]))) (.val (.int .i64 (m.length:Nat)))=some (u8v (b.toNat:Nat)):=by
   rw [idxStr_bs (by omega)];simp
  rw [trimR_snoc] at ht
  simp only [g,e1,e2,hsz,RR]
  refine c_strings_asciiSet_contains ?_
  by_cases hb:c.contains b=true
  ·rw [if_pos hb] at ht
   simp only [hb,e1,slc_init,RR]
   exact hR' _ _ m.length σ' (by omega) (.refl _) ⟨m,rfl,rfl,rfl,by omega,ht⟩
  ·rw [if_neg hb] at ht
   have hb':c.contains b=false:=by simpa using hb
   simp only [hb',RR]
   exact hk _ _ ⟨rfl,by rw [ht];rfl⟩
theorem c_strings_trimLeftASCII {c l:List UInt8} (hl:l.length≤1000000) (h:R (.ret (str (bs (trimL c.contains l)))) σ):acall TP fn_strings_trimLeftASCII [str (bs l),.rop (setC c) 0] σ R:=by
 refine s_strings_trimLeftASCII_ok ?_
 unfold s_strings_trimLeftASCII
 refine jn_of (fun x σ'=>σ'=σ∧x=(str (bs (trimL c.contains l)),())) ?_ ?_
 ·rintro x σ' ⟨rfl,rfl⟩;exact ret_here h
 intro k hk
 refine lp_by (fun n x σ'=>∃l',x=(str (bs l'),.rop (setC c) 0,())∧σ'=σ∧l'.length=n∧n≤1000000∧trimL c.contains l'=trimL c.contains l) l.length ⟨l,rfl,rfl,rfl,hl,rfl⟩ ?_
 rintro n x σ' ⟨l',rfl,rfl,hn,hn2,ht⟩ R' hR'
 have hsz:(bs l').size=l'.length:=size_bs l'
 simp only [RR,hsz]
 match l',ht,hn,hsz with
 |[],ht,hn,hsz=>
  have e:trimL c.contains l=[]:=ht.symm
  have g:¬(0:Int)<(([]:List UInt8).length:Int):=by simp
  simp only [g,RR]
  exact hk _ _ ⟨rfl,by rw [e];rfl⟩
 |b::m,ht,hn,hsz=>
  have g:(0:Int)<((b::m).length:Int):=by rw [List.length_cons];omega
  have e2:idxStr (str (bs (b::m))) (.val (.int .i64 0))=some (u8v (b.toNat:Nat)):=idxStr_bs (l:=b::m) (i:=0) (by simp)
  unfold trimL at ht
  rw [List.dropWhile_cons] at ht
  simp only [g,e2,RR]
  refine c_strings_asciiSet_contains ?_
  by_cases hb:c.contains b=true
  ·rw [if_pos hb] at ht
   simp only [hb,slc_from1,RR]
   exact hR' _ _ m.length σ' (by simp at hn;omega) (.refl _) ⟨m,rfl,rfl,rfl,by simp at hn;omega,ht⟩
  ·rw [if_neg hb] at ht
   have hb':c.contains b=false:=by simpa using hb
   simp only [hb',RR]
   refine hk _ _ ⟨rfl,?_⟩
   show (str (bs (b::m)),())=(str (bs (trimL c.contains l)),())
   unfold trimL;rw [←ht]
theorem c_strings_Trim {c l:List UInt8} (hc:∀b,b∈c→b.toNat<128) (hc2:2≤c.length) (hcl:c.length≤1000000) (hl:l.length≤1000000) (h:R (.ret (str (bs (trimL c.contains (trimR c.contains l))))) σ):acall TP fn_strings_Trim [str (bs l),str (bs c)] σ R:=by
 refine s_strings_Trim_ok ?_
 unfold s_strings_Trim
 have hsz:(bs c).size=c.length:=size_bs c
 have ce:¬bs c=(⟨#[]⟩:ByteArray):=by
  intro e
  have:=congrArg ByteArray.size e
  rw [size_bs] at this
  change c.length=0 at this;omega
 have g1:¬((c.length:Int)=1):=by omega
 by_cases le:l=[]
 ·subst le
  have e:(bs ([]:List UInt8))=(⟨#[]⟩:ByteArray):=rfl
  simp only [e,sbin_eql',RR]
  exact ret_here h
 ·have e:¬bs l=(⟨#[]⟩:ByteArray):=by
   intro e
   have:=congrArg ByteArray.size e
   rw [size_bs] at this
   exact le (List.eq_nil_of_length_eq_zero this)
  simp only [e,ce,sbin_eql',hsz,g1,RR]
  refine c_strings_makeASCIISet hc hcl ?_
  simp only [aext_tup,List.getElem?_cons_zero,List.getElem?_cons_succ,RR]
  refine new_frz rfl (setC_len c) List.length_replicate (fun y hy=>by obtain ⟨j,_,rfl⟩:=List.mem_map.1 hy;rfl) ?_
  refine c_strings_trimRightASCII hl ?_
  simp only [RR]
  refine c_strings_trimLeftASCII ?_ ?_
  ·have:(trimR c.contains l).length≤l.length:=by
    unfold trimR
    rw [List.length_reverse]
    have:=(List.dropWhile_sublist c.contains (l:=l.reverse)).length_le
    rwa [List.length_reverse] at this
   omega
  simp only [RR]
  exact ret_here h
end Go.Proofs.YtbppopcpgcgkkaaGreatDoor.E
/- Numbers, names, kinds. -/
namespace Go.Proofs.YtbppopcpgcgkkaaGreatDoor.E
open Go Go.RowKit
variable [L:Lam]
variable {σ:AH} {R:AEnd→AH→Prop}
def inB (lo hi x:Int):Bool:=decide (lo≤x)&&decide (x≤hi)
theorem inB_iff {lo hi x:Int}:inB lo hi x=true↔lo≤x∧x≤hi:=by simp [inB]
theorem c_impl_in {x lo hi:Int} (h:R (.ret (bv (inB lo hi x))) σ):acall TP fn_impl_in [iv x,iv lo,iv hi] σ R:=by
 refine s_impl_in_ok ?_
 unfold s_impl_in
 unfold inB at h
 by_cases h1:lo≤x
 ·simp only [h1,RR,Bool.true_and] at h ⊢;exact ret_here h
 ·simp only [h1,RR,Bool.false_and] at h ⊢;exact ret_here h
theorem c_spec_l1In {x lo hi:Int} (h:R (.ret (bv (inB lo hi x))) σ):acall TP fn_spec_l1In [iv x,iv lo,iv hi] σ R:=by
 refine s_spec_l1In_ok ?_
 unfold s_spec_l1In
 unfold inB at h
 by_cases h1:lo≤x
 ·simp only [h1,RR,Bool.true_and] at h ⊢;exact ret_here h
 ·simp only [h1,RR,Bool.false_and] at h ⊢;exact ret_here h
def numB (n:Int):Bool:=inB (-1000000000) 1000000000 n
theorem c_spec_l1Num {n:Int} (h:R (.ret (bv (numB n))) σ):acall TP fn_spec_l1Num [iv n] σ R:=s_spec_l1Num_ok (c_spec_l1In (ret_here h))
theorem c_impl_NumFault {n:Int} (h:R (.ret (iv (if numB n then 0 else 3))) σ):acall TP fn_impl_NumFault [iv n] σ R:=by
 refine s_impl_NumFault_ok (c_impl_in ?_)
 change R (.ret (iv (if inB (-1000000000) 1000000000 n then 0 else 3))) σ at h
 cases c:inB (-1000000000) 1000000000 n<;>rw [c] at h<;>simp only [RR]<;>exact ret_here h
def cutset:List UInt8:=[97,98,99,100,101,102,103,104,105,106,107,108,109,110,111,112,113,114,115,116,117,118,119,120,121,122,43,45,42,47,60,61,63,33]
def symB (b:UInt8):Bool:=cutset.contains b
def symOk (s:ByteArray):Bool:=inB 1 12 s.size&&(by8 s).all symB
theorem c_impl_SymFault {s:ByteArray} (h:R (.ret (iv (if symOk s then 0 else 5))) σ):acall TP fn_impl_SymFault [str s] σ R:=by
 refine s_impl_SymFault_ok ?_
 unfold s_impl_SymFault
 unfold symOk at h
 simp only [jn,RR]
 refine c_impl_in ?_
 cases c:inB 1 12 (s.size:Int)
 ·rw [c] at h
  simp only [RR];exact ret_here h
 ·rw [c] at h
  have hi:=inB_iff.1 c
  have hl:(by8 s).length≤1000000:=by rw [←size_by8];omega
  simp only [RR]
  rw [←bs_by8 s]
  refine c_strings_Trim (c:=cutset) (by decide) (by decide) (by decide) hl ?_
  have ht:=trim_nil symB (by8 s)
  have e:(bs (trimL cutset.contains (trimR cutset.contains (by8 s)))=(⟨#[]⟩:ByteArray))↔(by8 s).all symB=true:=by
   rw [←ht]
   constructor
   ·intro e
    have:=congrArg (fun b:ByteArray=>b.data.toList) e
    exact this
   ·intro e
    have e:trimL cutset.contains (trimR cutset.contains (by8 s))=[]:=e
    rw [e]
  cases ha:(by8 s).all symB
  ·rw [ha] at h e
   have e:¬bs (trimL cutset.contains (trimR cutset.contains (by8 s)))=(⟨#[]⟩:ByteArray):=fun h=>by have:=e.1 h;cases this
   simp only [sbin_neq',e,RR];exact ret_here h
  ·rw [ha] at h e
   have e:=e.2 rfl
   simp only [sbin_neq',e,RR];exact ret_here h
def signs:List UInt8:=[43,45,42,47,60,61,63,33]
theorem symB_eq (b:UInt8):symB b=((decide (97≤b.toNat)&&decide (b.toNat≤122))||signs.contains b):=by
 have key:∀n:Fin 256,symB (UInt8.ofNat n.val)=((decide (97≤n.val)&&decide (n.val≤122))||signs.contains (UInt8.ofNat n.val)):=by decide+kernel
 have hk:=key ⟨b.toNat,b.toNat_lt⟩
 rw [UInt8.ofNat_toNat] at hk
 exact hk
theorem c_spec_l2Byte {b:UInt8} (h:R (.ret (bv (symB b))) σ):acall TP fn_spec_l2Byte [u8v (b.toNat:Nat)] σ R:=by
 refine s_spec_l2Byte_ok ?_
 unfold s_spec_l2Byte
 rw [symB_eq] at h
 by_cases c:97≤b.toNat∧b.toNat≤122
 · have g1:(97:Int)≤((b.toNat:Nat):Int):=by omega
   have g2:((b.toNat:Nat):Int)≤122:=by omega
   simp only [ibin_cmp8,g1,g2,RR]
   rw [decide_eq_true c.1,decide_eq_true c.2] at h
   exact ret_here h
 have e:(decide (97≤b.toNat)&&decide (b.toNat≤122))=false:=by simpa using c
 rw [e,Bool.false_or] at h
 have loop:∀(i:Nat) (_:i≤signs.length) (_:∀j,j<i→signs[j]? ≠some b) (R':Tup [0,3,4]→AH→Prop),(i<signs.length→signs[i]? ≠some b→R' (u8v (b.toNat:Nat),str (bs signs),iv ((i+1:Nat):Int),()) σ)→
     (og (lenStr (str (bs signs))) fun v13=>og (ibin .lss (iv (i:Int)) v13) fun v14=>apick v14
       (og (idxStr (str (bs signs)) (iv (i:Int))) fun v19=>og (ibin .eql v19 (u8v (b.toNat:Nat))) fun v21=>apick v21 (aret (bv true) σ R)
         (og (ibin .add (iv (i:Int)) (.val (.int .i64 1))) fun v16=>R' (u8v (b.toNat:Nat),str (bs signs),v16,()) σ)) (aret (bv false) σ R)):=by
   intro i hi hj R' hR'
   have hsz:(bs signs).size=signs.length:=size_bs _
   have hsg:signs.length=8:=rfl
   by_cases hlt:i<signs.length
   · have g:(i:Int)<(signs.length:Int):=by omega
     simp only [RR,hsz,g,idxStr_bs hlt,ibin_cmp8,ibin_up hlt (by omega)]
     have e1:=List.getElem?_eq_getElem hlt
     by_cases q:signs[i]=b
     · have q1:((signs[i].toNat:Nat):Int)=((b.toNat:Nat):Int):=by rw [q]
       simp only [q1,RR]
       refine ret_here ?_
       rw [List.contains_iff_mem.2 (List.mem_of_getElem? (e1.trans (congrArg some q)))] at h
       exact h
     · have q1:¬((signs[i].toNat:Nat):Int)=((b.toNat:Nat):Int):=fun e=>q (UInt8.toNat_inj.1 (by omega))
       simp only [q1,RR]
       exact hR' hlt (by rw [e1];exact fun e=>q (Option.some.inj e))
   · have g:¬(i:Int)<(signs.length:Int):=by omega
     simp only [RR,hsz,g]
     refine ret_here ?_
     have:signs.contains b=false:=by
       rw [Bool.eq_false_iff]
       intro hc
       obtain ⟨j,hj1,hj2⟩:=List.getElem_of_mem (List.contains_iff_mem.1 hc)
       exact hj j (by omega) (by rw [List.getElem?_eq_getElem hj1,hj2])
     rw [this] at h;exact h
 have go:lp (X:=Tup [0,3,4]) (fun R1 y1 σ=>og (lenStr y1.2.1) fun v13=>og (ibin .lss y1.2.2.1 v13) fun v14=>apick v14
       (og (idxStr y1.2.1 y1.2.2.1) fun v19=>og (ibin .eql v19 y1.1) fun v21=>apick v21 (aret (bv true) σ R)
         (og (ibin .add y1.2.2.1 (.val (.int .i64 1))) fun v16=>R1 (y1.1,y1.2.1,v16,()) σ)) (aret (bv false) σ R)) (u8v (b.toNat:Nat),str (bs signs),.val (.int .i64 0),()) σ:=by
   refine lp_same signs.length (fun i=>(u8v (b.toNat:Nat),str (bs signs),iv (i:Int),())) (fun i=>∀j,j<i→signs[j]? ≠some b) rfl (fun j hj=>by omega) ?_
   intro i hi hj R' hR'
   refine loop i hi hj R' fun hlt hne=>hR' hlt ?_ σ (.refl _)
   intro j hj'
   rcases Nat.lt_or_ge j i with h1|h1
   · exact hj j h1
   · obtain rfl:j=i:=by omega
     exact hne
 by_cases h1:(97:Int)≤((b.toNat:Nat):Int)
 · have g2:¬((b.toNat:Nat):Int)≤122:=by omega
   simp only [ibin_cmp8,h1,g2,RR]
   exact go
 · simp only [ibin_cmp8,h1,RR]
   exact go
theorem all_below {i:Nat} {Q:Nat→Prop} (h:∀j,j<i→Q j) (hi:Q i):∀j,j<i+1→Q j:=by
 intro j hj
 rcases Nat.lt_or_ge j i with h1|h1
 ·exact h j h1
 ·obtain rfl:j=i:=by omega
  exact hi
theorem c_spec_l2Sym {s:ByteArray} (hs:s.size≤1099511627776) (h:R (.ret (bv (symOk s))) σ):acall TP fn_spec_l2Sym [str s] σ R:=by
 refine s_spec_l2Sym_ok ?_
 unfold s_spec_l2Sym
 unfold symOk at h
 refine lp_same (by8 s).length (fun i=>(str s,iv (i:Int),())) (fun i=>∀j (hj:j<(by8 s).length),j<i→symB (by8 s)[j]=true) rfl (fun j _ hj=>by omega) ?_
 intro i hi hj R' hR'
 have hsz:=size_by8 s
 by_cases hlt:i<(by8 s).length
 ·have g:(i:Int)<(s.size:Int):=by omega
  have e1:idxStr (str s) (iv (i:Int))=some (u8v ((by8 s)[i].toNat:Nat)):=by
   have:=idxStr_bs hlt
   rwa [bs_by8] at this
  simp only [RR,g,e1]
  refine c_spec_l2Byte ?_
  cases c:symB (by8 s)[i]
  ·simp only [RR]
   refine ret_here ?_
   have:(by8 s).all symB=false:=by
    rw [Bool.eq_false_iff]
    intro ha
    have:=List.all_eq_true.1 ha _ (List.getElem_mem hlt)
    rw [c] at this;cases this
   rw [this,Bool.and_false] at h;exact h
  ·simp only [ibin_up hlt (by omega),RR]
   refine hR' hlt ?_ σ (.refl _)
   intro j hj' hlt'
   rcases Nat.lt_or_ge j i with h1|h1
   ·exact hj j hj' h1
   ·obtain rfl:j=i:=by omega
    exact c
 ·have g:¬(i:Int)<(s.size:Int):=by omega
  simp only [RR,g]
  refine c_spec_l1In ?_
  simp only [RR]
  refine ret_here ?_
  have:(by8 s).all symB=true:=by
   rw [List.all_eq_true]
   intro b hb
   obtain ⟨j,hj1,rfl⟩:=List.getElem_of_mem hb
   exact hj j hj1 (by omega)
  rw [this,Bool.and_true] at h;exact h
def kindF (kind num:Int) (name:ByteArray):Int:=
 if kind=1 then (if numB num then 0 else 3) else if kind=2 then (if inB 0 1 num then 0 else 3) else if kind=3 then (if symOk name then 0 else 5) else 0
theorem c_impl_kindFault {kind n:Int} {s:ByteArray} (h:R (.ret (iv (kindF kind n s))) σ):acall TP fn_impl_kindFault [iv kind,iv 1,iv 3,iv 2,iv n,str s] σ R:=by
 refine s_impl_kindFault_ok ?_
 unfold s_impl_kindFault
 unfold kindF at h
 simp only [jn,RR]
 by_cases c1:kind=1
 ·simp only [c1,RR]
  rw [if_pos c1] at h
  refine c_impl_NumFault ?_
  simp only [RR];exact ret_here h
 rw [if_neg c1] at h
 simp only [c1,RR]
 by_cases c2:kind=2
 ·simp only [c2,RR]
  rw [if_pos c2] at h
  refine c_impl_in ?_
  cases c:inB 0 1 n<;>rw [c] at h<;>simp only [RR]<;>exact ret_here h
 rw [if_neg c2] at h
 simp only [c2,RR]
 by_cases c3:kind=3
 ·simp only [c3,RR]
  rw [if_pos c3] at h
  refine c_impl_SymFault ?_
  simp only [RR];exact ret_here h
 rw [if_neg c3] at h
 simp only [c3,RR]
 exact ret_here h
end Go.Proofs.YtbppopcpgcgkkaaGreatDoor.E
/- Data: their faults. -/
namespace Go.Proofs.YtbppopcpgcgkkaaGreatDoor.E
open Go Go.RowKit
variable [L:Lam]
variable {σ:AH} {R:AEnd→AH→Prop}
def upW (p:Int→Int) (at_ to:Int):Bool:=if at_<0 then false else if at_=to then true else if p at_<at_ then upW p (p at_) to else false
termination_by (at_+1).toNat
decreasing_by omega
def deepW (p:Int→Int) (at_:Int):Nat:=if at_<0 then 0 else if p at_<at_ then deepW p (p at_)+1 else 0
termination_by (at_+1).toNat
decreasing_by omega
theorem deepW_le (p:Int→Int) (n:Nat):∀at_:Int,(at_+1).toNat≤n→deepW p at_≤n:=by
 induction n with
 |zero=>intro a h;rw [deepW];split<;>omega
 |succ n ih=>
  intro a h
  rw [deepW]
  split
  ·omega
  ·split
   ·have:=ih (p a) (by omega);omega
   ·omega
theorem c_impl_isUp {f:AV} {p:Int→Int} {n from_ to:Int} (hf:∀(a:Int) (R:AEnd→AH→Prop),0≤a→a<n→R (.ret (iv (p a))) σ→acallv TP f [iv a] σ R) (hp:∀a,0≤a→a<n→p a<a) (hn:from_<n)
  (h:R (.ret (bv (upW p from_ to))) σ):acall TP fn_impl_isUp [f,iv from_,iv to] σ R:=by
 refine s_impl_isUp_ok ?_
 unfold s_impl_isUp
 refine lp_by (fun k x σ'=>∃a:Int,x=(f,iv to,iv a,())∧σ'=σ∧(a+1).toNat=k∧a<n∧upW p a to=upW p from_ to) (from_+1).toNat ⟨from_,rfl,rfl,rfl,hn,rfl⟩ ?_
 rintro k x σ' ⟨a,rfl,rfl,hk,ha,e⟩ R' hR'
 rw [upW] at e
 by_cases c0:0≤a
 ·rw [if_neg (by omega)] at e
  by_cases c1:a=to
  ·rw [if_pos c1] at e
   rw [←e] at h
   simp only [c0,c1,RR]
   have c0':0≤to:=by omega
   simp only [c0',RR]
   exact ret_here h
  ·rw [if_neg c1,if_pos (hp a c0 ha)] at e
   simp only [c0,c1,RR]
   refine hf a _ c0 ha ?_
   simp only [RR]
   have:=hp a c0 ha
   exact hR' _ _ ((p a)+1).toNat σ' (by omega) (.refl _) ⟨p a,rfl,rfl,rfl,by omega,e⟩
 ·rw [if_pos (by omega)] at e
  rw [←e] at h
  simp only [c0,RR]
  exact ret_here h
def dat (ds:List Dat) (i:Nat):Dat:=ds.getD i default
def par (ds:List Dat) (a:Int):Int:=(dat ds a.toNat).parent
theorem dat_at {ds:List Dat} {i:Nat} (h:i<ds.length):ds[i]=dat ds i:=by simp [dat,List.getD,h]
theorem dat_mem {ds:List Dat} {i:Nat} (h:i<ds.length):dat ds i∈ds:=by rw [←dat_at h];exact List.getElem_mem h
def bareB (x:Dat):Bool:=inB 1 4 x.kind&&(decide (x.kind=1)||decide (x.kind=2)||decide (x.num=0))&&(decide (x.kind=3)||decide (x.name=(⟨#[]⟩:ByteArray)))
def datF (ds:List Dat) (i:Nat):Int:=
 if bareB (dat ds i)=false then 1
 else if kindF (dat ds i).kind (dat ds i).num (dat ds i).name≠0 then kindF (dat ds i).kind (dat ds i).num (dat ds i).name
 else if i=0 then (if (dat ds i).parent≠ -1 then 3 else 0)
 else if inB 0 ((i:Int) - 1) (dat ds i).parent=false then 3
 else if (dat ds (dat ds i).parent.toNat).kind≠4∨upW (par ds) ((i:Int) - 1) (dat ds i).parent=false then 1
 else if 12<deepW (par ds) i then 2 else 0
def firstF (f:Nat→Int):Nat→Nat→Int
 |_,0=>0
 |i,n+1=>if f i≠0 then f i else firstF f (i+1) n
theorem firstF_all {f:Nat→Int}:∀(n i:Nat),(∀j,i≤j→j<i+n→f j=0)→firstF f i n=0:=by
 intro n
 induction n with
 |zero=>intro i _;rfl
 |succ n ih=>
  intro i h
  simp only [firstF]
  rw [if_neg (by rw [h i (Nat.le_refl _) (by omega)];simp)]
  exact ih _ fun j h1 h2=>h j (by omega) (by omega)
theorem firstF_at {f:Nat→Int} {k:Nat} (hk:f k≠0):∀(n i:Nat),i≤k→k<i+n→(∀j,i≤j→j<k→f j=0)→firstF f i n=f k:=by
 intro n
 induction n with
 |zero=>intro i h1 h2;omega
 |succ n ih=>
  intro i h1 h2 h
  simp only [firstF]
  by_cases e:i=k
  ·subst e;rw [if_pos hk]
  ·rw [if_neg (by rw [h i (Nat.le_refl _) (by omega)];simp)]
   exact ih _ (by omega) (by omega) fun j h1 h2=>h j (by omega) h2
theorem firstF_zero {f:Nat→Int}:∀(n i:Nat),firstF f i n=0→∀j,i≤j→j<i+n→f j=0:=by
 intro n
 induction n with
 |zero=>intro i _ j h1 h2;omega
 |succ n ih=>
  intro i h j h1 h2
  simp only [firstF] at h
  split at h
  ·rename_i hc;exact absurd h hc
  ·rename_i hc
   by_cases e:j=i
   ·subst e;simpa using hc
   ·exact ih _ h j (by omega) (by omega)
def dataF (ds:List Dat):Int:=if inB 1 80 (ds.length:Int) then firstF (datF ds) 0 ds.length else 2
def Pars (ds:List Dat) (i:Nat):Prop:=∀a:Int,0≤a→a<i→par ds a<a∧ -1≤par ds a
theorem datF_par {ds:List Dat} {i:Nat} (h:datF ds i=0):par ds (i:Int)<i∧ -1≤par ds (i:Int):=by
 unfold datF at h
 have e:((i:Int)).toNat=i:=by omega
 unfold par
 rw [e]
 split at h
 ·cases h
 split at h
 ·rename_i hk;exact absurd h hk
 split at h
 ·rename_i h0
  split at h
  ·cases h
  ·rename_i h1;omega
 ·rename_i h0
  split at h
  ·cases h
  ·rename_i h1
   have:inB 0 ((i:Int) - 1) (dat ds i).parent=true:=by simpa using h1
   have:=inB_iff.1 this
   omega
theorem pars_of {ds:List Dat} {i:Nat} (h:∀j,j<i→datF ds j=0):Pars ds i:=by
 intro a h0 h1
 have:=datF_par (h a.toNat (by omega))
 rw [show ((a.toNat:Nat):Int)=a by omega] at this
 exact this
def sD (ds:List Dat):Prop:=∀d,d∈ds→d.name.size≤1099511627776
theorem c_impl_datumFault_1 {ds:List Dat} {a:Int} (h0:0≤a) (h1:a<ds.length) (h:R (.ret (iv (par ds a))) σ):acall TP fn_impl_datumFault_1 [iv a,.rop [roD ds] 0] σ R:=by
 refine s_impl_datumFault_1_ok ?_
 unfold s_impl_datumFault_1
 have hi:a.toNat<ds.length:=by omega
 simp only [lod_one,idx_roI h0 hi len_encDat,RR,RT]
 rw [dat_at hi]
 exact ret_here h
theorem c_impl_deep {ds:List Dat} {i:Nat} (hi:i<ds.length) (hl:ds.length≤1000) (hP:Pars ds (i+1)) (h:R (.ret (iv (deepW (par ds) i:Nat))) σ):acall TP fn_impl_deep [roD ds,iv (i:Int)] σ R:=by
 refine s_impl_deep_ok ?_
 unfold s_impl_deep
 refine lp_by (fun k x σ'=>∃(a:Int) (c:Nat),x=(roD ds,iv a,iv (c:Nat),())∧σ'=σ∧(a+1).toNat=k∧a≤i∧c+deepW (par ds) a=deepW (par ds) i) ((i:Int)+1).toNat ⟨i,0,rfl,rfl,rfl,by omega,by omega⟩ ?_
 rintro k x σ' ⟨a,c,rfl,rfl,hk,ha,e⟩ R' hR'
 rw [deepW] at e
 have hd:=deepW_le (par ds) (i+1) i (by omega)
 by_cases c0:0≤a
 ·have hp:=hP a c0 (by omega)
  rw [if_neg (by omega),if_pos hp.1] at e
  have hi':a.toNat<ds.length:=by omega
  have e1:ibin .add (iv (c:Nat)) (.val (.int .i64 1))=some (iv ((c+1:Nat):Int)):=by rw [ibin_add (by omega) (by omega)];rfl
  simp only [c0,e1,idx_roI c0 hi' len_encDat,RR,RT]
  rw [dat_at hi']
  exact hR' _ _ (par ds a+1).toNat σ' (by omega) (.refl _) ⟨par ds a,c+1,rfl,rfl,rfl,by omega,by omega⟩
 ·rw [if_pos (by omega)] at e
  simp only [c0,RR]
  rw [Nat.add_zero] at e
  rw [e]
  exact ret_here h
theorem bare_not (x:Dat):(!inB 1 4 x.kind|| !decide (x.num=0)&& !decide (x.kind=1)&& !decide (x.kind=2)|| !decide (x.name={data:=#[]})&& !decide (x.kind=3))= !bareB x:=by
 unfold bareB
 generalize inB 1 4 x.kind=a
 generalize decide (x.num=0)=b
 generalize decide (x.kind=1)=c
 generalize decide (x.kind=2)=d
 generalize decide (x.kind=3)=e
 generalize decide (x.name={data:=#[]})=f
 cases a<;>cases b<;>cases c<;>cases d<;>cases e<;>cases f<;>rfl
theorem c_impl_datumFault {ds:List Dat} {i:Nat} (hi:i<ds.length) (hl:ds.length≤80) (hP:Pars ds i) (h:R (.ret (iv (datF ds i))) σ):acall TP fn_impl_datumFault [roD ds,iv (i:Int)] σ R:=by
 refine s_impl_datumFault_ok ?_
 unfold s_impl_datumFault
 refine box_frz rfl ?_
 simp only [lod_one,idx_ro hi len_encDat,RR,RT]
 refine new_encDat rfl ?_
 rw [dat_at hi]
 simp only [RR,RT]
 refine c_impl_in ?_
 simp only [RR,RT,RG,sbin_neq']
 unfold datF at h
 refine apick_cases (fun c1=>?_) (fun c1=>?_)
 ·rw [bare_not] at c1
  rw [if_pos (by simpa using c1)] at h
  exact ret_here h
 rw [bare_not] at c1
 have c1:bareB (dat ds i)=true:=by simpa using c1
 rw [if_neg (by rw [c1];simp)] at h
 refine c_impl_kindFault ?_
 simp only [RR]
 by_cases c2:kindF (dat ds i).kind (dat ds i).num (dat ds i).name=0
 case neg=>
  rw [if_pos c2] at h
  simp only [c2,RR]
  exact ret_here h
 rw [if_neg (by simpa using c2)] at h
 simp only [c2,RR]
 by_cases c3:i=0
 ·have g:((i:Int)=0):=by omega
  rw [if_pos c3] at h
  simp only [g,RR]
  by_cases c4:(dat ds i).parent= -1
  ·rw [if_neg (by simpa using c4)] at h
   simp only [c4,RR];exact ret_here h
  ·rw [if_pos c4] at h
   simp only [c4,RR];exact ret_here h
 have g:¬((i:Int)=0):=by omega
 rw [if_neg c3] at h
 have hs:ibin .sub (iv (i:Int)) (.val (.int .i64 1))=some (iv ((i:Int) - 1)):=ibin_sub (by omega) (by omega)
 simp only [g,hs,RR]
 refine c_impl_in ?_
 simp only [RR]
 refine apick_cases (fun c4=>?_) (fun c4=>?_)
 ·rw [if_pos (by simpa using c4)] at h
  exact ret_here h
 have c4:inB 0 ((i:Int) - 1) (dat ds i).parent=true:=by simpa using c4
 rw [if_neg (by rw [c4];simp)] at h
 obtain ⟨p0,p1⟩:=inB_iff.1 c4
 have hpi:(dat ds i).parent.toNat<ds.length:=by omega
 have hPar:Pars ds (i+1):=by
  intro a h0 h1
  by_cases e:a<(i:Int)
  ·exact hP a h0 e
  ·obtain rfl:a=(i:Int):=by omega
   have:par ds (i:Int)=(dat ds i).parent:=by unfold par;rw [show ((i:Int)).toNat=i by omega]
   rw [this];omega
 have tail:¬((dat ds (dat ds i).parent.toNat).kind≠4∨upW (par ds) ((i:Int) - 1) (dat ds i).parent=false)→acall TP fn_impl_deep [roD ds,iv (i:Int)] σ (onr (fun v83 σ=>og (ibin .gtr v83 (.val (.int .i64 12))) fun v84=>apick v84 (aret (.val (.int .i64 2)) σ R) (aret (.val (.int .i64 0)) σ R)) (fun v σ=>apan v σ R)):=by
  intro hc
  rw [if_neg hc] at h
  refine c_impl_deep hi (by omega) hPar ?_
  simp only [RR]
  by_cases c6:12<deepW (par ds) (i:Int)
  ·have g6:(12:Int)<((deepW (par ds) (i:Int):Nat):Int):=by omega
   rw [if_pos c6] at h
   simp only [g6,RR];exact ret_here h
  ·have g6:¬(12:Int)<((deepW (par ds) (i:Int):Nat):Int):=by omega
   rw [if_neg c6] at h
   simp only [g6,RR];exact ret_here h
 simp only [lod_one,jn,idx_roI p0 hpi len_encDat,RR,RT]
 rw [dat_at hpi]
 refine gpick_cases (fun c5=>?_) (fun c5=>?_)
 ·have c5:(dat ds (dat ds i).parent.toNat).kind≠4:=by simpa using c5
  rw [if_pos (.inl c5)] at h
  exact ret_here h
 have c5:(dat ds (dat ds i).parent.toNat).kind=4:=by simpa using c5
 refine c_impl_isUp (p:=par ds) (n:=(i:Int)) (fun a R h0 h1 h=>acallv_clo (c_impl_datumFault_1 h0 (by omega) h)) (fun a h0 h1=>(hP a h0 h1).1) (by omega) ?_
 simp only [RR]
 refine apick_cases (fun c6=>?_) (fun c6=>?_)
 ·have c6:upW (par ds) ((i:Int) - 1) (dat ds i).parent=false:=by simpa using c6
  rw [if_pos (.inr c6)] at h
  exact ret_here h
 ·have c6:upW (par ds) ((i:Int) - 1) (dat ds i).parent=true:=by simpa using c6
  exact tail (by rw [c6,c5];simp)
theorem c_impl_DataFault {ds:List Dat} (h:R (.ret (iv (dataF ds))) σ):acall TP fn_impl_DataFault [roD ds] σ R:=by
 refine s_impl_DataFault_ok ?_
 unfold s_impl_DataFault
 unfold dataF at h
 simp only [RR,RT]
 refine c_impl_in ?_
 simp only [RR]
 refine apick_cases (fun c1=>?_) (fun c1=>?_)
 ·have c1:inB 1 80 (ds.length:Int)=false:=by simpa using c1
  rw [if_neg (by rw [c1];simp)] at h
  exact ret_here h
 have c1:inB 1 80 (ds.length:Int)=true:=by simpa using c1
 rw [if_pos c1] at h
 have hl:=inB_iff.1 c1
 refine lp_same ds.length (fun i=>(roD ds,iv (ds.length:Int),iv (i:Int),())) (fun i=>∀j,j<i→datF ds j=0) rfl (fun j hj=>by omega) ?_
 intro i hi hj R' hR'
 by_cases hlt:i<ds.length
 ·have g:(i:Int)<(ds.length:Int):=by omega
  simp only [g,RR]
  refine c_impl_datumFault hlt (by omega) (pars_of hj) ?_
  simp only [RR]
  by_cases c2:datF ds i=0
  ·simp only [c2,ibin_up hlt (by omega),RR]
   exact hR' hlt (all_below hj c2) σ (.refl _)
  ·simp only [c2,RR]
   rw [firstF_at c2 ds.length 0 (Nat.zero_le _) (by omega) (fun j _ h2=>hj j h2)] at h
   exact ret_here h
 ·have g:¬(i:Int)<(ds.length:Int):=by omega
  obtain rfl:i=ds.length:=by omega
  simp only [g,RR]
  rw [firstF_all _ _ (fun j _ h2=>hj j (by omega))] at h
  exact ret_here h
end Go.Proofs.YtbppopcpgcgkkaaGreatDoor.E
/- Data: their faults, by the reference. -/
namespace Go.Proofs.YtbppopcpgcgkkaaGreatDoor.E
open Go Go.RowKit
variable [L:Lam]
variable {σ:AH} {R:AEnd→AH→Prop}
theorem c_spec_l3Bare {x:Dat} (h:R (.ret (bv (bareB x))) σ):acall TP fn_spec_l3Bare [.rop (encDat x) 0] σ R:=by
 refine s_spec_l3Bare_ok ?_
 unfold s_spec_l3Bare
 simp only [RR,RT,RG]
 refine c_spec_l1In ?_
 simp only [RR,RT,RG,sbin_eql']
 refine ret_here ?_
 unfold bareB at h
 exact h
theorem c_spec_l3Line {ds:List Dat} {i:Nat} (hi:i<ds.length) (hl:ds.length≤1000) (hP:Pars ds i) (h:R (.ret (bv (upW (par ds) ((i:Int) - 1) (dat ds i).parent&&decide ((dat ds (dat ds i).parent.toNat).kind=4)))) σ):acall TP fn_spec_l3Line [roD ds,iv (i:Int)] σ R:=by
 refine s_spec_l3Line_ok ?_
 unfold s_spec_l3Line
 simp only [ibin_sub (a:=(i:Int)) (b:=1) (by omega) (by omega),RR]
 refine lp_by (fun k x σ'=>∃a:Int,x=(roD ds,iv (i:Int),iv a,())∧σ'=σ∧(a+1).toNat=k∧a<i∧upW (par ds) a (dat ds i).parent=upW (par ds) ((i:Int) - 1) (dat ds i).parent) ((i:Int) - 1+1).toNat ⟨(i:Int) - 1,rfl,rfl,rfl,by omega,rfl⟩ ?_
 rintro k x σ' ⟨a,rfl,rfl,hk,ha,e⟩ R' hR'
 rw [upW] at e
 by_cases c0:0≤a
 ·rw [if_neg (by omega)] at e
  have ha':a.toNat<ds.length:=by omega
  simp only [c0,idx_ro hi len_encDat,idx_roI c0 ha' len_encDat,RR,RT]
  rw [dat_at hi,dat_at ha']
  by_cases c1:a=(dat ds i).parent
  ·rw [if_pos c1] at e
   rw [←e,Bool.true_and,←c1] at h
   simp only [c1,RR]
   rw [←c1]
   exact ret_here h
  ·rw [if_neg c1,if_pos (hP a c0 (by omega)).1] at e
   simp only [c1,RR]
   have:=(hP a c0 (by omega)).1
   exact hR' _ _ (par ds a+1).toNat σ' (by omega) (.refl _) ⟨par ds a,rfl,rfl,rfl,by omega,e⟩
 ·rw [if_pos (by omega)] at e
  rw [←e,Bool.false_and] at h
  simp only [c0,RR]
  exact ret_here h
theorem c_spec_l3Deep {ds:List Dat} {i:Nat} (hi:i<ds.length) (hl:ds.length≤90) (hP:Pars ds (i+1)) (h:R (.ret (iv (deepW (par ds) i:Nat))) σ):acall TP fn_spec_l3Deep [roD ds,iv (i:Int)] σ R:=by
 refine s_spec_l3Deep_ok ?_
 unfold s_spec_l3Deep
 refine lp_by (fun k x σ'=>∃(a:Int) (c:Nat),x=(roD ds,iv a,iv (c:Nat),())∧σ'=σ∧(a+1).toNat=k∧a≤i∧c+deepW (par ds) a=deepW (par ds) i) ((i:Int)+1).toNat ⟨i,0,rfl,rfl,rfl,by omega,by omega⟩ ?_
 rintro k x σ' ⟨a,c,rfl,rfl,hk,ha,e⟩ R' hR'
 rw [deepW] at e
 have hd:=deepW_le (par ds) (i+1) i (by omega)
 by_cases c0:0≤a
 ·have hp:=hP a c0 (by omega)
  rw [if_neg (by omega),if_pos hp.1] at e
  have hi':a.toNat<ds.length:=by omega
  have e1:ibin .add (iv (c:Nat)) (.val (.int .i64 1))=some (iv ((c+1:Nat):Int)):=by rw [ibin_add (by omega) (by omega)];rfl
  have g:((c:Nat):Int)<100:=by omega
  simp only [c0,g,e1,idx_roI c0 hi' len_encDat,RR,RT]
  rw [dat_at hi']
  exact hR' _ _ (par ds a+1).toNat σ' (by omega) (.refl _) ⟨par ds a,c+1,rfl,rfl,rfl,by omega,by omega⟩
 ·rw [if_pos (by omega)] at e
  simp only [c0,RR]
  rw [Nat.add_zero] at e
  rw [e]
  exact ret_here h
def kB2 (x:Dat):Bool:=(decide (x.kind=1)&& !numB x.num)||(decide (x.kind=2)&& !inB 0 1 x.num)
def kB3 (x:Dat):Bool:=decide (x.kind=3)&& !symOk x.name
theorem kindF_2 {x:Dat} (h:kB2 x=true):kindF x.kind x.num x.name=3:=by
 unfold kB2 at h
 unfold kindF
 by_cases c1:x.kind=1
 ·rw [if_pos c1];cases c:numB x.num
  ·rfl
  ·simp [c1,c] at h
 ·rw [if_neg c1]
  by_cases c2:x.kind=2
  ·rw [if_pos c2];cases c:inB 0 1 x.num
   ·rfl
   ·simp [c2,c] at h
  ·simp [c1,c2] at h
theorem kindF_3 {x:Dat} (h:kB3 x=true):kindF x.kind x.num x.name=5:=by
 unfold kB3 at h
 simp only [Bool.and_eq_true,decide_eq_true_eq,Bool.not_eq_true'] at h
 unfold kindF
 rw [if_neg (by omega),if_neg (by omega),if_pos h.1,h.2];rfl
theorem kindF_0 {x:Dat} (h:kB2 x=false) (h3:kB3 x=false):kindF x.kind x.num x.name=0:=by
 unfold kB2 at h
 unfold kB3 at h3
 unfold kindF
 by_cases c1:x.kind=1
 ·rw [if_pos c1];cases c:numB x.num
  ·simp [c1,c] at h
  ·rfl
 ·rw [if_neg c1]
  by_cases c2:x.kind=2
  ·rw [if_pos c2];cases c:inB 0 1 x.num
   ·simp [c2,c] at h
   ·rfl
  ·rw [if_neg c2]
   by_cases c3:x.kind=3
   ·rw [if_pos c3];cases c:symOk x.name
    ·simp [c3,c] at h3
    ·rfl
   ·rw [if_neg c3]
theorem c_spec_l3Fault {ds:List Dat} (hs:sD ds) (h:R (.ret (iv (dataF ds))) σ):acall TP fn_spec_l3Fault [roD ds] σ R:=by
 refine s_spec_l3Fault_ok ?_
 unfold s_spec_l3Fault
 unfold dataF at h
 simp only [RR,RT,RG]
 refine apick_cases (fun c1=>?_) (fun c1=>?_)
 ·have c1:inB 1 80 (ds.length:Int)=false:=by
   simp only [Bool.or_eq_true,decide_eq_true_eq] at c1
   rw [Bool.eq_false_iff];intro hc;have:=inB_iff.1 hc;omega
  rw [if_neg (by rw [c1];simp)] at h
  exact ret_here h
 have hl:1≤ds.length∧ds.length≤80:=by
  simp only [Bool.or_eq_false_iff,decide_eq_false_iff_not] at c1;omega
 rw [if_pos (inB_iff.2 (by omega))] at h
 refine lp_same ds.length (fun i=>(roD ds,iv (i:Int),())) (fun i=>∀j,j<i→datF ds j=0) rfl (fun j hj=>by omega) ?_
 intro i hi hj R' hR'
 by_cases hlt:i<ds.length
 case neg=>
  have g:¬(i:Int)<(ds.length:Int):=by omega
  obtain rfl:i=ds.length:=by omega
  simp only [g,RR,RT]
  rw [firstF_all _ _ (fun j _ h2=>hj j (by omega))] at h
  exact ret_here h
 have g:(i:Int)<(ds.length:Int):=by omega
 have bad:∀v:Int,datF ds i=v→v≠0→R (.ret (iv v)) σ:=fun v e hv=>by
  rw [firstF_at (by rw [e];exact hv) ds.length 0 (Nat.zero_le _) (by omega) (fun j _ h2=>hj j h2),e] at h
  exact h
 have good:datF ds i=0→R' (roD ds,iv ((i+1:Nat):Int),()) σ:=fun e=>hR' hlt (all_below hj e) σ (.refl _)
 have hP:=pars_of hj
 simp only [g,idx_ro hlt len_encDat,RR,RT]
 rw [dat_at hlt]
 refine c_spec_l3Bare ?_
 simp only [RR]
 refine apick_cases (fun c2=>?_) (fun c2=>?_)
 ·have c2:bareB (dat ds i)=false:=by simpa using c2
  exact ret_here (bad 1 (by unfold datF;rw [if_pos c2]) (by decide))
 have c2:bareB (dat ds i)=true:=by simpa using c2
 refine jn_of (fun x σ'=>σ'=σ∧x=(roD ds,iv (i:Int),.rop (encDat (dat ds i)) 0,bv (kB2 (dat ds i)),())) ?_ ?_
 rotate_left
 ·intro k hk
  unfold kB2 at hk
  simp only [RR,RT,RG]
  by_cases k1:(dat ds i).kind=1
  ·have k2:¬(dat ds i).kind=2:=by omega
   simp only [k1,RR,RT]
   refine c_spec_l1Num ?_
   simp only [k1,RR,RT,RG]
   have k3:decide ((1:Int)=2)=false:=rfl
   cases cn:numB (dat ds i).num
   ·simp only [RR,k3]
    exact hk _ _ ⟨rfl,by simp [k1,cn]<;>rfl⟩
   ·simp only [RR,k3]
    exact hk _ _ ⟨rfl,by simp [k1,k2,cn]<;>rfl⟩
  ·simp only [k1,RR,RT,RG]
   refine gpick_cases (fun k2=>?_) (fun k2=>?_)
   ·simp only [k2,RR]
    refine c_spec_l1In ?_
    simp only [RR]
    have k2:(dat ds i).kind=2:=by simpa using k2
    exact hk _ _ ⟨rfl,by simp [k2]<;>rfl⟩
   ·have k2:¬(dat ds i).kind=2:=by simpa using k2
    exact hk _ _ ⟨rfl,by simp [k1,k2]<;>rfl⟩
 rintro x σ' ⟨rfl,rfl⟩
 refine apick_cases (fun c3=>?_) (fun c3=>?_)
 ·have e:=kindF_2 c3
  exact ret_here (bad 3 (by unfold datF;rw [if_neg (by rw [c2];simp),if_pos (by rw [e];decide),e]) (by decide))
 refine jn_of (fun x σ''=>σ''=σ'∧x=(roD ds,iv (i:Int),.rop (encDat (dat ds i)) 0,bv (kB3 (dat ds i)),())) ?_ ?_
 rotate_left
 ·intro k hk
  unfold kB3 at hk
  simp only [RR,RT,RG]
  refine gpick_cases (fun k1=>?_) (fun k1=>?_)
  ·simp only [k1,RR]
   refine c_spec_l2Sym (hs _ (dat_mem hlt)) ?_
   simp only [RR]
   exact hk _ _ ⟨rfl,by rw [k1,Bool.true_and];rfl⟩
  ·exact hk _ _ ⟨rfl,by rw [k1,Bool.false_and];rfl⟩
 rintro x σ ⟨rfl,rfl⟩
 refine apick_cases (fun c4=>?_) (fun c4=>?_)
 ·have e:=kindF_3 c4
  exact ret_here (bad 5 (by unfold datF;rw [if_neg (by rw [c2];simp),if_pos (by rw [e];decide),e]) (by decide))
 have ek:=kindF_0 c3 c4
 have hd:datF ds i=if i=0 then (if (dat ds i).parent≠ -1 then 3 else 0) else if inB 0 ((i:Int) - 1) (dat ds i).parent=false then 3
   else if (dat ds (dat ds i).parent.toNat).kind≠4∨upW (par ds) ((i:Int) - 1) (dat ds i).parent=false then 1 else if 12<deepW (par ds) i then 2 else 0:=by
  unfold datF;rw [if_neg (by rw [c2];simp),if_neg (by rw [ek];simp)]
 have hsub:ibin .sub (iv (i:Int)) (.val (.int .i64 1))=some (iv ((i:Int) - 1)):=ibin_sub (by omega) (by omega)
 refine jn_of (fun x σ'=>σ'=σ∧x=(roD ds,iv (i:Int),bv ((decide (i=0)&& !decide ((dat ds i).parent= -1))||(!decide (i=0)&& !inB 0 ((i:Int) - 1) (dat ds i).parent)),())) ?_ ?_
 rotate_left
 ·intro k hk
  simp only [RR,RT,RG]
  by_cases i0:i=0
  ·have g0:(i:Int)=0:=by omega
   have g1:¬(0:Int)<(i:Int):=by omega
   simp only [g0,RR,RT,RG]
   cases cp:decide ((dat ds i).parent= -1)
   ·simp only [RR]
    exact hk _ _ ⟨rfl,by subst i0;simp [cp]<;>rfl⟩
   ·simp only [RR]
    have g3:decide ((0:Int)<0)=false:=rfl
    simp only [g3,RR]
    exact hk _ _ ⟨rfl,by subst i0;simp [cp]<;>rfl⟩
  ·have g0:¬(i:Int)=0:=by omega
   have g1:(0:Int)<(i:Int):=by omega
   simp only [g0,g1,hsub,RR,RT,RG]
   refine c_spec_l1In ?_
   simp only [RR]
   exact hk _ _ ⟨rfl,by simp [i0]<;>rfl⟩
 rintro x σ' ⟨rfl,rfl⟩
 refine apick_cases (fun c5=>?_) (fun c5=>?_)
 ·refine ret_here (bad 3 ?_ (by decide))
  rw [hd]
  by_cases i0:i=0
  ·rw [if_pos i0];rw [if_pos];simpa [i0] using c5
  ·rw [if_neg i0];rw [if_pos];simpa [i0] using c5
 by_cases i0:i=0
 ·rw [if_pos i0] at hd
  have hp:(dat ds i).parent= -1:=by simpa [i0] using c5
  rw [if_neg (by simpa using hp)] at hd
  have g1:¬(0:Int)<(i:Int):=by omega
  have hPar:Pars ds (i+1):=pars_of (all_below hj hd)
  simp only [jn,g1,RR,RT]
  refine c_spec_l3Deep hlt (by omega) hPar ?_
  have hdeep:=deepW_le (par ds) 1 (i:Int) (by omega)
  have g6:¬(12:Int)<((deepW (par ds) (i:Int):Nat):Int):=by omega
  simp only [g6,ibin_up hlt (by omega),RR]
  exact good hd
 rw [if_neg i0] at hd
 have c5:inB 0 ((i:Int) - 1) (dat ds i).parent=true:=by simpa [i0] using c5
 obtain ⟨p0,p1⟩:=inB_iff.1 c5
 rw [if_neg (by rw [c5];simp)] at hd
 have g1:(0:Int)<(i:Int):=by omega
 have hPar:Pars ds (i+1):=by
  intro a h0 h1
  by_cases e:a<(i:Int)
  ·exact hP a h0 e
  ·obtain rfl:a=(i:Int):=by omega
   have:par ds (i:Int)=(dat ds i).parent:=by unfold par;rw [show ((i:Int)).toNat=i by omega]
   rw [this];omega
 simp only [jn,g1,RR,RT]
 refine c_spec_l3Line hlt (by omega) hP ?_
 simp only [RR]
 refine apick_cases (fun c6=>?_) (fun c6=>?_)
 ·refine ret_here (bad 1 ?_ (by decide))
  rw [hd,if_pos]
  cases cu:upW (par ds) ((i:Int) - 1) (dat ds i).parent
  ·exact .inr rfl
  ·rw [cu] at c6
   exact .inl (by simpa using c6)
 have c6:upW (par ds) ((i:Int) - 1) (dat ds i).parent=true∧(dat ds (dat ds i).parent.toNat).kind=4:=by simpa using c6
 rw [if_neg (by rw [c6.1,c6.2];simp)] at hd
 refine c_spec_l3Deep hlt (by omega) hPar ?_
 simp only [RR]
 by_cases c7:12<deepW (par ds) (i:Int)
 ·have g6:(12:Int)<((deepW (par ds) (i:Int):Nat):Int):=by omega
  rw [if_pos c7] at hd
  simp only [g6,RR]
  exact ret_here (bad 2 hd (by decide))
 ·have g6:¬(12:Int)<((deepW (par ds) (i:Int):Nat):Int):=by omega
  rw [if_neg c7] at hd
  simp only [g6,ibin_up hlt (by omega),RR]
  exact good hd
end Go.Proofs.YtbppopcpgcgkkaaGreatDoor.E
/- Operations and blocks: their faults. -/
namespace Go.Proofs.YtbppopcpgcgkkaaGreatDoor.E
open Go Go.RowKit
variable [L:Lam]
variable {σ:AH} {R:AEnd→AH→Prop}
theorem fin_cell {φ n:Nat} {zs cs:List AV} (hφ:σ φ=none) (hz:zs.length=n) (hc:cs.length=n) (h1:∀x,x∈cs→x.one=true) (h:R (.ret (.agg cs)) σ):
  sto n (.ptr φ 0 0 0) (.agg cs) (σ.set φ ⟨0,n,[zs]⟩) fun σ=>og (lodA n (.ptr φ 0 0 0) σ) fun r=>aret r σ R:=by
 refine sto_own (es:=[zs]) (cs:=cs) (AH.set_same ..) (by simp) (by simpa using hz) rfl hc h1 ?_
 simp only [List.set_cons_zero,AH.set_set]
 have e:=lodA_at (σ:=σ.set φ ⟨0,n,[cs]⟩) (φ:=φ) (st:=0) (i:=0) (n:=n) (cs:=cs) (AH.set_same ..) rfl rfl hc
 simp only [e,RR]
 exact aret_sub (sub_set (.refl _) hφ) h
theorem one2 {a b:AV} (ha:a.one=true) (hb:b.one=true):∀x,x∈[a,b]→x.one=true:=by
 intro x hx
 simp only [List.mem_cons,List.not_mem_nil,or_false] at hx
 rcases hx with rfl|rfl<;>assumption
end Go.Proofs.YtbppopcpgcgkkaaGreatDoor.E
/- The harness of the laws whose results are numbers. -/
namespace Go.Proofs.YtbppopcpgcgkkaaGreatDoor.E
open Go Go.RowKit
variable [L:Lam]
variable {σ:AH} {R:AEnd→AH→Prop}
theorem lodA_all {cs:List AV} {n:Nat} (h:cs.length=n):lodA n (.rop cs 0) σ=some (.agg cs):=by
 have:=(At.rop σ cs).lodA (n:=n) (by omega)
 rw [this,List.take_of_length_le (by omega)]
def bD (N:Nat) (ds:List Dat):Prop:=ds.length≤N∧∀d,d∈ds→d.name.size≤N
theorem acells_one {v:AV} (h:v.one=true):acells v=some [v]:=by
 cases v<;>first|rfl|(cases h)|(rename_i u;cases u<;>first|rfl|cases h)
set_option maxRecDepth 100000 in
set_option maxRecDepth 100000 in
set_option maxRecDepth 100000 in
theorem dec_self {α:Type} [DecidableEq α] (a:α):(!decide (a=a))=false:=by simp
theorem box2_frz {x y:AV} {xs ys:List AV} {k:AV→AV→AH→Prop} (hx:acells x=some xs) (hy:acells y=some ys) (h:k (.rop xs 0) (.rop ys 0) σ):
  abox x σ fun v2 σ=>abox y σ fun v3 σ=>frz v2 σ fun f2 σ=>frz v3 σ fun f3 σ=>k f2 f3 σ:=by
 unfold abox;rw [hx,hy]
 intro φ1 h1 φ2 h2
 rw [AH.set_none] at h2
 rw [AH.set_comm _ _ _ (Ne.symm h2.1)]
 refine frz_cell (AH.set_none.2 ⟨Ne.symm h2.1,h1⟩) rfl ?_
 exact frz_cell h2.2 rfl h
end Go.Proofs.YtbppopcpgcgkkaaGreatDoor.E
/- Operations: what they take and put, where they lead; heights. -/
namespace Go.Proofs.YtbppopcpgcgkkaaGreatDoor.E
open Go Go.RowKit
variable [L:Lam]
variable {σ:AH} {R:AEnd→AH→Prop}
def takesN (o:OpD):Int:=if o.kind=6∨o.kind=7∨o.kind=8∨o.kind=9 then 1 else if o.kind=10 then o.a+1 else 0
def putsN (o:OpD):Int:=if o.kind=1∨o.kind=2∨o.kind=3∨o.kind=4∨o.kind=8∨o.kind=9∨o.kind=10 then 1 else if o.kind=15 then 2 else 0
def goesB (k:Int):Bool:= !(decide (k=5)||decide (k=11)||inB 12 14 k)
def tgtN (o:OpD):Int:=if o.kind=5∨o.kind=6 then o.a else if o.kind=16 then o.c else -1
def highB (o:OpD) (h:Int):Bool:=if o.kind=12 then decide (h=1) else if o.kind=11 then decide (h=o.a+1) else if o.kind=13∨o.kind=14 then decide (h=0) else decide (takesN o≤h)
end Go.Proofs.YtbppopcpgcgkkaaGreatDoor.E
/- Heights of a block: the plain law. -/
namespace Go.Proofs.YtbppopcpgcgkkaaGreatDoor.E
open Go Go.RowKit
variable [L:Lam]
def opA (os:List OpD) (i:Nat):OpD:=os.getD i default
def leads (o:OpD) (i:Nat):List Int:=(if goesB o.kind then [(i:Int)+1] else [])++(if 0≤tgtN o then [tgtN o] else [])
def nextH (o:OpD) (h:Int):Int:=h - takesN o+putsN o
inductive Reach (os:List OpD):Nat→Int→Prop
 |start:Reach os 0 0
 |step {i:Nat} {h t:Int} (hr:Reach os i h) (hi:i<os.length) (hh:highB (opA os i) h=true) (ht:t∈leads (opA os i) i):Reach os t.toNat (nextH (opA os i) h)
def atH (out:List Int) (i:Nat):Int:=out.getD i (-1)
structure HOk (os:List OpD) (out:List Int):Prop where
 len:out.length=os.length
 pos:0<os.length
 tgt:∀o,o∈os→tgtN o<os.length
 sound:∀i v,Reach os i v→i<os.length∧atH out i=v∧highB (opA os i) v=true
 own:∀i,i<os.length→atH out i= -1∨(0≤atH out i∧Reach os i (atH out i))
 bnd:∀i,i<os.length→atH out i≤1000000
open Classical in
noncomputable def hts (os:List OpD):Option (List Int):=if h:∃out,HOk os out then some h.choose else none
end Go.Proofs.YtbppopcpgcgkkaaGreatDoor.E
/- Marks: what a law writes into arguments that were lent. -/
namespace Go.Proofs.YtbppopcpgcgkkaaGreatDoor.E
open Go Go.RowKit
variable [L:Lam]
variable {σ τ:AH} {R:AEnd→AH→Prop}
theorem aconv_bytes {T:Tab} {s d:TypeId} {x:AV} {es:List (List AV)} {bs:List UInt8} {k:AV→AH→Prop} (hb:bytesT T s d=true) (hx:aelems σ x=some es) (ha:abytes es=some bs) (hn:∀u,x≠ .val (.string u)) (hi:∀kd n,x≠ .val (.int kd n))
  (h:k (.val (.string ⟨bs.toArray⟩)) σ):aconv T s d x σ k:=by
 unfold bytesT at hb
 split at hb
 case h_2=>cases hb
 rename_i ts td h1 h2
 split at hb
 case h_2=>cases hb
 rename_i e h3 h4
 split at hb
 case h_2=>cases hb
 rename_i te h5
 split at hb
 case h_2=>cases hb
 rename_i h6
 unfold aconv
 simp only [h1,h2,h3,h4,h5,h6,hx,ha]
 exact ⟨Nat.eq_of_beq_eq_true hb,hn,h⟩
theorem sbin_add (a b:ByteArray) (h:a.size+b.size≤4611686018427387904):sbin .add (.val (.string a)) (.val (.string b))=some (.val (.string (a++b))):=by
 show Option.map AV.val (if a.size+b.size≤4611686018427387904 then some (.string (a++b)) else none)=_
 rw [if_pos h]
 rfl
theorem size_one (x:UInt8):(⟨[x].toArray⟩:ByteArray).size=1:=rfl
theorem bytes_Lb:bytesT TT ty_Lb ty_s=true:=by kernel_rfl
end Go.Proofs.YtbppopcpgcgkkaaGreatDoor.E
/- Numbers as texts, by the reference; draws. -/
namespace Go.Proofs.YtbppopcpgcgkkaaGreatDoor.E
open Go Go.RowKit
set_option maxRecDepth 100000
variable [L:Lam]
def itB (n:Int):ByteArray:=⟨(Lib.itoa n).toArray⟩
theorem bs_inj {a b:List UInt8} (h:bs a=bs b):a=b:=by
 have:=congrArg (fun x:ByteArray=>x.data.toList) h
 simpa using this
theorem bs_append (a b:List UInt8):bs a++bs b=bs (a++b):=by
 apply ByteArray.ext
 simp [ByteArray.data_append]
def isDg (c:UInt8):Bool:=decide (48≤c.toNat)&&decide (c.toNat≤57)
theorem isDg_iff {c:UInt8}:isDg c=true↔48≤c.toNat∧c.toNat≤57:=by unfold isDg;rw [Bool.and_eq_true,decide_eq_true_iff,decide_eq_true_iff]
def val (acc:Nat) (l:List UInt8):Nat:=l.foldl (fun a c=>a*10+(c.toNat - 48)) acc
theorem val_cons (acc:Nat) (c:UInt8) (l:List UInt8):val acc (c::l)=val (acc*10+(c.toNat - 48)) l:=by unfold val;rw [List.foldl_cons]
theorem dg_toNat {d:Nat} (h:d<10):(UInt8.ofNat (48+d)).toNat=48+d:=by
 rw [UInt8.toNat_ofNat'];omega
theorem dg_is {d:Nat} (h:d<10):isDg (UInt8.ofNat (48+d))=true:=by
 rw [isDg_iff,dg_toNat h];omega
theorem decDigits_ten {u:Nat} (h:¬u<10):Lib.decDigits u=Lib.decDigits (u / 10)++[UInt8.ofNat (48+u % 10)]:=by rw [Lib.decDigits,dif_neg h]
theorem decDigits_dg:∀(u:Nat),∀c,c∈Lib.decDigits u→isDg c=true:=by
 intro u
 induction u using Nat.strongRecOn with
 |_ u ih=>
  intro c hc
  by_cases h:u<10
  ·rw [Lib.decDigits_one h] at hc
   rw [List.mem_singleton.1 hc]
   exact dg_is h
  ·rw [decDigits_ten h] at hc
   rcases List.mem_append.1 hc with hc|hc
   ·exact ih _ (by omega) c hc
   ·rw [List.mem_singleton.1 hc]
    exact dg_is (by omega)
theorem decDigits_len:∀(k u:Nat),u<10 ^ (k+1)→1≤(Lib.decDigits u).length∧(Lib.decDigits u).length≤k+1:=by
 intro k
 induction k with
 |zero=>
  intro u h
  rw [Lib.decDigits_one (by simpa using h)]
  simp
 |succ k ih=>
  intro u h
  by_cases c:u<10
  ·rw [Lib.decDigits_one c]
   simp
  ·rw [decDigits_ten c]
   have:=ih (u / 10) (by rw [Nat.pow_succ] at h;omega)
   simp only [List.length_append,List.length_cons,List.length_nil]
   omega
def sgnB (l:List UInt8):Bool:=match l with|c::_=>decide (c.toNat=45)|[]=>false
def dgsB (l:List UInt8):List UInt8:=if sgnB l then l.tail else l
def parOk (l:List UInt8):Bool:=decide (1≤(dgsB l).length)&&decide ((dgsB l).length≤10)&&(dgsB l).all isDg
def parV (l:List UInt8):Int:=if sgnB l then -(val 0 (dgsB l):Nat) else (val 0 (dgsB l):Nat)
theorem parseUintM_dg:∀(l:List UInt8) (acc:Nat),(∀c,c∈l→isDg c=true)→(acc+1)*10 ^ l.length≤1000000000000000000→Lib.parseUintM 18446744073709551615 acc l= .ok (val acc l)∧val acc l<(acc+1)*10 ^ l.length:=by
 intro l
 induction l with
 |nil=>intro acc _ _;exact ⟨rfl,by simp [val]⟩
 |cons c l ih=>
  intro acc hd hb
  have h1:=isDg_iff.1 (hd c (.head _))
  rw [List.length_cons,Nat.pow_succ] at hb ⊢
  have hp:1≤10 ^ l.length:=Nat.one_le_pow _ _ (by decide)
  have e:(acc+1)*(10 ^ l.length*10)=((acc+1)*10)*10 ^ l.length:=by rw [Nat.mul_comm (10 ^ l.length) 10,Nat.mul_assoc]
  rw [e] at hb ⊢
  have h2:(acc*10+(c.toNat - 48)+1)*10 ^ l.length≤((acc+1)*10)*10 ^ l.length:=Nat.mul_le_mul_right _ (by omega)
  have h3:(acc+1)*10≤((acc+1)*10)*10 ^ l.length:=Nat.le_mul_of_pos_right _ hp
  obtain ⟨i1,i2⟩:=ih (acc*10+(c.toNat - 48)) (fun x hx=>hd x (.tail _ hx)) (by omega)
  refine ⟨?_,by rw [val_cons];omega⟩
  rw [Lib.parseUintM,if_pos h1,if_neg (by omega),if_neg (by omega),i1,val_cons]
theorem val_lt {l:List UInt8} (hd:∀c,c∈l→isDg c=true) (hl:l.length≤10):val 0 l<10 ^ l.length:=by
 have hp:10 ^ l.length≤10 ^ 10:=Nat.pow_le_pow_right (by decide) hl
 have:=(parseUintM_dg l 0 hd (by rw [Nat.zero_add,Nat.one_mul];omega)).2
 omega
theorem val_lt10 {l:List UInt8} (hd:∀c,c∈l→isDg c=true) (hl:l.length≤10):val 0 l<10000000000:=by
 have:=val_lt hd hl
 have hp:10 ^ l.length≤10 ^ 10:=Nat.pow_le_pow_right (by decide) hl
 omega
def isNum (l:List UInt8):Bool:=parOk l&&(inB (-1000000000) 1000000000 (parV l)&&decide (itB (parV l)=bs l))
variable {σ τ:AH} {R:AEnd→AH→Prop}
theorem wrap8 {x:Int} (h0:0≤x) (h1:x≤255):IntKind.u8.wrap x=x:=by
 have e:x % (2 ^ IntKind.u8.bits:Int)=x:=Int.emod_eq_of_lt h0 (by simp [IntKind.bits];omega)
 unfold IntKind.wrap
 simp [e,IntKind.signed]
theorem c_l1Digits_one {n:Nat} (hn:n<10) (h:R (.ret (str (bs (Lib.decDigits n)))) σ):acall TP fn_spec_l1Digits [iv (n:Int)] σ R:=by
 refine s_spec_l1Digits_ok ?_
 unfold s_spec_l1Digits
 have g1:¬(n:Int)<0:=by omega
 have g2:(n:Int)<10:=by omega
 have e2:ibin .add (.val (.int .i64 48)) (iv (n:Int))=some (iv (48+(n:Int))):=ibin_add (by omega) (by omega)
 have e3:convI .u8 (iv (48+(n:Int)))=some (.val (.int .u8 (48+(n:Int)))):=by
  show some (AV.val (.int .u8 (IntKind.u8.wrap (48+(n:Int)))))=_
  rw [wrap8 (by omega) (by omega)]
 simp only [g1,g2,e2,e3,RR]
 refine ⟨by decide,?_⟩
 rw [if_neg (by decide)]
 intro ψ hψ
 have ha:∀w:Int,aelems (σ.set ψ ⟨0,1,[[.val (.int .u8 w)]]⟩) (.own ψ 0 0 1)=some [[.val (.int .u8 w)]]:=fun w=>by simp [aelems]
 have hb:∀w:Int,abytes [[.val (.int .u8 w)]]=some [UInt8.ofNat w.toNat]:=fun w=>rfl
 refine aconv_bytes bytes_Lb (ha _) (hb _) (by intro u h;cases h) (by intro kd n h;cases h) ?_
 have e:(⟨[UInt8.ofNat (48+(n:Int)).toNat].toArray⟩:ByteArray)=bs (Lib.decDigits n):=by
  rw [Lib.decDigits_one hn,show (48+(n:Int)).toNat=48+n by omega]
 rw [e]
 exact aret_sub (.set (.refl σ) _ hψ) h
theorem c_spec_l1Digits_nat:∀(n:Nat),n≤10000000000→∀{σ:AH} {R:AEnd→AH→Prop},R (.ret (str (bs (Lib.decDigits n)))) σ→acall TP fn_spec_l1Digits [iv (n:Int)] σ R:=by
 intro n
 induction n using Nat.strongRecOn with
 |_ n ih=>
  intro hn σ R h
  by_cases c:n<10
  ·refine c_l1Digits_one c ?_
   exact h
  refine s_spec_l1Digits_ok ?_
  unfold s_spec_l1Digits
  have g1:¬(n:Int)<0:=by omega
  have g2:¬(n:Int)<10:=by omega
  have e0:ibin .quo (iv (n:Int)) (.val (.int .i64 10))=some (iv ((n / 10:Nat):Int)):=by
   show some (iv (IntKind.i64.wrap ((n:Int).tdiv 10)))=_
   rw [Int.tdiv_eq_ediv_of_nonneg (by omega),i64_wrap (by omega) (by omega)]
   rfl
  have e1:ibin .rem (iv (n:Int)) (.val (.int .i64 10))=some (iv ((n % 10:Nat):Int)):=by
   show some (iv ((n:Int).tmod 10))=_
   rw [Int.tmod_eq_emod_of_nonneg (by omega)]
   rfl
  have e2:ibin .add (.val (.int .i64 48)) (iv ((n % 10:Nat):Int))=some (iv (48+((n % 10:Nat):Int))):=ibin_add (by omega) (by omega)
  have e3:convI .u8 (iv (48+((n % 10:Nat):Int)))=some (.val (.int .u8 (48+((n % 10:Nat):Int)))):=by
   show some (AV.val (.int .u8 (IntKind.u8.wrap _)))=_
   rw [wrap8 (by omega) (by omega)]
  have e4:∀w:Int,bslR 1 [.val (.int .u8 0)] 1 [(0,.val (.int .u8 w))]=some (.ro [[.val (.int .u8 w)]]):=fun w=>by
   show (if 1*1≤2 ^ 24∧(∀c,c∈[[AV.val (.int .u8 w)]]→c.length=1) then some (if 1=0 then AV.emp else .ro [[.val (.int .u8 w)]]) else none)=_
   rw [if_pos ⟨by decide,by simp⟩]
   rfl
  have e5:∀w:Int,b2s (.ro [[.val (.int .u8 w)]])=some (str ⟨[UInt8.ofNat w.toNat].toArray⟩):=fun w=>rfl
  simp only [g1,g2,e0,e1,e2,e3,e4,e5,RR]
  refine ih (n / 10) (by omega) (by omega) ?_
  have hl:=decDigits_len 10 (n / 10) (by omega)
  have e6:=sbin_add (bs (Lib.decDigits (n / 10))) ⟨[UInt8.ofNat (48+((n % 10:Nat):Int)).toNat].toArray⟩ (by rw [size_bs,size_one];omega)
  have e7:bs (Lib.decDigits (n / 10))++⟨[UInt8.ofNat (48+((n % 10:Nat):Int)).toNat].toArray⟩=bs (Lib.decDigits n):=by
   rw [decDigits_ten c,←bs_append,show (48+((n % 10:Nat):Int)).toNat=48+n % 10 by omega]
  rw [e7] at e6
  refine ⟨trivial,?_⟩
  simp only [e6,RR]
  exact ret_here h
theorem aun_neg {v:Int} (h0: -9223372036854775808≤ -v) (h1: -v≤9223372036854775807):aun .neg (iv v)=some (iv (-v)):=by
 show some (iv (IntKind.i64.wrap (0 - v)))=_
 rw [Int.zero_sub,i64_wrap h0 h1]
theorem c_spec_l1Digits_int {v:Int} (h0: -1000000000≤v) (h1:v≤1000000000) (h:R (.ret (str (itB v))) σ):acall TP fn_spec_l1Digits [iv v] σ R:=by
 unfold itB Lib.itoa at h
 by_cases c:v<0
 ·rw [if_pos c] at h
  refine s_spec_l1Digits_ok ?_
  unfold s_spec_l1Digits
  have e1: -v=((v.natAbs:Nat):Int):=by omega
  simp only [c,aun_neg (show -9223372036854775808≤ -v by omega) (show -v≤9223372036854775807 by omega),RR]
  rw [e1]
  refine c_spec_l1Digits_nat _ (by omega) ?_
  have hl:=decDigits_len 10 v.natAbs (by omega)
  have e6:=sbin_add ⟨#[45]⟩ (bs (Lib.decDigits v.natAbs)) (by rw [size_bs (Lib.decDigits v.natAbs)];show 1+(Lib.decDigits v.natAbs).length≤4611686018427387904;omega)
  have e7:(⟨#[45]⟩:ByteArray)++bs (Lib.decDigits v.natAbs)=bs (45::Lib.decDigits v.natAbs):=bs_append [45] _
  rw [e7] at e6
  simp only [e6,RR]
  exact ret_here h
 ·rw [if_neg c] at h
  have e1:v=((v.toNat:Nat):Int):=by omega
  rw [e1]
  exact c_spec_l1Digits_nat _ (by omega) h
theorem val_take {l:List UInt8} {j:Nat} (h:j<l.length):val 0 (l.take (j+1))=val 0 (l.take j)*10+(l[j].toNat - 48):=by
 rw [List.take_succ_eq_append_getElem h]
 unfold val
 rw [List.foldl_append,List.foldl_cons,List.foldl_nil]
theorem sub8 {x:Int} (h0:48≤x) (h1:x≤255):ibin .sub (u8v x) (u8v 48)=some (u8v (x - 48)):=by
 show some (u8v (IntKind.u8.wrap (x - 48)))=_
 rw [wrap8 (by omega) (by omega)]
theorem conv8 {x:Int} (h0:0≤x) (h1:x≤255):convI .i64 (u8v x)=some (iv x):=by
 show some (iv (IntKind.i64.wrap x))=_
 rw [i64_wrap (by omega) (by omega)]
theorem jn_by {X:Type} {B:X→AH→Prop} {E:(X→AH→Prop)→Prop} (P:X→AH→Prop) (hB:∀x σ,P x σ→B x σ) (hE:∀k:X→AH→Prop,(∀x σ,P x σ→k x σ)→E k):jn B E:=hE B hB
theorem c_spec_l1Parse {l:List UInt8} (hl:l.length≤1048576) (h1:parOk l=true→R (.ret (.tup [iv (parV l),bv (inB (-1000000000) 1000000000 (parV l)&&decide (itB (parV l)=bs l))])) σ)
  (h0:parOk l=false→R (.ret (.tup [iv 0,bv false])) σ):acall TP fn_spec_l1Parse [str (bs l)] σ R:=by
 have fin:∀v:Int,parOk l=true→v=parV l→acall TP fn_spec_l1Num [iv v] σ (onr (fun v58 σ=>
   og (gval v58 true false (some (iv v))) fun v60=>
   gpick v58 (acall TP fn_spec_l1Digits [v60] σ (onr (fun v61 σ=>og (sbin .eql v61 (str (bs l))) fun v63=>aret (.tup [iv v,v63]) σ R) (fun v σ=>apan v σ R))) (aret (.tup [iv v,bv false]) σ R) False) (fun v σ=>apan v σ R)):=by
  rintro v hok rfl
  have h1:=h1 hok
  refine c_spec_l1Num ?_
  unfold numB
  cases c:inB (-1000000000) 1000000000 (parV l) with
  |false=>
   rw [c] at h1
   simp only [RR]
   exact ret_here h1
  |true=>
   rw [c] at h1
   have:=inB_iff.1 c
   simp only [RR]
   refine c_spec_l1Digits_int this.1 this.2 ?_
   simp only [sbin_eql',RR]
   exact ret_here h1
 refine s_spec_l1Parse_ok ?_
 unfold s_spec_l1Parse
 have dm:∀m:Nat,m≤l.length→dgsB l=l.drop m→(dgsB l).length=l.length - m:=fun m h e=>by rw [e,List.length_drop]
 refine jn_by (P:=fun x τ=>τ=σ∧∃m:Nat,x=(str (bs l),iv (m:Int),())∧m≤l.length∧dgsB l=l.drop m∧sgnB l=decide ((m:Int)=1)) ?_ ?_
 ·rintro x τ ⟨rfl,m,rfl,hm,hd,hs⟩
  have hlen:=dm m hm hd
  have s1:ibin .sub (iv (l.length:Int)) (iv (m:Int))=some (iv ((dgsB l).length:Int)):=by
   rw [ibin_sub (by omega) (by omega)];congr 3;omega
  simp only [size_bs,s1,RR]
  by_cases c1:((dgsB l).length:Int)<1
  ·have hn:parOk l=false:=by
    unfold parOk
    rw [decide_eq_false (by omega)];rfl
   simp only [c1,RR]
   exact ret_here (h0 hn)
  by_cases c2:10<((dgsB l).length:Int)
  ·have hn:parOk l=false:=by
    unfold parOk
    rw [decide_eq_false (show ¬(dgsB l).length≤10 by omega),Bool.and_false];rfl
   simp only [c1,c2,s1,size_bs,RR]
   exact ret_here (h0 hn)
  simp only [c1,c2,s1,size_bs,RR]
  refine lp_same (dgsB l).length (fun j=>(str (bs l),iv (m:Int),iv ((val 0 ((dgsB l).take j):Nat):Int),iv ((m+j:Nat):Int),())) (fun j=>∀c,c∈(dgsB l).take j→isDg c=true) rfl (by simp) ?_
  intro j hj hH R2 hR2
  by_cases c3:j<(dgsB l).length
  ·have g1:((m+j:Nat):Int)<(l.length:Int):=by omega
   have hmj:m+j<l.length:=by omega
   have eb:l[m+j]=(dgsB l)[j]:=by
    have:(dgsB l)[j]? =(l.drop m)[j]? :=by rw [hd]
    rw [List.getElem?_eq_getElem c3,List.getElem?_drop,List.getElem?_eq_getElem hmj] at this
    exact (Option.some.inj this).symm
   have ix:=idxStr_bs hmj
   rw [eb] at ix
   have bad:isDg (dgsB l)[j]=false→parOk l=false:=by
    intro hf
    unfold parOk
    have:(dgsB l).all isDg=false:=by
     rw [Bool.eq_false_iff]
     intro ha
     have:=List.all_eq_true.1 ha _ (List.getElem_mem c3)
     rw [hf] at this;cases this
    rw [this,Bool.and_false]
   have hb:((dgsB l)[j].toNat:Nat)<256:=(dgsB l)[j].toNat_lt
   by_cases c4:(((dgsB l)[j].toNat:Nat):Int)<48
   ·have hf:isDg (dgsB l)[j]=false:=by
     rw [Bool.eq_false_iff];intro ht;have:=isDg_iff.1 ht;omega
    simp only [size_bs,g1,ix,ibin_cmp8,c4,RR]
    exact ret_here (h0 (bad hf))
   by_cases c5:57<(((dgsB l)[j].toNat:Nat):Int)
   ·have hf:isDg (dgsB l)[j]=false:=by
     rw [Bool.eq_false_iff];intro ht;have:=isDg_iff.1 ht;omega
    simp only [size_bs,g1,ix,ibin_cmp8,c4,c5,RR]
    exact ret_here (h0 (bad hf))
   have ht:isDg (dgsB l)[j]=true:=isDg_iff.2 (by omega)
   have hv:=val_lt10 hH (by rw [List.length_take];omega)
   have hsub:=sub8 (x:=(((dgsB l)[j].toNat:Nat):Int)) (by omega) (by omega)
   have hcv:=conv8 (x:=(((dgsB l)[j].toNat:Nat):Int) - 48) (by omega) (by omega)
   have e1:ibin .mul (iv ((val 0 ((dgsB l).take j):Nat):Int)) (iv 10)=some (iv (((val 0 ((dgsB l).take j):Nat):Int)*10)):=ibin_mul (by omega) (by omega)
   have e2:ibin .add (iv (((val 0 ((dgsB l).take j):Nat):Int)*10)) (iv ((((dgsB l)[j].toNat:Nat):Int) - 48))=some (iv ((val 0 ((dgsB l).take (j+1)):Nat):Int)):=by
    rw [ibin_add (by omega) (by omega),val_take c3];congr 3;omega
   have e3:ibin .add (iv ((m+j:Nat):Int)) (iv 1)=some (iv ((m+(j+1):Nat):Int)):=by
    rw [ibin_add (by omega) (by omega)];congr 3
   simp only [size_bs,g1,ix,ibin_cmp8,c4,c5,e1,hsub,hcv,e2,e3,RR]
   refine hR2 c3 ?_ _ (.refl _)
   intro c hc
   rw [List.take_succ_eq_append_getElem c3] at hc
   rcases List.mem_append.1 hc with hc|hc
   ·exact hH c hc
   ·rw [List.mem_singleton.1 hc];exact ht
  ·obtain rfl:j=(dgsB l).length:=by omega
   have g1:¬((m+(dgsB l).length:Nat):Int)<(l.length:Int):=by omega
   rw [List.take_length] at hH ⊢
   have hok:parOk l=true:=by
    unfold parOk
    rw [Bool.and_eq_true,Bool.and_eq_true,decide_eq_true_iff,decide_eq_true_iff,List.all_eq_true]
    exact ⟨⟨by omega,by omega⟩,hH⟩
   have hv:=val_lt10 hH (by omega)
   simp only [size_bs,g1,jn,RR]
   by_cases c6:(m:Int)=1
   ·rw [decide_eq_true c6] at hs
    simp only [c6,aun_neg (v:=((val 0 (dgsB l):Nat):Int)) (by omega) (by omega),RR]
    exact fin _ hok (by unfold parV;rw [hs];rfl)
   ·rw [decide_eq_false c6] at hs
    simp only [c6,RR]
    exact fin _ hok (by unfold parV;rw [hs];rfl)
 ·intro k hk
  cases l with
  |nil=>
   simp only [size_bs,List.length_nil,RR]
   exact hk _ _ ⟨rfl,0,rfl,by simp,rfl,rfl⟩
  |cons c r=>
   have ix:=idxStr_bs (l:=c::r) (i:=0) (by simp)
   have g1:(0:Int)<((c::r).length:Int):=by simp only [List.length_cons];omega
   have ix:idxStr (str (bs (c::r))) (iv 0)=some (u8v (c.toNat:Nat)):=ix
   by_cases c1:((c.toNat:Nat):Int)=45
   ·have hs:sgnB (c::r)=true:=by unfold sgnB;simp;omega
    simp only [size_bs,g1,ix,ibin_cmp8,c1,RR]
    exact hk _ _ ⟨rfl,1,rfl,by simp,by unfold dgsB;rw [hs];rfl,hs⟩
   ·have hs:sgnB (c::r)=false:=by unfold sgnB;simp;omega
    simp only [size_bs,g1,ix,ibin_cmp8,c1,RR]
    exact hk _ _ ⟨rfl,0,rfl,by simp,by unfold dgsB;rw [hs];rfl,hs⟩
end Go.Proofs.YtbppopcpgcgkkaaGreatDoor.E
/- Numbers read from words by the program: the plain law. -/
namespace Go.Proofs.YtbppopcpgcgkkaaGreatDoor.E
open Go Go.RowKit
variable [L:Lam]
def numP (s:ByteArray):Int × Int:=match Lib.parseIntB 64 s.data.toList with
 | .ok v=>if inB (-1000000000) 1000000000 v&&decide (itB v=s) then (v,0) else (0,5)
 |_=>(0,5)
theorem parse_ok {l:List UInt8} (h:parOk l=true):Lib.parseIntB 64 l= .ok (parV l):=by
 unfold parOk at h
 rw [Bool.and_eq_true,Bool.and_eq_true,decide_eq_true_iff,decide_eq_true_iff,List.all_eq_true] at h
 obtain ⟨⟨h1,h2⟩,h3⟩:=h
 have hp:10 ^ (dgsB l).length≤10 ^ 10:=Nat.pow_le_pow_right (by decide) h2
 have e:=(parseUintM_dg (dgsB l) 0 h3 (by rw [Nat.zero_add,Nat.one_mul];omega)).1
 have hv:=val_lt10 h3 h2
 have eb:Lib.parseUintB 64 (dgsB l)= .ok (val 0 (dgsB l)):=by
  unfold Lib.parseUintB
  rw [if_neg (by intro hc;rw [hc] at h1;simp at h1)]
  exact e
 cases l with
 |nil=>simp [dgsB,sgnB] at h1
 |cons c r=>
  unfold Lib.parseIntB
  simp only
  have hd:(if c.toNat=43∨c.toNat=45 then r else c::r)=dgsB (c::r):=by
   unfold dgsB sgnB
   by_cases c1:c.toNat=45
   ·simp [c1]
   ·by_cases c2:c.toNat=43
    ·have hx:c∈dgsB (c::r):=by simp [dgsB,sgnB,c1]
     have:=isDg_iff.1 (h3 c hx)
     omega
    ·simp [c1,c2]
  rw [hd,eb]
  simp only
  unfold parV sgnB
  by_cases c1:c.toNat=45
  ·simp only [c1,not_true,false_and,if_false,true_and,decide_true,if_true]
   rw [if_neg (by omega)]
  ·simp only [c1,not_false_iff,true_and,false_and,if_false,decide_false,Bool.false_eq_true]
   rw [if_neg (by omega)]
theorem parOk_itoa {v:Int} (h0: -1000000000≤v) (h1:v≤1000000000):parOk (Lib.itoa v)=true:=by
 have key:∀u:Nat,u≤1000000000→((decide (1≤(Lib.decDigits u).length)&&decide ((Lib.decDigits u).length≤10))&&(Lib.decDigits u).all isDg)=true:=by
  intro u hu
  have:=decDigits_len 9 u (by omega)
  rw [Bool.and_eq_true,Bool.and_eq_true,decide_eq_true_iff,decide_eq_true_iff,List.all_eq_true]
  exact ⟨⟨this.1,this.2⟩,decDigits_dg u⟩
 unfold Lib.itoa
 split
 ·have e:dgsB (45::Lib.decDigits v.natAbs)=Lib.decDigits v.natAbs:=by simp [dgsB,sgnB]
  unfold parOk
  rw [e]
  exact key _ (by omega)
 ·have e:dgsB (Lib.decDigits v.toNat)=Lib.decDigits v.toNat:=by
   unfold dgsB
   have:sgnB (Lib.decDigits v.toNat)=false:=by
    have hd:=decDigits_dg v.toNat
    cases hc:Lib.decDigits v.toNat with
    |nil=>rfl
    |cons c r=>
     rw [hc] at hd
     have:=isDg_iff.1 (hd c (.head _))
     unfold sgnB
     simp only [decide_eq_false_iff_not]
     omega
   rw [this];rfl
  unfold parOk
  rw [e]
  exact key _ (by omega)
theorem numP_bs (l:List UInt8):numP (bs l)=if isNum l then (parV l,0) else (0,5):=by
 have hl:(bs l).data.toList=l:=by simp
 unfold numP isNum
 rw [hl]
 cases hp:parOk l with
 |true=>
  rw [parse_ok hp]
  simp only [Bool.true_and]
 |false=>
  simp only [Bool.false_and,Bool.false_eq_true,if_false]
  cases h:Lib.parseIntB 64 l with
  |ok v=>
   simp only
   rw [if_neg ?_]
   intro hc
   rw [Bool.and_eq_true,decide_eq_true_iff] at hc
   have hb:=(@inB_iff lam0 _ _ _).1 hc.1
   have:l=Lib.itoa v:=(bs_inj hc.2).symm
   rw [this,parOk_itoa hb.1 hb.2] at hp
   cases hp
  |_=>rfl
end Go.Proofs.YtbppopcpgcgkkaaGreatDoor.E
/- The library's contracts at this program. -/
namespace Go.Proofs.YtbppopcpgcgkkaaGreatDoor.E
open Go Go.Proofs
open Go.Shelf
def laysM173_ren:Go.Shelf.Ren:=⟨fun|173=>103|246=>143|283=>164|284=>165|285=>166|286=>167|129=>182|317=>181|318=>183|319=>184|320=>185|337=>195|338=>196|n=>n,fun|2=>2|3=>3|9=>9|4=>4|171=>221|0=>0|53=>222|37=>135|5=>5|173=>225|212=>236|51=>237|20=>20|213=>238|46=>210|232=>257|233=>258|n=>n,fun|17=>1|18=>4|19=>5|n=>n⟩
theorem laysM173:Go.Proofs.LaysM.n173 Tryz.prog laysM173_ren:={
 mixed:=by kernel_rfl
 f129:=Tryz.func182.trans (congrArg some (by kernel_rfl))
 f173:=Tryz.func103.trans (congrArg some (by kernel_rfl))
 f246:=Tryz.func143.trans (congrArg some (by kernel_rfl))
 f283:=Tryz.func164.trans (congrArg some (by kernel_rfl))
 f284:=Tryz.func165.trans (congrArg some (by kernel_rfl))
 f285:=Tryz.func166.trans (congrArg some (by kernel_rfl))
 f286:=Tryz.func167.trans (congrArg some (by kernel_rfl))
 f317:=Tryz.func181.trans (congrArg some (by kernel_rfl))
 f318:=Tryz.func183.trans (congrArg some (by kernel_rfl))
 f319:=Tryz.func184.trans (congrArg some (by kernel_rfl))
 f320:=Tryz.func185.trans (congrArg some (by kernel_rfl))
 f337:=Tryz.func195.trans (congrArg some (by kernel_rfl))
 f338:=Tryz.func196.trans (congrArg some (by kernel_rfl))
 t0:=Tryz.underlying0
 a0:=Tryz.isAgg0
 z0:=Tryz.sizeOf0
 v0:=Tryz.zeroValue0
 t2:=Tryz.underlying2
 a2:=Tryz.isAgg2
 z2:=Tryz.sizeOf2
 v2:=Tryz.zeroValue2
 t3:=Tryz.underlying3
 a3:=Tryz.isAgg3
 z3:=Tryz.sizeOf3
 v3:=Tryz.zeroValue3
 t4:=Tryz.underlying4
 a4:=Tryz.isAgg4
 z4:=Tryz.sizeOf4
 v4:=Tryz.zeroValue4
 t5:=Tryz.underlying5
 a5:=Tryz.isAgg5
 z5:=Tryz.sizeOf5
 v5:=Tryz.zeroValue5
 t9:=Tryz.underlying9
 a9:=Tryz.isAgg9
 z9:=Tryz.sizeOf9
 v9:=Tryz.zeroValue9
 t20:=Tryz.underlying20
 a20:=Tryz.isAgg20
 z20:=Tryz.sizeOf20
 v20:=Tryz.zeroValue20
 t37:=Tryz.underlying135
 a37:=Tryz.isAgg135
 z37:=Tryz.sizeOf135
 v37:=Tryz.zeroValue135
 t46:=Tryz.underlying210
 a46:=Tryz.isAgg210
 z46:=Tryz.sizeOf210
 v46:=Tryz.zeroValue210
 t51:=Tryz.underlying237
 a51:=Tryz.isAgg237
 z51:=Tryz.sizeOf237
 v51:=Tryz.zeroValue237
 t53:=Tryz.underlying222
 a53:=Tryz.isAgg222
 z53:=Tryz.sizeOf222
 v53:=Tryz.zeroValue222
 t171:=Tryz.underlying221
 a171:=Tryz.isAgg221
 z171:=Tryz.sizeOf221
 v171:=Tryz.zeroValue221
 t173:=Tryz.underlying225
 a173:=Tryz.isAgg225
 z173:=Tryz.sizeOf225
 v173:=Tryz.zeroValue225
 t212:=Tryz.underlying236
 a212:=Tryz.isAgg236
 z212:=Tryz.sizeOf236
 v212:=Tryz.zeroValue236
 t213:=Tryz.underlying238
 a213:=Tryz.isAgg238
 z213:=Tryz.sizeOf238
 t232:=Tryz.underlying257
 a232:=Tryz.isAgg257
 z232:=Tryz.sizeOf257
 v232:=Tryz.zeroValue257
 t233:=Tryz.underlying258
 a233:=Tryz.isAgg258
 z233:=Tryz.sizeOf258
 v233:=Tryz.zeroValue258
 g17:=by kernel_rfl
 g18:=by kernel_rfl
 g19:=by kernel_rfl
 i0:=by kernel_rfl
 i2:=by kernel_rfl
 i3:=by kernel_rfl
 i4:=by kernel_rfl
 i5:=by kernel_rfl
 i9:=by kernel_rfl
 i20:=by kernel_rfl
 i37:=by kernel_rfl
 i46:=by kernel_rfl
 i51:=by kernel_rfl
 i53:=by kernel_rfl
 i171:=by kernel_rfl
 i173:=by kernel_rfl
 i212:=by kernel_rfl
 i232:=by kernel_rfl
 i233:=by kernel_rfl
 m17:=by kernel_rfl
 m18:=by kernel_rfl
 m19:=by kernel_rfl}
open Go.RowKit Go.Sort Go.Lib in
theorem sh_strconv_FormatInt_10 (n : Int) (h0 : -9223372036854775808 ≤ n) (h1 : n ≤ 9223372036854775807) (w : World) (htab : Lib.TabIs Tryz.prog w "internal/strconv.uint64pow10" .u64 Lib.pow10Tab) :
  Calls Tryz.prog 103 #[.int .i64 n,.int .i64 10] w fun e w'=>e= .returned (.string ⟨(Lib.itoa n).toArray⟩)∧∃k os,w'=grow (w.drewN k) os:=Any.strconv_FormatInt_10 laysM173 n h0 h1 w htab
def laysC174_ren:Go.Shelf.Ren:=⟨fun|174=>156|247=>172|245=>173|287=>187|279=>188|280=>189|281=>190|282=>191|321=>197|322=>198|316=>199|171=>201|205=>200|243=>204|246=>143|283=>164|284=>165|285=>166|286=>167|129=>182|317=>181|318=>183|319=>184|320=>185|337=>195|338=>196|n=>n,fun|9=>9|3=>3|2=>2|75=>162|85=>212|4=>4|167=>242|5=>5|53=>222|175=>243|46=>210|168=>245|37=>135|0=>0|210=>255|21=>21|127=>200|145=>261|143=>259|171=>221|173=>225|212=>236|51=>237|20=>20|213=>238|232=>257|233=>258|80=>165|n=>n,fun|15=>2|16=>3|17=>1|18=>4|19=>5|n=>n⟩
theorem laysC174:Go.Proofs.LaysC.n174 Tryz.prog laysC174_ren:={
 mixed:=by kernel_rfl
 f129:=Tryz.func182.trans (congrArg some (by kernel_rfl))
 f171:=Tryz.func201.trans (congrArg some (by kernel_rfl))
 f174:=Tryz.func156.trans (congrArg some (by kernel_rfl))
 f205:=Tryz.func200.trans (congrArg some (by kernel_rfl))
 f243:=Tryz.func204.trans (congrArg some (by kernel_rfl))
 f245:=Tryz.func173.trans (congrArg some (by kernel_rfl))
 f246:=Tryz.func143.trans (congrArg some (by kernel_rfl))
 f247:=Tryz.func172.trans (congrArg some (by kernel_rfl))
 f279:=Tryz.func188.trans (congrArg some (by kernel_rfl))
 f280:=Tryz.func189.trans (congrArg some (by kernel_rfl))
 f281:=Tryz.func190.trans (congrArg some (by kernel_rfl))
 f282:=Tryz.func191.trans (congrArg some (by kernel_rfl))
 f283:=Tryz.func164.trans (congrArg some (by kernel_rfl))
 f284:=Tryz.func165.trans (congrArg some (by kernel_rfl))
 f285:=Tryz.func166.trans (congrArg some (by kernel_rfl))
 f286:=Tryz.func167.trans (congrArg some (by kernel_rfl))
 f287:=Tryz.func187.trans (congrArg some (by kernel_rfl))
 f316:=Tryz.func199.trans (congrArg some (by kernel_rfl))
 f317:=Tryz.func181.trans (congrArg some (by kernel_rfl))
 f318:=Tryz.func183.trans (congrArg some (by kernel_rfl))
 f319:=Tryz.func184.trans (congrArg some (by kernel_rfl))
 f320:=Tryz.func185.trans (congrArg some (by kernel_rfl))
 f321:=Tryz.func197.trans (congrArg some (by kernel_rfl))
 f322:=Tryz.func198.trans (congrArg some (by kernel_rfl))
 f337:=Tryz.func195.trans (congrArg some (by kernel_rfl))
 f338:=Tryz.func196.trans (congrArg some (by kernel_rfl))
 t0:=Tryz.underlying0
 a0:=Tryz.isAgg0
 z0:=Tryz.sizeOf0
 v0:=Tryz.zeroValue0
 t2:=Tryz.underlying2
 a2:=Tryz.isAgg2
 z2:=Tryz.sizeOf2
 v2:=Tryz.zeroValue2
 t3:=Tryz.underlying3
 a3:=Tryz.isAgg3
 z3:=Tryz.sizeOf3
 v3:=Tryz.zeroValue3
 t4:=Tryz.underlying4
 a4:=Tryz.isAgg4
 z4:=Tryz.sizeOf4
 v4:=Tryz.zeroValue4
 t5:=Tryz.underlying5
 a5:=Tryz.isAgg5
 z5:=Tryz.sizeOf5
 v5:=Tryz.zeroValue5
 t9:=Tryz.underlying9
 a9:=Tryz.isAgg9
 z9:=Tryz.sizeOf9
 v9:=Tryz.zeroValue9
 t20:=Tryz.underlying20
 a20:=Tryz.isAgg20
 z20:=Tryz.sizeOf20
 v20:=Tryz.zeroValue20
 t21:=Tryz.underlying21
 a21:=Tryz.isAgg21
 z21:=Tryz.sizeOf21
 v21:=Tryz.zeroValue21
 t37:=Tryz.underlying135
 a37:=Tryz.isAgg135
 z37:=Tryz.sizeOf135
 v37:=Tryz.zeroValue135
 t46:=Tryz.underlying210
 a46:=Tryz.isAgg210
 z46:=Tryz.sizeOf210
 v46:=Tryz.zeroValue210
 t51:=Tryz.underlying237
 a51:=Tryz.isAgg237
 z51:=Tryz.sizeOf237
 v51:=Tryz.zeroValue237
 t53:=Tryz.underlying222
 a53:=Tryz.isAgg222
 z53:=Tryz.sizeOf222
 v53:=Tryz.zeroValue222
 t75:=Tryz.underlying162
 a75:=Tryz.isAgg162
 z75:=Tryz.sizeOf162
 v75:=Tryz.zeroValue162
 t85:=Tryz.underlying212
 a85:=Tryz.isAgg212
 z85:=Tryz.sizeOf212
 v85:=Tryz.zeroValue212
 t127:=Tryz.underlying200
 a127:=Tryz.isAgg200
 z127:=Tryz.sizeOf200
 v127:=Tryz.zeroValue200
 t143:=Tryz.underlying259
 a143:=Tryz.isAgg259
 z143:=Tryz.sizeOf259
 v143:=Tryz.zeroValue259
 t145:=Tryz.underlying261
 a145:=Tryz.isAgg261
 z145:=Tryz.sizeOf261
 v145:=Tryz.zeroValue261
 t167:=Tryz.underlying242
 a167:=Tryz.isAgg242
 z167:=Tryz.sizeOf242
 v167:=Tryz.zeroValue242
 t168:=Tryz.underlying245
 a168:=Tryz.isAgg245
 z168:=Tryz.sizeOf245
 v168:=Tryz.zeroValue245
 t171:=Tryz.underlying221
 a171:=Tryz.isAgg221
 z171:=Tryz.sizeOf221
 v171:=Tryz.zeroValue221
 t173:=Tryz.underlying225
 a173:=Tryz.isAgg225
 z173:=Tryz.sizeOf225
 v173:=Tryz.zeroValue225
 t175:=Tryz.underlying243
 a175:=Tryz.isAgg243
 z175:=Tryz.sizeOf243
 v175:=Tryz.zeroValue243
 t210:=Tryz.underlying255
 a210:=Tryz.isAgg255
 z210:=Tryz.sizeOf255
 v210:=Tryz.zeroValue255
 t212:=Tryz.underlying236
 a212:=Tryz.isAgg236
 z212:=Tryz.sizeOf236
 v212:=Tryz.zeroValue236
 t213:=Tryz.underlying238
 a213:=Tryz.isAgg238
 z213:=Tryz.sizeOf238
 t232:=Tryz.underlying257
 a232:=Tryz.isAgg257
 z232:=Tryz.sizeOf257
 v232:=Tryz.zeroValue257
 t233:=Tryz.underlying258
 a233:=Tryz.isAgg258
 z233:=Tryz.sizeOf258
 v233:=Tryz.zeroValue258
 g15:=by kernel_rfl
 g16:=by kernel_rfl
 g17:=by kernel_rfl
 g18:=by kernel_rfl
 g19:=by kernel_rfl
 t80:=Tryz.underlying165
 a80:=Tryz.isAgg165
 z80:=Tryz.sizeOf165
 v80:=Tryz.zeroValue165
 i0:=by kernel_rfl
 i2:=by kernel_rfl
 i3:=by kernel_rfl
 i4:=by kernel_rfl
 i5:=by kernel_rfl
 i9:=by kernel_rfl
 i20:=by kernel_rfl
 i21:=by kernel_rfl
 i37:=by kernel_rfl
 i46:=by kernel_rfl
 i51:=by kernel_rfl
 i53:=by kernel_rfl
 i75:=by kernel_rfl
 i80:=by kernel_rfl
 i85:=by kernel_rfl
 i127:=by kernel_rfl
 i143:=by kernel_rfl
 i145:=by kernel_rfl
 i167:=by kernel_rfl
 i168:=by kernel_rfl
 i171:=by kernel_rfl
 i173:=by kernel_rfl
 i175:=by kernel_rfl
 i210:=by kernel_rfl
 i212:=by kernel_rfl
 i232:=by kernel_rfl
 i233:=by kernel_rfl
 m15:=by kernel_rfl
 m16:=by kernel_rfl
 m17:=by kernel_rfl
 m18:=by kernel_rfl
 m19:=by kernel_rfl
 c0:=by kernel_rfl
 c2:=by kernel_rfl
 c3:=by kernel_rfl
 c4:=by kernel_rfl
 c5:=by kernel_rfl
 c9:=by kernel_rfl
 c20:=by kernel_rfl
 c21:=by kernel_rfl
 c37:=by kernel_rfl
 c46:=by kernel_rfl
 c51:=by kernel_rfl
 c53:=by kernel_rfl
 c75:=by kernel_rfl
 c80:=by kernel_rfl
 c85:=by kernel_rfl
 c127:=by kernel_rfl
 c143:=by kernel_rfl
 c145:=by kernel_rfl
 c167:=by kernel_rfl
 c168:=by kernel_rfl
 c171:=by kernel_rfl
 c173:=by kernel_rfl
 c175:=by kernel_rfl
 c210:=by kernel_rfl
 c212:=by kernel_rfl
 c213:=by kernel_rfl
 c232:=by kernel_rfl
 c233:=by kernel_rfl}
open Go.RowKit in
theorem sh_strconv_ParseInt_10_at64_ok (s:ByteArray) (hmax:s.size≤9223372036854775806) (v:Int) (h:Lib.parseIntB 64 s.data.toList= .ok v) (w:World):
  Calls Tryz.prog 156 #[.string s,.int .i64 10,.int .i64 64] w fun e w'=>e= .returned (.tuple #[.int .i64 v,.nilIface])∧(w'=w∨∃t,w'=Lib.bytesWorld w 5 t):=Any.strconv_ParseInt_10_at64_ok laysC174 s hmax v h w
open Go.RowKit in
theorem sh_strconv_ParseInt_10_at64_syntax (s:ByteArray) (hlim:s.size≤281474976710656) (h:Lib.parseIntB 64 s.data.toList=Go.Lib.NumEnd.syntax) (ev:Value) (w:World) (hv:w.cell? ⟨2,0,none⟩=some ev) (hev:ev= .nilIface∨∃te pe,ev= .iface te pe):
  Calls Tryz.prog 156 #[.string s,.int .i64 10,.int .i64 64] w fun e w'=>∃N,e= .returned (.tuple #[.int .i64 (0),.iface 245 (.pointer (some ⟨N,0,none⟩))])∧w.heap.size≤N∧w'.heap[N]? =some (.cells #[.string ⟨#[80,97,114,115,101,73,110,116]⟩,.string s,ev] 255 (0,0))∧Below w.heap.size w w':=Any.strconv_ParseInt_10_at64_syntax laysC174 s hlim h ev w hv hev
open Go.RowKit in
theorem sh_strconv_ParseInt_10_at64_range (s:ByteArray) (hlim:s.size≤281474976710656) (h:Lib.parseIntB 64 s.data.toList= .range) (ev:Value) (w:World) (hv:w.cell? ⟨3,0,none⟩=some ev) (hev:ev= .nilIface∨∃te pe,ev= .iface te pe):
  Calls Tryz.prog 156 #[.string s,.int .i64 10,.int .i64 64] w fun e w'=>∃N,e= .returned (.tuple #[.int .i64 (Lib.intSat 64 s.data.toList),.iface 245 (.pointer (some ⟨N,0,none⟩))])∧w.heap.size≤N∧w'.heap[N]? =some (.cells #[.string ⟨#[80,97,114,115,101,73,110,116]⟩,.string s,ev] 255 (0,0))∧Below w.heap.size w w':=Any.strconv_ParseInt_10_at64_range laysC174 s hlim h ev w hv hev
end Go.Proofs.YtbppopcpgcgkkaaGreatDoor.E
/- ParseNum, walked. -/
namespace Go.Proofs.YtbppopcpgcgkkaaGreatDoor.E
open Go Go.RowKit
set_option maxRecDepth 100000
theorem calls_bel {P:Program} {f:FuncId} {args:List AV} {vs:List Value} {v:Value} {W:World} (h:@acall lam0 P f args ah0 (fun e _=>e= .ret (.val v))) (hv:VRs (kap0 W) args vs):
  Calls P f vs.toArray W fun e w'=>e= .returned v∧Below W.heap.size W w':=by
 letI:Lam:=lam0
 obtain ⟨fn,h1,h2,h3,h4⟩:=h
 refine (h4 (kap0 W) W vs (rel0 W) hv).mono ?_
 rintro e w' ⟨κ',ae,σ',rfl,hs,hE⟩
 have hb:=hs.rel.bel
 rw [hs.ext.B,hs.ext.W] at hb
 cases e with
 |returned v=>cases hE;exact ⟨rfl,hb⟩
 |_=>exact hE.elim
def codeB (lo hi v:Int):Int:=if inB lo hi v then 0 else 3
theorem w_NumFault (n:Int) (w:World):Calls TP fn_impl_NumFault #[.int .i64 n] w fun e w'=>e= .returned (.int .i64 (codeB (-1000000000) 1000000000 n))∧Below w.heap.size w w':=by
 letI:Lam:=lam0
 refine calls_bel (args:=[iv n]) (vs:=[.int .i64 n]) ?_ (.cons (.val _) (.nil _))
 refine s_impl_NumFault_ok ?_
 unfold s_impl_NumFault codeB
 refine c_impl_in ?_
 cases c:inB (-1000000000) 1000000000 n<;>simp only [RR]<;>exact ret_here rfl
theorem w_dec (n : Int) (h0 : -9223372036854775808 ≤ n) (h1 : n ≤ 9223372036854775807) (w : World) (ht : Lib.TabIs Tryz.prog w "internal/strconv.uint64pow10" .u64 Lib.pow10Tab) :
  Calls Tryz.prog 53 #[.int .i64 n] w fun e w'=>e= .returned (.string (itB n))∧Below w.heap.size w w':=by
 go_enter Tryz.func53,Tryz.ntmps53
 go_wp2_with (go_at_call 103;refine (sh_strconv_FormatInt_10 n h0 h1 _ ht).mono ?_;rintro e w' ⟨rfl,k,os,rfl⟩)
 go_ret
 exact ⟨rfl,Lib.below_grow _ _ (Nat.le_refl _) _ _⟩
structure NumW (w:World):Prop where
 tab : Lib.TabIs Tryz.prog w "internal/strconv.uint64pow10" .u64 Lib.pow10Tab
 e1:∃ev,w.cell? ⟨laysC174_ren.g 15,0,none⟩=some ev∧(ev= .nilIface∨∃te pe,ev= .iface te pe)
 e2:∃ev,w.cell? ⟨laysC174_ren.g 16,0,none⟩=some ev∧(ev= .nilIface∨∃te pe,ev= .iface te pe)
theorem NumW.below {B:Nat} {w w':World} (h:NumW w) (hb:Below B w w') (hB:w.heap.size≤B):NumW w':=by
 obtain ⟨a,⟨v1,b1,c1⟩,⟨v2,b2,c2⟩⟩:=h
 exact ⟨tab_below a hb hB,⟨v1,cell_below b1 hb hB,c1⟩,⟨v2,cell_below b2 hb hB,c2⟩⟩
theorem below_res {w w1:World} {t:TypeId} {x y:Value} (hb:Below (w.alloc (.cells #[x,y] t)).heap.size (w.alloc (.cells #[x,y] t)) w1):
  w1.heap[w.heap.size]? =some (.cells #[x,y] t):=by
 rw [hb.block _ (by show w.heap.size<(w.heap.push _).size;rw [Array.size_push];omega)]
 exact heap_alloc_new w _
theorem set_res {w1:World} {b:Nat} {t:TypeId} {x y p q:Value} (h:w1.heap[b]? =some (.cells #[x,y] t)):
  ((w1.setCell ⟨b,0,none⟩ p).setCell ⟨b,1,none⟩ q).heap[b]? =some (.cells #[p,q] t):=by
 unfold World.setCell
 simp only [Array.getElem?_modify,h,if_true,Option.map_some]
 rfl
theorem res_facts {w w1 w2:World} {t:TypeId} {x y:Value} (h1:Below (w.alloc (.cells #[x,y] t)).heap.size (w.alloc (.cells #[x,y] t)) w1) (h2:Below w1.heap.size w1 w2):
  Below (w.alloc (.cells #[x,y] t)).heap.size (w.alloc (.cells #[x,y] t)) w2∧w2.heap[w.heap.size]? =some (.cells #[x,y] t)∧w2.cell? ⟨w.heap.size,0,none⟩=some x∧w2.cell? ⟨w.heap.size,1,none⟩=some y∧
   w2.frozen? ⟨w.heap.size,0,none⟩=false∧w2.frozen? ⟨w.heap.size,1,none⟩=false:=by
 have hb:=h1.trans (h2.mono h1.size)
 have hr:=below_res hb
 exact ⟨hb,hr,by simp [World.cell?,hr],by simp [World.cell?,hr],by simp [World.frozen?,hr],by simp [World.frozen?,hr]⟩
theorem w_ParseNum_syntax (s:ByteArray) (hs:s.size≤281474976710656) (w:World) (hw:NumW w) (h:Lib.parseIntB 64 s.data.toList=Go.Lib.NumEnd.syntax):
  Calls Tryz.prog 132 #[.string s] w fun e w'=>e= .returned (.agg #[.int .i64 5,.int .i64 0])∧Below w.heap.size w w':=by
 obtain ⟨ev,hv,hev⟩:=hw.e1
 have hg:laysC174_ren.g 15<w.heap.size:=World.block_lt_of_cell? (h:=hv)
 go_enter Tryz.func132,Tryz.ntmps132
 go_wp2_with (go_at_call 156;refine (sh_strconv_ParseInt_10_at64_syntax s hs h ev _ ?_ hev).mono ?_)
 ·exact cell_below hv (.alloc (.refl w.heap.size w) (Nat.le_refl _) _) (Nat.le_refl _)
 rintro e w1 ⟨N,rfl, -, -,hb⟩
 have hr:=below_res hb
 have hc0:w1.cell? ⟨w.heap.size,0,none⟩=some (.int .i64 0):=by simp [World.cell?,hr]
 have hc1:w1.cell? ⟨w.heap.size,1,none⟩=some (.int .i64 0):=by simp [World.cell?,hr]
 have hf0:w1.frozen? ⟨w.heap.size,0,none⟩=false:=by simp [World.frozen?,hr]
 have hf1:w1.frozen? ⟨w.heap.size,1,none⟩=false:=by simp [World.frozen?,hr]
 go_wp2
 (try simp only [Exit.inBlock,Exit.then])
 refine bodyPost_ret (results_cell_row Tryz.results132 _ _ w.heap.size 190 _ (0,0) _ rfl (set_res hr) Tryz.underlying190 rfl rfl) rfl ?_
 exact ⟨rfl,.setCell (.setCell ((Below.alloc (.refl w.heap.size w) (Nat.le_refl _) _).trans (hb.mono (by simp))) (Nat.le_refl _) _) (Nat.le_refl _) _⟩
theorem w_ParseNum_range (s:ByteArray) (hs:s.size≤281474976710656) (w:World) (hw:NumW w) (h:Lib.parseIntB 64 s.data.toList= .range):
  Calls Tryz.prog 132 #[.string s] w fun e w'=>e= .returned (.agg #[.int .i64 5,.int .i64 0])∧Below w.heap.size w w':=by
 obtain ⟨ev,hv,hev⟩:=hw.e2
 have hg:laysC174_ren.g 16<w.heap.size:=World.block_lt_of_cell? (h:=hv)
 go_enter Tryz.func132,Tryz.ntmps132
 go_wp2_with (go_at_call 156;refine (sh_strconv_ParseInt_10_at64_range s hs h ev _ ?_ hev).mono ?_)
 ·exact cell_below hv (.alloc (.refl w.heap.size w) (Nat.le_refl _) _) (Nat.le_refl _)
 rintro e w1 ⟨N,rfl, -, -,hb⟩
 have hr:=below_res hb
 have hc0:w1.cell? ⟨w.heap.size,0,none⟩=some (.int .i64 0):=by simp [World.cell?,hr]
 have hc1:w1.cell? ⟨w.heap.size,1,none⟩=some (.int .i64 0):=by simp [World.cell?,hr]
 have hf0:w1.frozen? ⟨w.heap.size,0,none⟩=false:=by simp [World.frozen?,hr]
 have hf1:w1.frozen? ⟨w.heap.size,1,none⟩=false:=by simp [World.frozen?,hr]
 go_wp2
 (try simp only [Exit.inBlock,Exit.then])
 refine bodyPost_ret (results_cell_row Tryz.results132 _ _ w.heap.size 190 _ (0,0) _ rfl (set_res hr) Tryz.underlying190 rfl rfl) rfl ?_
 exact ⟨rfl,.setCell (.setCell ((Below.alloc (.refl w.heap.size w) (Nat.le_refl _) _).trans (hb.mono (by simp))) (Nat.le_refl _) _) (Nat.le_refl _) _⟩
theorem w_ParseNum_far (s:ByteArray) (hs:s.size≤281474976710656) (w:World) (hw:NumW w) (v:Int) (h:Lib.parseIntB 64 s.data.toList= .ok v) (hi:inB (-1000000000) 1000000000 v=false):
  Calls Tryz.prog 132 #[.string s] w fun e w'=>e= .returned (.agg #[.int .i64 5,.int .i64 0])∧Below w.heap.size w w':=by
 have hv:=Lib.parseIntB_bounds h
 have cN:∀w,Calls Tryz.prog 157 #[.int .i64 v] w fun e w'=>e= .returned (.int .i64 3)∧Below w.heap.size w w':=fun w=>by
  have:=w_NumFault v w
  unfold codeB at this
  rw [hi] at this
  exact this
 go_enter Tryz.func132,Tryz.ntmps132
 go_wp2_with (go_at_call 156;refine (sh_strconv_ParseInt_10_at64_ok s (by omega) v h _).mono ?_;rintro e w1 ⟨rfl,hW⟩)
 have hb1:Below (w.alloc (.cells #[.int .i64 0,.int .i64 0] 190)).heap.size (w.alloc (.cells #[.int .i64 0,.int .i64 0] 190)) w1:=by
  rcases hW with rfl|⟨t,rfl⟩
  ·exact Below.refl _ _
  ·exact Lib.bytesWorld_below _ _ _
 clear hW
 go_wp2_with (go_at_call 157;refine (cN _).mono ?_;rintro e w2 ⟨rfl,hb2⟩;obtain ⟨hb2,hr,hc0,hc1,hf0,hf1⟩:=res_facts hb1 hb2)
 go_wp2
 (try simp only [Exit.inBlock,Exit.then])
 refine bodyPost_ret (results_cell_row Tryz.results132 _ _ w.heap.size 190 _ (0,0) _ rfl (set_res hr) Tryz.underlying190 rfl rfl) rfl ?_
 exact ⟨rfl,.setCell (.setCell ((Below.alloc (.refl w.heap.size w) (Nat.le_refl _) _).trans (hb2.mono (by simp))) (Nat.le_refl _) _) (Nat.le_refl _) _⟩
theorem w_ParseNum_bad (s:ByteArray) (hs:s.size≤281474976710656) (w:World) (hw:NumW w) (v:Int) (h:Lib.parseIntB 64 s.data.toList= .ok v) (hi:inB (-1000000000) 1000000000 v=true) (hd:¬itB v=s):
  Calls Tryz.prog 132 #[.string s] w fun e w'=>e= .returned (.agg #[.int .i64 5,.int .i64 0])∧Below w.heap.size w w':=by
 have hv:=Lib.parseIntB_bounds h
 have cN:∀w,Calls Tryz.prog 157 #[.int .i64 v] w fun e w'=>e= .returned (.int .i64 0)∧Below w.heap.size w w':=fun w=>by
  have:=w_NumFault v w
  unfold codeB at this
  rw [hi] at this
  exact this
 have hl:((itB v).toList==s.toList)=false:=by rw [@toList_beq lam0];simp [hd]
 go_enter Tryz.func132,Tryz.ntmps132
 go_wp2_with (go_at_call 156;refine (sh_strconv_ParseInt_10_at64_ok s (by omega) v h _).mono ?_;rintro e w1 ⟨rfl,hW⟩)
 have hb1:Below (w.alloc (.cells #[.int .i64 0,.int .i64 0] 190)).heap.size (w.alloc (.cells #[.int .i64 0,.int .i64 0] 190)) w1:=by
  rcases hW with rfl|⟨t,rfl⟩
  ·exact Below.refl _ _
  ·exact Lib.bytesWorld_below _ _ _
 clear hW
 go_wp2_with (go_at_call 157;refine (cN _).mono ?_;rintro e w2 ⟨rfl,hb2⟩;obtain ⟨hb2,hr,hc0,hc1,hf0,hf1⟩:=res_facts hb1 hb2)
 have ht : Lib.TabIs Tryz.prog w2 "internal/strconv.uint64pow10" .u64 Lib.pow10Tab := tab_below hw.tab ((Below.alloc (.refl w.heap.size w) (Nat.le_refl _) _).trans (hb2.mono (by simp))) (Nat.le_refl _)
 have i1:=(@inB_iff lam0 _ _ _).1 hi
 go_wp2_with (go_at_call 53;refine (w_dec v (by omega) (by omega) w2 ht).mono ?_;rintro e w3 ⟨rfl,hb3⟩;obtain ⟨hb3,hr,hc0,hc1,hf0,hf1⟩:=res_facts hb2 hb3)
 go_wp2
 all_goals first
  |(exfalso;simp_all;done)
  |skip
 (try simp only [Exit.inBlock,Exit.then])
 refine bodyPost_ret (results_cell_row Tryz.results132 _ _ w.heap.size 190 _ (0,0) _ rfl (set_res hr) Tryz.underlying190 rfl rfl) rfl ?_
 exact ⟨rfl,.setCell (.setCell ((Below.alloc (.refl w.heap.size w) (Nat.le_refl _) _).trans (hb3.mono (by simp))) (Nat.le_refl _) _) (Nat.le_refl _) _⟩
theorem w_ParseNum_good (s:ByteArray) (hs:s.size≤281474976710656) (w:World) (hw:NumW w) (v:Int) (h:Lib.parseIntB 64 s.data.toList= .ok v) (hi:inB (-1000000000) 1000000000 v=true) (hd:itB v=s):
  Calls Tryz.prog 132 #[.string s] w fun e w'=>e= .returned (.agg #[.int .i64 0,.int .i64 v])∧Below w.heap.size w w':=by
 have hv:=Lib.parseIntB_bounds h
 have cN:∀w,Calls Tryz.prog 157 #[.int .i64 v] w fun e w'=>e= .returned (.int .i64 0)∧Below w.heap.size w w':=fun w=>by
  have:=w_NumFault v w
  unfold codeB at this
  rw [hi] at this
  exact this
 have hl:((itB v).toList==s.toList)=true:=by rw [@toList_beq lam0];simp [hd]
 go_enter Tryz.func132,Tryz.ntmps132
 go_wp2_with (go_at_call 156;refine (sh_strconv_ParseInt_10_at64_ok s (by omega) v h _).mono ?_;rintro e w1 ⟨rfl,hW⟩)
 have hb1:Below (w.alloc (.cells #[.int .i64 0,.int .i64 0] 190)).heap.size (w.alloc (.cells #[.int .i64 0,.int .i64 0] 190)) w1:=by
  rcases hW with rfl|⟨t,rfl⟩
  ·exact Below.refl _ _
  ·exact Lib.bytesWorld_below _ _ _
 clear hW
 go_wp2_with (go_at_call 157;refine (cN _).mono ?_;rintro e w2 ⟨rfl,hb2⟩;obtain ⟨hb2,hr,hc0,hc1,hf0,hf1⟩:=res_facts hb1 hb2)
 have ht : Lib.TabIs Tryz.prog w2 "internal/strconv.uint64pow10" .u64 Lib.pow10Tab := tab_below hw.tab ((Below.alloc (.refl w.heap.size w) (Nat.le_refl _) _).trans (hb2.mono (by simp))) (Nat.le_refl _)
 have i1:=(@inB_iff lam0 _ _ _).1 hi
 go_wp2_with (go_at_call 53;refine (w_dec v (by omega) (by omega) w2 ht).mono ?_;rintro e w3 ⟨rfl,hb3⟩;obtain ⟨hb3,hr,hc0,hc1,hf0,hf1⟩:=res_facts hb2 hb3)
 go_wp2
 all_goals first
  |(exfalso;simp_all;done)
  |skip
 (try simp only [Exit.inBlock,Exit.then])
 refine bodyPost_ret (results_cell_row Tryz.results132 _ _ w.heap.size 190 _ (0,0) _ rfl (set_res hr) Tryz.underlying190 rfl rfl) rfl ?_
 exact ⟨rfl,.setCell (.setCell ((Below.alloc (.refl w.heap.size w) (Nat.le_refl _) _).trans (hb3.mono (by simp))) (Nat.le_refl _) _) (Nat.le_refl _) _⟩
theorem w_ParseNum (s:ByteArray) (hs:s.size≤281474976710656) (w:World) (hw:NumW w):
  Calls Tryz.prog 132 #[.string s] w fun e w'=>e= .returned (.agg #[.int .i64 (numP s).2,.int .i64 (numP s).1])∧Below w.heap.size w w':=by
 unfold numP
 cases h:Lib.parseIntB 64 s.data.toList with
 |range=>exact w_ParseNum_range s hs w hw h
 |ok v=>
  cases hi:inB (-1000000000) 1000000000 v with
  |false=>
   have:=w_ParseNum_far s hs w hw v h hi
   simpa [hi] using this
  |true=>
   by_cases hd:itB v=s
   ·have:=w_ParseNum_good s hs w hw v h hi hd
    simpa [hi,hd] using this
   ·have:=w_ParseNum_bad s hs w hw v h hi hd
    simpa [hi,hd] using this
 |_=>exact w_ParseNum_syntax s hs w hw h
end Go.Proofs.YtbppopcpgcgkkaaGreatDoor.E
/- The library's contracts at this program. -/
namespace Go.Proofs.YtbppopcpgcgkkaaGreatDoor.E
open Go Go.Proofs
open Go.Shelf
def lays137_ren:Go.Shelf.Ren:=⟨fun|137=>85|217=>127|266=>152|n=>n,fun|9=>9|5=>5|3=>3|n=>n,fun|n=>n⟩
theorem lays137:Go.Proofs.Lays.n137 Tryz.prog lays137_ren:={
 mixed:=by kernel_rfl
 f137:=Tryz.func85.trans (congrArg some (by kernel_rfl))
 f217:=Tryz.func127.trans (congrArg some (by kernel_rfl))
 f266:=Tryz.func152.trans (congrArg some (by kernel_rfl))
 t3:=Tryz.underlying3
 a3:=Tryz.isAgg3
 z3:=Tryz.sizeOf3
 v3:=Tryz.zeroValue3
 t5:=Tryz.underlying5
 a5:=Tryz.isAgg5
 z5:=Tryz.sizeOf5
 v5:=Tryz.zeroValue5
 t9:=Tryz.underlying9
 a9:=Tryz.isAgg9
 z9:=Tryz.sizeOf9
 v9:=Tryz.zeroValue9}
open Go.RowKit in
theorem sh_strings_IndexByte (s:ByteArray) (c:Int) (w:World):
  Calls Tryz.prog 85 #[.string s,.int .u8 c] w fun e w'=>e= .returned (.int .i64 (Lib.indexByte s.data.toList c.toNat.toUInt8))∧w'=w:=Any.strings_IndexByte lays137 s c w
def lays145_ren:Go.Shelf.Ren:=⟨fun|145=>84|220=>126|219=>151|217=>127|225=>155|224=>154|267=>171|266=>152|314=>186|n=>n,fun|9=>9|4=>4|59=>136|3=>3|5=>5|46=>210|146=>240|51=>237|n=>n,fun|1=>0|n=>n⟩
theorem lays145:Go.Proofs.Lays.n145 Tryz.prog lays145_ren:={
 mixed:=by kernel_rfl
 f145:=Tryz.func84.trans (congrArg some (by kernel_rfl))
 f217:=Tryz.func127.trans (congrArg some (by kernel_rfl))
 f219:=Tryz.func151.trans (congrArg some (by kernel_rfl))
 f220:=Tryz.func126.trans (congrArg some (by kernel_rfl))
 f224:=Tryz.func154.trans (congrArg some (by kernel_rfl))
 f225:=Tryz.func155.trans (congrArg some (by kernel_rfl))
 f266:=Tryz.func152.trans (congrArg some (by kernel_rfl))
 f267:=Tryz.func171.trans (congrArg some (by kernel_rfl))
 f314:=Tryz.func186.trans (congrArg some (by kernel_rfl))
 t3:=Tryz.underlying3
 a3:=Tryz.isAgg3
 z3:=Tryz.sizeOf3
 v3:=Tryz.zeroValue3
 t4:=Tryz.underlying4
 a4:=Tryz.isAgg4
 z4:=Tryz.sizeOf4
 v4:=Tryz.zeroValue4
 t5:=Tryz.underlying5
 a5:=Tryz.isAgg5
 z5:=Tryz.sizeOf5
 v5:=Tryz.zeroValue5
 t9:=Tryz.underlying9
 a9:=Tryz.isAgg9
 z9:=Tryz.sizeOf9
 v9:=Tryz.zeroValue9
 t46:=Tryz.underlying210
 a46:=Tryz.isAgg210
 z46:=Tryz.sizeOf210
 v46:=Tryz.zeroValue210
 t51:=Tryz.underlying237
 a51:=Tryz.isAgg237
 z51:=Tryz.sizeOf237
 v51:=Tryz.zeroValue237
 t59:=Tryz.underlying136
 a59:=Tryz.isAgg136
 z59:=Tryz.sizeOf136
 v59:=Tryz.zeroValue136
 t146:=Tryz.underlying240
 a146:=Tryz.isAgg240
 z146:=Tryz.sizeOf240
 v146:=Tryz.zeroValue240
 g1:=by kernel_rfl}
open Go.RowKit Go.Lib in
theorem sh_strings_Cut (s sep:ByteArray) (m:Int) (w:World) (hs:s.size<4294967281) (hm:w.cell? ⟨0,0,none⟩=some (.int .i64 m)):
  Calls Tryz.prog 84 #[.string s,.string sep] w fun e w'=>e= .returned (.tuple #[.string ⟨(Lib.cut s.data.toList sep.data.toList).1.toArray⟩,.string ⟨(Lib.cut s.data.toList sep.data.toList).2.1.toArray⟩,.bool (Lib.cut s.data.toList sep.data.toList).2.2])∧∃n,w'=w.drewN n:=Any.strings_Cut lays145 s sep m w hs hm
def lays153_ren:Go.Shelf.Ren:=⟨fun|153=>86|152=>128|226=>129|227=>130|228=>131|137=>85|119=>153|224=>154|225=>155|217=>127|266=>152|n=>n,fun|9=>9|3=>3|4=>4|5=>5|21=>21|117=>187|116=>186|0=>0|46=>210|124=>211|n=>n,fun|n=>n⟩
theorem lays153:Go.Proofs.Lays.n153 Tryz.prog lays153_ren:={
 mixed:=by kernel_rfl
 f119:=Tryz.func153.trans (congrArg some (by kernel_rfl))
 f137:=Tryz.func85.trans (congrArg some (by kernel_rfl))
 f152:=Tryz.func128.trans (congrArg some (by kernel_rfl))
 f153:=Tryz.func86.trans (congrArg some (by kernel_rfl))
 f217:=Tryz.func127.trans (congrArg some (by kernel_rfl))
 f224:=Tryz.func154.trans (congrArg some (by kernel_rfl))
 f225:=Tryz.func155.trans (congrArg some (by kernel_rfl))
 f226:=Tryz.func129.trans (congrArg some (by kernel_rfl))
 f227:=Tryz.func130.trans (congrArg some (by kernel_rfl))
 f228:=Tryz.func131.trans (congrArg some (by kernel_rfl))
 f266:=Tryz.func152.trans (congrArg some (by kernel_rfl))
 t0:=Tryz.underlying0
 a0:=Tryz.isAgg0
 z0:=Tryz.sizeOf0
 v0:=Tryz.zeroValue0
 t3:=Tryz.underlying3
 a3:=Tryz.isAgg3
 z3:=Tryz.sizeOf3
 v3:=Tryz.zeroValue3
 t4:=Tryz.underlying4
 a4:=Tryz.isAgg4
 z4:=Tryz.sizeOf4
 v4:=Tryz.zeroValue4
 t5:=Tryz.underlying5
 a5:=Tryz.isAgg5
 z5:=Tryz.sizeOf5
 v5:=Tryz.zeroValue5
 t9:=Tryz.underlying9
 a9:=Tryz.isAgg9
 z9:=Tryz.sizeOf9
 v9:=Tryz.zeroValue9
 t21:=Tryz.underlying21
 a21:=Tryz.isAgg21
 z21:=Tryz.sizeOf21
 v21:=Tryz.zeroValue21
 t46:=Tryz.underlying210
 a46:=Tryz.isAgg210
 z46:=Tryz.sizeOf210
 v46:=Tryz.zeroValue210
 t116:=Tryz.underlying186
 a116:=Tryz.isAgg186
 z116:=Tryz.sizeOf186
 t117:=Tryz.underlying187
 a117:=Tryz.isAgg187
 z117:=Tryz.sizeOf187
 v117:=Tryz.zeroValue187
 t124:=Tryz.underlying211
 a124:=Tryz.isAgg211
 z124:=Tryz.sizeOf211
 v124:=Tryz.zeroValue211}
open Go.RowKit Go.Lib in
theorem sh_strings_IndexAny_long (hv116:∀w,(zeroValue 186).run Tryz.prog w= .ok (.agg (Array.replicate 256 (.bool false))) w) (s chars:ByteArray) (w:World) (h2:2≤chars.size) (h8:8<s.size) (hs:s.size<4294967281) (hcs:chars.size<4294967281) (hascii:∀(j:Nat) b,chars.data.toList[j]? =some b→b.toNat<128):
  Calls Tryz.prog 86 #[.string s,.string chars] w fun e w'=>e= .returned (.int .i64 (Lib.indexAny s.data.toList chars.data.toList))∧w'=((w.alloc (.cells (Lib.setCells chars.data.toList) 186)).alloc (.cells (Lib.setCells chars.data.toList) 186)):=Any.strings_IndexAny_long lays153 hv116 (by kernel_rfl) s chars w h2 h8 hs hcs hascii
end Go.Proofs.YtbppopcpgcgkkaaGreatDoor.E
