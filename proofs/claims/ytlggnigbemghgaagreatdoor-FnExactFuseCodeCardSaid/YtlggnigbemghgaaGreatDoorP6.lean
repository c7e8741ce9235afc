/- Operations and blocks: their faults. -/
import Derived.Test.YtlggnigbemghgaaGreatDoorP5
set_option linter.unusedSectionVars false
set_option linter.unusedSimpArgs false
set_option linter.unusedVariables false
namespace Go.Proofs.YtlggnigbemghgaaGreatDoor.E
open Go Go.RowKit
variable [L : Lam]
variable {σ : AH} {R : AEnd → AH → Prop}
/-! ### what the functions share -/
theorem fin_cell {φ n : Nat} {zs cs : List AV} (hφ : σ φ = none) (hz : zs.length = n) (hc : cs.length = n) (h1 : ∀ x, x ∈ cs → x.one = true) (h : R (.ret (.agg cs)) σ) :
    sto n (.ptr φ 0 0 0) (.agg cs) (σ.set φ ⟨0, n, [zs]⟩) fun σ => og (lodA n (.ptr φ 0 0 0) σ) fun r => aret r σ R := by
  refine sto_own (es := [zs]) (cs := cs) (AH.set_same ..) (by simp) (by simpa using hz) rfl hc h1 ?_
  simp only [List.set_cons_zero, AH.set_set]
  have e := lodA_at (σ := σ.set φ ⟨0, n, [cs]⟩) (φ := φ) (st := 0) (i := 0) (n := n) (cs := cs) (AH.set_same ..) rfl rfl hc
  simp only [e, RR]
  exact aret_sub (sub_set (.refl _) hφ) h
theorem one2 {a b : AV} (ha : a.one = true) (hb : b.one = true) : ∀ x, x ∈ [a, b] → x.one = true := by
  intro x hx
  simp only [List.mem_cons, List.not_mem_nil, or_false] at hx
  rcases hx with rfl | rfl <;> assumption
abbrev roN (xs : List Int) : AV := .ro (xs.map fun x => [iv x])
theorem slc_roN {xs : List Int} {k : Nat} (hk : k ≤ xs.length) : slc 1 (roN xs) (some (iv (k : Nat))) none none σ = some (roN (xs.drop k)) := by
  obtain ⟨b, h1, h2⟩ := Cs.slc (Cs.ro iv σ xs) (lo := some (iv (k : Nat))) (hi := none) (l := k) (k := xs.length) (abd_nat _ _) rfl hk (Nat.le_refl _)
  have e : abd (some (iv (k : Nat))) 0 = some k := abd_nat _ _
  have e2 : abd none ((xs.map fun x => [iv x]).length) = some (xs.map fun x => [iv x]).length := rfl
  simp only [slc, e, e2]
  rw [if_pos ⟨by simpa using hk, Nat.le_refl _, Nat.le_refl _, by simp, by rw [List.all_eq_true]; intro c hc; obtain ⟨x, _, rfl⟩ := List.mem_map.1 hc; rfl⟩]
  rw [List.take_length, ← List.map_drop]
theorem c_slices_IndexFunc {f : AV} {xs : List Int} {p : Int → Bool} (hl : xs.length ≤ 1099511627776) (hf : ∀ (x : Int) (R : AEnd → AH → Prop), R (.ret (bv (p x))) σ → acallv TP f [iv x] σ R)
    (h : ∀ v : Int, decide (0 ≤ v) = xs.any p → R (.ret (iv v)) σ) : acall TP fn_slices_IndexFunc [roN xs, f] σ R := by
  refine s_slices_IndexFunc_ok ?_
  unfold s_slices_IndexFunc
  have hS := Cs.ro iv σ xs
  simp only [hS.len, RR]
  refine lp_same xs.length (fun i => (roN xs, f, iv (xs.length : Int), iv (i : Int), ())) (fun i => ∀ j (hj : j < xs.length), j < i → p xs[j] = false) rfl (fun j _ hj => by omega) ?_
  intro i hi hj R' hR'
  by_cases hlt : i < xs.length
  · have g : (i : Int) < (xs.length : Int) := by omega
    obtain ⟨q, q1, q2, _⟩ := hS.at hlt
    simp only [g, q1, q2, RR]
    refine hf _ _ ?_
    simp only [RR]
    cases c : p xs[i]
    · simp only [ibin_up hlt (by omega), RR]
      refine hR' hlt (fun j hj' hlt' => ?_) σ (.refl _)
      rcases Nat.lt_or_ge j i with h1 | h1
      · exact hj j hj' h1
      · obtain rfl : j = i := by omega
        exact c
    · simp only [RR]
      refine ret_here (h _ ?_)
      rw [decide_eq_true (by omega), Eq.comm, List.any_eq_true]
      exact ⟨_, List.getElem_mem hlt, c⟩
  · have g : ¬ (i : Int) < (xs.length : Int) := by omega
    simp only [g, RR]
    refine ret_here (h _ ?_)
    rw [decide_eq_false (by omega), Eq.comm, List.any_eq_false]
    intro x hx
    obtain ⟨j, hj1, rfl⟩ := List.getElem_of_mem hx
    rw [hj j hj1 (by omega)]; simp
theorem c_slices_ContainsFunc {f : AV} {xs : List Int} {p : Int → Bool} (hl : xs.length ≤ 1099511627776) (hf : ∀ (x : Int) (R : AEnd → AH → Prop), R (.ret (bv (p x))) σ → acallv TP f [iv x] σ R)
    (h : R (.ret (bv (xs.any p))) σ) : acall TP fn_slices_ContainsFunc [roN xs, f] σ R := by
  refine s_slices_ContainsFunc_ok ?_
  unfold s_slices_ContainsFunc
  refine c_slices_IndexFunc hl hf fun v hv => ?_
  simp only [RR, hv]
  exact ret_here h
/-! ### operations -/
def numsN (k : Int) : Nat := if k = 4 ∨ k = 5 ∨ k = 6 ∨ k = 10 ∨ k = 11 then 1 else if k = 2 ∨ k = 14 then 2 else if k = 16 then 3 else if k = 15 then 4 else 0
def namedB (k : Int) : Bool := decide (k = 3) || decide (k = 8) || decide (k = 9)
def dataB (k : Int) : Bool := decide (k = 1) || decide (k = 13)
theorem numsN_le (k : Int) : numsN k ≤ 4 := by unfold numsN; repeat' split <;> try omega
theorem nums_walk {k : Int} (h : R (.ret (iv (numsN k : Nat))) σ) :
    jn (X := Tup [3, 4]) (fun x1 σ =>
      apick x1.2.1 (aret (iv 1) σ R) (jn (X := Tup [3, 10]) (fun x2 σ => apick x2.2.1 (aret (iv 2) σ R) (og (ibin .eql x2.1 (iv 16)) fun v14 => apick v14 (aret (iv 3) σ R) (og (ibin .eql x2.1 (iv 15)) fun v16 => apick v16 (aret (iv 4) σ R) (aret (iv 0) σ R)))) fun k2 =>
          og (ibin .eql x1.1 (iv 2)) fun v11 => apick v11 (k2 (x1.1, v11, ()) σ) (og (ibin .eql x1.1 (iv 14)) fun v12 => k2 (x1.1, v12, ()) σ))) fun k1 =>
    og (ibin .eql (iv k) (iv 4)) fun v5 => apick v5 (k1 (iv k, v5, ()) σ) (og (ibin .eql (iv k) (iv 5)) fun v6 => apick v6 (k1 (iv k, v6, ()) σ) (og (ibin .eql (iv k) (iv 6)) fun v7 => apick v7 (k1 (iv k, v7, ()) σ) (
          og (ibin .eql (iv k) (iv 10)) fun v8 => apick v8 (k1 (iv k, v8, ()) σ) (og (ibin .eql (iv k) (iv 11)) fun v9 => k1 (iv k, v9, ()) σ)))) := by
  unfold numsN at h
  simp only [jn, RR]
  by_cases c1 : k = 4
  · subst c1; simp only [RR]; exact ret_here h
  by_cases c2 : k = 5
  · subst c2; simp only [RR]; exact ret_here h
  by_cases c3 : k = 6
  · subst c3; simp only [RR]; exact ret_here h
  by_cases c4 : k = 10
  · subst c4; simp only [RR]; exact ret_here h
  by_cases c5 : k = 11
  · subst c5; simp only [RR]; exact ret_here h
  rw [if_neg (by omega)] at h
  simp only [c1, c2, c3, c4, c5, RR]
  by_cases c6 : k = 2
  · subst c6; simp only [RR]; exact ret_here h
  by_cases c7 : k = 14
  · subst c7; simp only [RR]; exact ret_here h
  rw [if_neg (by omega)] at h
  simp only [c6, c7, RR]
  by_cases c8 : k = 16
  · subst c8; simp only [RR]; exact ret_here h
  rw [if_neg c8] at h
  by_cases c9 : k = 15
  · subst c9; simp only [RR]; exact ret_here h
  rw [if_neg c9] at h
  simp only [c8, c9, RR]
  exact ret_here h
theorem c_impl_opNums {k : Int} (h : R (.ret (iv (numsN k : Nat))) σ) : acall TP fn_impl_opNums [iv k] σ R := s_impl_opNums_ok (nums_walk h)
theorem c_spec_l9Nums {k : Int} (h : R (.ret (iv (numsN k : Nat))) σ) : acall TP fn_spec_l9Nums [iv k] σ R := s_spec_l9Nums_ok (nums_walk h)
theorem c_impl_opNamed {k : Int} (h : R (.ret (bv (namedB k))) σ) : acall TP fn_impl_opNamed [iv k] σ R := by
  refine s_impl_opNamed_ok ?_
  unfold s_impl_opNamed
  simp only [RR, RG]; exact ret_here h
theorem c_spec_l9Named {k : Int} (h : R (.ret (bv (namedB k))) σ) : acall TP fn_spec_l9Named [iv k] σ R := by
  refine s_spec_l9Named_ok ?_
  unfold s_spec_l9Named
  simp only [RR, RG]; exact ret_here h
theorem c_impl_opData {k : Int} (h : R (.ret (bv (dataB k))) σ) : acall TP fn_impl_opData [iv k] σ R := by
  refine s_impl_opData_ok ?_
  unfold s_impl_opData
  simp only [RR, RG]; exact ret_here h
theorem c_spec_l9Const {k : Int} (h : R (.ret (bv (dataB k))) σ) : acall TP fn_spec_l9Const [iv k] σ R := by
  refine s_spec_l9Const_ok ?_
  unfold s_spec_l9Const
  simp only [RR, RG]; exact ret_here h
def opL (o : OpD) : List Int := [o.a, o.b, o.c, o.d]
def opF1 (o : OpD) : Bool := !inB 1 16 o.kind || ((opL o).drop (numsN o.kind)).any (fun n => !decide (n = 0)) || (!decide (o.name = (⟨#[]⟩ : ByteArray)) && !namedB o.kind) || (decide ((0 : Int) < (o.data.length : Int)) && !dataB o.kind)
def opF2 (o : OpD) : Bool := (opL o).any (fun n => !inB 0 999 n) || ((decide (o.kind = 10) || decide (o.kind = 11)) && decide (3 < o.a))
def opF (o : OpD) : Int := if opF1 o then 1 else if opF2 o then 3 else if namedB o.kind then (if symOk o.name then 0 else 5) else if dataB o.kind then dataF o.data else 0
theorem c_impl_OpFault_1 {n : Int} (h : R (.ret (bv (!decide (n = 0)))) σ) : acall TP fn_impl_OpFault_1 [iv n] σ R := by
  refine s_impl_OpFault_1_ok ?_
  unfold s_impl_OpFault_1
  simp only [RR]; exact ret_here h
theorem c_impl_OpFault_2 {n : Int} (h : R (.ret (bv (!inB 0 999 n))) σ) : acall TP fn_impl_OpFault_2 [iv n] σ R := by
  refine s_impl_OpFault_2_ok (c_impl_in ?_)
  simp only [RR]; exact ret_here h
theorem c_impl_OpFault {o : OpD} (h : R (.ret (iv (opF o))) σ) : acall TP fn_impl_OpFault [.agg (encOp o)] σ R := by
  refine s_impl_OpFault_ok ?_
  unfold s_impl_OpFault
  refine box_encOp ?_
  simp only [RR, RT]
  refine bsl_frz (es := (opL o).map fun x => [iv x]) rfl (by decide) rfl (fun c hc => by obtain ⟨x, _, rfl⟩ := List.mem_map.1 hc; rfl) ?_
  unfold opF at h
  refine jn_of (fun x σ' => σ' = σ ∧ x = (.rop (encOp o) 0, roN (opL o), bv (opF1 o), ())) ?_ ?_
  rotate_left
  · intro k hk
    unfold opF1 at hk
    refine c_impl_in ?_
    cases c1 : inB 1 16 o.kind
    · simp only [RR, RT]
      exact hk _ _ ⟨rfl, by rw [c1]; simp <;> rfl⟩
    rw [c1] at hk
    simp only [RR, RT, Bool.false_or] at hk ⊢
    refine c_impl_opNums ?_
    simp only [slc_roN (xs := opL o) (k := numsN o.kind) (numsN_le _), RR]
    refine c_slices_ContainsFunc (p := fun n => !decide (n = 0)) (by simp [opL]; omega) (fun x R h => acallv_clo (c_impl_OpFault_1 h)) ?_
    generalize ((opL o).drop (numsN o.kind)).any (fun n => !decide (n = 0)) = A at hk ⊢
    have fin : (∀ B : Bool, (∀ x σ', (σ' = σ ∧ x = (.rop (encOp o) 0, roN (opL o), bv (B || (decide ((0 : Int) < (o.data.length : Int)) && !dataB o.kind)), ())) → k x σ') →
       og (gval (bv B) false false (some (AV.rop (encOp o) 6))) fun v40 =>
        og (gval (bv B) false false (lod v40 σ)) fun v41 =>
        og (gval (bv B) false false (lenS v41)) fun v42 =>
        og (gval (bv B) false false (ibin .gtr v42 (iv 0))) fun v43 =>
        og (gval (bv B) false false (some v43)) fun v44 =>
        og (gval v44 true true (fldA 0 (.rop (encOp o) 0))) fun v45 =>
        og (gval v44 true true (lod v45 σ)) fun v46 =>
        gpick v44 (
          acall TP fn_impl_opData [v46] σ (onr (fun v47 σ =>
          og (aun .not v47) fun v48 =>
          og (gval (bv B) false false (some v48)) fun v49 =>
          og (pickV (bv B) (bv true) v49) fun v50 =>
          k (.rop (encOp o) 0, roN (opL o), v50, ()) σ) (fun v σ => apan v σ R))) (
          og (gval (bv B) false false (some (bv false))) fun v49 =>
          og (pickV (bv B) (bv true) v49) fun v50 =>
          k (.rop (encOp o) 0, roN (opL o), v50, ()) σ) (
          og (gval (bv B) false false (pickV (.tup []) (.tup []) (bv false))) fun v49 =>
          og (pickV (bv B) (bv true) v49) fun v50 =>
          k (.rop (encOp o) 0, roN (opL o), v50, ()) σ)) := by
      intro B hk
      cases B
      · simp only [RR, RT, Bool.false_or] at hk ⊢
        cases c : decide ((0 : Int) < (o.data.length : Int))
        · rw [c] at hk
          simp only [RR, Bool.false_and] at hk ⊢
          exact hk _ _ ⟨rfl, rfl⟩
        · rw [c] at hk
          simp only [RR, Bool.true_and] at hk ⊢
          refine c_impl_opData ?_
          simp only [RR]
          exact hk _ _ ⟨rfl, rfl⟩
      · simp only [RR, RT, Bool.true_or] at hk ⊢
        exact hk _ _ ⟨rfl, rfl⟩
    cases A
    · simp only [RR, RT, sbin_neq', Bool.false_or] at hk ⊢
      cases c2 : decide (o.name = (⟨#[]⟩ : ByteArray))
      · rw [c2] at hk
        simp only [RR, RT, Bool.true_and] at hk ⊢
        refine c_impl_opNamed ?_
        simp only [RR]
        exact fin _ hk
      · rw [c2] at hk
        simp only [RR, RT, Bool.false_and] at hk ⊢
        have := fin _ hk
        simp only [RR, RT] at this
        exact this
    · simp only [RR, RT, sbin_neq', Bool.true_or] at hk ⊢
      exact fin true fun x σ' h => hk _ _ ⟨h.1, by rw [h.2]; simp <;> rfl⟩
  rintro _ _ ⟨rfl, rfl⟩
  refine apick_cases (fun c1 => ?_) (fun c1 => ?_)
  · rw [if_pos c1] at h
    exact ret_here h
  rw [if_neg (by rw [c1]; simp)] at h
  refine c_slices_ContainsFunc (p := fun n => !inB 0 999 n) (by simp [opL]) (fun x R h => acallv_clo (c_impl_OpFault_2 h)) ?_
  simp only [RR, RT, RG]
  refine apick_cases (fun c2 => ?_) (fun c2 => ?_)
  · rw [if_pos (show opF2 o = true from c2)] at h
    exact ret_here h
  rw [if_neg (show ¬ opF2 o = true by unfold opF2; rw [c2]; simp)] at h
  refine c_impl_opNamed ?_
  cases c3 : namedB o.kind
  · rw [c3] at h
    simp only [RR]
    refine c_impl_opData ?_
    cases c4 : dataB o.kind
    · rw [c4] at h
      simp only [RR]
      exact ret_here h
    · rw [c4] at h
      simp only [RR, RT]
      refine c_impl_DataFault ?_
      simp only [RR]
      exact ret_here h
  · rw [c3] at h
    simp only [RR, RT]
    refine c_impl_SymFault ?_
    simp only [RR]
    exact ret_here h
/-- A loop over a list that ends at the first element of a kind. -/
theorem c_spec_l9All {o : OpD} (h : R (.ret (roN (opL o))) σ) : acall TP fn_spec_l9All [.rop (encOp o) 0] σ R := by
  refine s_spec_l9All_ok ?_
  unfold s_spec_l9All
  simp only [RR, RT]
  exact ret_here h
theorem len_opL (o : OpD) : (opL o).length = 4 := rfl
theorem idx_opL {o : OpD} {j : Nat} (hj : j < 4) : idx 1 (roN (opL o)) (iv (j : Int)) σ = some (.rop [iv ((opL o)[j]'hj)] 0) := idx_ro (enc := fun x => [iv x]) (es := opL o) hj fun _ => rfl
theorem c_spec_l9Op {o : OpD} (hn : o.name.size ≤ 1099511627776) (hd : sD o.data) (h : R (.ret (iv (opF o))) σ) : acall TP fn_spec_l9Op [.rop (encOp o) 0] σ R := by
  refine s_spec_l9Op_ok ?_
  unfold s_spec_l9Op
  simp only [RR, RT]
  refine c_spec_l1In ?_
  simp only [RR]
  unfold opF at h
  refine apick_cases (fun c1 => ?_) (fun c1 => ?_)
  · rw [if_pos (by unfold opF1; rw [c1]; simp)] at h
    exact ret_here h
  refine c_spec_l9All ?_
  simp only [RR, RT]
  refine c_spec_l9Nums ?_
  simp only [RR]
  have hk4 := numsN_le o.kind
  refine lp_by (fun k x σ' => ∃ j : Nat, x = (.rop (encOp o) 0, roN (opL o), iv (j : Int), ()) ∧ σ' = σ ∧ j + k = 4 ∧ numsN o.kind ≤ j ∧ (∀ (i : Nat) (hi : i < 4), numsN o.kind ≤ i → i < j → (opL o)[i]'hi = 0)) (4 - numsN o.kind)
    ⟨numsN o.kind, rfl, rfl, by omega, Nat.le_refl _, fun i hi h1 h2 => by omega⟩ ?_
  rintro k x σ' ⟨j, rfl, rfl, hk, hj, hz⟩ R' hR'
  by_cases c2 : (j : Int) < 4
  · have hj4 : j < 4 := by omega
    simp only [c2, idx_opL hj4, lod_one, RR]
    by_cases c3 : (opL o)[j]'hj4 = 0
    · simp only [c3, ibin_up (n := 4) hj4 (by omega), RR]
      exact hR' _ _ (k - 1) σ' (by omega) (.refl _) ⟨j + 1, rfl, rfl, by omega, by omega, fun i hi h1 h2 => by
        rcases Nat.lt_or_ge i j with h3 | h3
        · exact hz i hi h1 h3
        · obtain rfl : i = j := by omega
          exact c3⟩
    · simp only [c3, RR]
      have : opF1 o = true := by
        have : ((opL o).drop (numsN o.kind)).any (fun n => !decide (n = 0)) = true := by
          rw [List.any_eq_true]
          refine ⟨(opL o)[j]'hj4, ?_, by simpa using c3⟩
          rw [List.mem_iff_getElem]
          refine ⟨j - numsN o.kind, by simp [len_opL]; omega, ?_⟩
          rw [List.getElem_drop]
          congr 1
          omega
        unfold opF1
        rw [this]; simp
      rw [if_pos this] at h
      exact ret_here h
  · have hA : ((opL o).drop (numsN o.kind)).any (fun n => !decide (n = 0)) = false := by
      rw [List.any_eq_false]
      intro n hn
      obtain ⟨i, hi, rfl⟩ := List.getElem_of_mem hn
      have hi2 : i < 4 - numsN o.kind := by simpa [len_opL] using hi
      have e : ((opL o).drop (numsN o.kind))[i] = 0 := by
        rw [List.getElem_drop]
        exact hz (numsN o.kind + i) (by omega) (by omega) (by omega)
      rw [e]
      simp
    simp only [c2, RR]
    refine jn_of (fun x σ'' => σ'' = σ' ∧ x = (.rop (encOp o) 0, roN (opL o), bv (opF1 o), ())) ?_ ?_
    rotate_left
    · intro k hk
      simp only [RR, RT]
      refine c_spec_l9Named ?_
      have e1 : opF1 o = ((!decide (o.name = (⟨#[]⟩ : ByteArray)) && !namedB o.kind) || (decide ((0 : Int) < (o.data.length : Int)) && !dataB o.kind)) := by
        unfold opF1
        rw [c1, hA]; simp
      rw [e1] at hk
      cases c3 : namedB o.kind
      · rw [c3] at hk
        simp only [RR, RT, sbin_neq', Bool.and_true] at hk ⊢
        cases c4 : decide (o.name = (⟨#[]⟩ : ByteArray))
        · rw [c4] at hk
          simp only [RR, RT, Bool.true_or] at hk ⊢
          exact hk _ _ ⟨rfl, rfl⟩
        · rw [c4] at hk
          simp only [RR, RT, Bool.false_or] at hk ⊢
          refine c_spec_l9Const ?_
          simp only [RR, RT, RG]
          exact hk _ _ ⟨rfl, by rw [Bool.and_comm]; rfl⟩
      · rw [c3] at hk
        simp only [RR, RT, Bool.and_false, Bool.false_or] at hk ⊢
        refine c_spec_l9Const ?_
        simp only [RR, RT, RG]
        exact hk _ _ ⟨rfl, by rw [Bool.and_comm]; rfl⟩
    intro x s2 hx
    rw [hx.1, hx.2]
    clear hx
    refine apick_cases (fun c3 => ?_) (fun c3 => ?_)
    · rw [if_pos c3] at h
      exact ret_here h
    rw [if_neg (by rw [c3]; simp)] at h
    refine lp_by (fun k x σ'' => ∃ j : Nat, x = (.rop (encOp o) 0, roN (opL o), iv (j : Int), ()) ∧ σ'' = σ' ∧ j + k = 4 ∧ (∀ (i : Nat) (hi : i < 4), i < j → inB 0 999 ((opL o)[i]'hi) = true)) 4
      ⟨0, rfl, rfl, by omega, fun i hi h1 => by omega⟩ ?_
    rintro k x σ' ⟨j, rfl, rfl, hk, hz⟩ R' hR'
    by_cases c2 : (j : Int) < 4
    · have hj4 : j < 4 := by omega
      simp only [c2, idx_opL hj4, lod_one, RR]
      refine c_spec_l1In ?_
      cases c4 : inB 0 999 ((opL o)[j]'hj4)
      · simp only [RR]
        have : opF2 o = true := by
          have : (opL o).any (fun n => !inB 0 999 n) = true := by
            rw [List.any_eq_true]
            exact ⟨(opL o)[j]'hj4, List.getElem_mem _, by rw [c4]; rfl⟩
          unfold opF2
          rw [this]; rfl
        rw [if_pos this] at h
        exact ret_here h
      · simp only [ibin_up (n := 4) hj4 (by omega), RR]
        exact hR' _ _ (k - 1) σ' (by omega) (.refl _) ⟨j + 1, rfl, rfl, by omega, fun i hi h1 => by
          rcases Nat.lt_or_ge i j with h3 | h3
          · exact hz i hi h3
          · obtain rfl : i = j := by omega
            exact c4⟩
    · have hB : (opL o).any (fun n => !inB 0 999 n) = false := by
        rw [List.any_eq_false]
        intro n hn
        obtain ⟨i, hi, rfl⟩ := List.getElem_of_mem hn
        have hi2 : i < 4 := hi
        have e : inB 0 999 ((opL o)[i]'hi) = true := hz i hi2 (by omega)
        rw [e]
        simp
      simp only [c2, RR, RT, RG]
      refine apick_cases (fun c4 => ?_) (fun c4 => ?_)
      · rw [if_pos (show opF2 o = true by unfold opF2; rw [c4]; simp)] at h
        exact ret_here h
      rw [if_neg (show ¬ opF2 o = true by unfold opF2; rw [c4, hB]; simp)] at h
      refine jn_of (fun x σ'' => σ'' = σ' ∧ x = (.rop (encOp o) 0, bv (namedB o.kind && !symOk o.name), ())) ?_ ?_
      rotate_left
      · intro k hk
        refine c_spec_l9Named ?_
        cases c5 : namedB o.kind
        · rw [c5] at hk
          simp only [RR]
          exact hk _ _ ⟨rfl, rfl⟩
        · rw [c5] at hk
          simp only [RR, RT]
          refine c_spec_l2Sym hn ?_
          simp only [RR]
          exact hk _ _ ⟨rfl, rfl⟩
      rintro _ _ ⟨rfl, rfl⟩
      cases c5 : namedB o.kind
      · rw [c5] at h
        simp only [Bool.false_and, RR, RT]
        refine c_spec_l9Const ?_
        cases c6 : dataB o.kind
        · rw [c6] at h
          simp only [RR]
          exact ret_here h
        · rw [c6] at h
          simp only [RR, RT]
          refine c_spec_l3Fault hd ?_
          simp only [RR]
          exact ret_here h
      · rw [c5] at h
        cases c6 : symOk o.name
        · rw [c6] at h
          simp only [RR, Bool.true_and]
          exact ret_here h
        · rw [c6] at h
          simp only [RR, RT, Bool.true_and]
          refine c_spec_l9Const ?_
          have : dataB o.kind = false := by
            unfold namedB at c5
            unfold dataB
            rw [Bool.or_eq_true, Bool.or_eq_true, decide_eq_true_iff, decide_eq_true_iff, decide_eq_true_iff] at c5
            rw [Bool.or_eq_false_iff, decide_eq_false_iff_not, decide_eq_false_iff_not]
            omega
          simp only [this, RR]
          exact ret_here h
/-! ### blocks -/
def blkF (b : Blk) : Int := if inB 0 3 b.args = false then 3 else if 200 < b.ops.length then 2 else firstF (fun i => opF (b.ops.getD i default)) 0 b.ops.length
def opsF (bs : List Blk) : Int := if 60 < bs.length then 2 else firstF (fun i => blkF (bs.getD i default)) 0 bs.length
/-- What the names of an operation, its data and so on have to be: small. -/
def sO (o : OpD) : Prop := o.name.size ≤ 1099511627776 ∧ sD o.data
def sB (b : Blk) : Prop := ∀ o, o ∈ b.ops → sO o
def sC (bs : List Blk) : Prop := ∀ b, b ∈ bs → sB b
/-- A loop that ends at the first fault. -/
theorem lp_first {X : Type} {st : Nat → X} {f : Nat → Int} {n : Nat} {body : (X → AH → Prop) → X → AH → Prop}
    (hb : ∀ (j : Nat) (k : X → AH → Prop), j < n → (f j = 0 → k (st (j + 1)) σ) → (f j ≠ 0 → R (.ret (iv (f j))) σ) → body k (st j) σ) (he : ∀ k : X → AH → Prop, firstF f 0 n = 0 → body k (st n) σ)
    (h : R (.ret (iv (firstF f 0 n))) σ) : lp body (st 0) σ := by
  refine lp_same n st (fun i => ∀ j, j < i → f j = 0) rfl (fun j hj => by omega) ?_
  intro i hi hj R' hR'
  rcases Nat.lt_or_ge i n with hlt | hge
  · refine hb i R' hlt (fun h0 => hR' hlt (fun j h1 => ?_) σ (.refl _)) (fun h0 => by rw [firstF_at h0 n 0 (Nat.zero_le _) (by omega) (fun j _ h2 => hj j h2)] at h; exact h)
    rcases Nat.lt_or_ge j i with h2 | h2
    · exact hj j h2
    · obtain rfl : j = i := by omega
      exact h0
  · obtain rfl : i = n := by omega
    exact he R' (firstF_all _ _ fun j _ h2 => hj j (by omega))
theorem op_at {os : List OpD} {j : Nat} (h : j < os.length) : os[j] = os.getD j default := by simp [List.getD, h]
theorem blk_at {bs : List Blk} {j : Nat} (h : j < bs.length) : bs[j] = bs.getD j default := by simp [List.getD, h]
theorem c_impl_blockFault {b : Blk} (h : R (.ret (iv (blkF b))) σ) : acall TP fn_impl_blockFault [.agg (encBlk b)] σ R := by
  refine s_impl_blockFault_ok ?_
  unfold s_impl_blockFault
  refine box_encBlk ?_
  simp only [RR, RT]
  refine c_impl_in ?_
  unfold blkF at h
  cases c1 : inB 0 3 b.args
  · rw [c1] at h
    simp only [RR]
    exact ret_here h
  rw [if_neg (by rw [c1]; simp)] at h
  simp only [RR, RT, len_ro]
  refine apick_cases (fun c2 => ?_) (fun c2 => ?_)
  · rw [if_pos (by have := of_decide_eq_true c2; omega)] at h
    exact ret_here h
  have c2' : b.ops.length ≤ 200 := by have := of_decide_eq_false c2; omega
  rw [if_neg (by omega)] at h
  refine lp_first (n := b.ops.length) (st := fun i => (roO b.ops, iv (b.ops.length : Int), iv (i : Int), ())) (f := fun i => opF (b.ops.getD i default)) ?_ ?_ h
  · intro j k hj h0 h1
    have g : (j : Int) < (b.ops.length : Int) := by omega
    simp only [g, idx_ro hj len_encOp, RR, RT]
    refine new_encOp rfl ?_
    simp only [RR, RT]
    rw [op_at hj]
    refine c_impl_OpFault ?_
    simp only [RR]
    by_cases c3 : opF (b.ops.getD j default) = 0
    · simp only [c3, ibin_up hj (by omega), RR]
      exact h0 c3
    · simp only [c3, RR]
      exact ret_here (h1 c3)
  · intro k h0
    have g : ¬ (b.ops.length : Int) < (b.ops.length : Int) := by omega
    simp only [g, RR]
    rw [h0] at h
    exact ret_here h
theorem c_impl_opsFault {bs : List Blk} (h : R (.ret (iv (opsF bs))) σ) : acall TP fn_impl_opsFault [roBk bs] σ R := by
  refine s_impl_opsFault_ok ?_
  unfold s_impl_opsFault
  unfold opsF at h
  simp only [RR, RT, len_ro]
  refine apick_cases (fun c2 => ?_) (fun c2 => ?_)
  · rw [if_pos (by have := of_decide_eq_true c2; omega)] at h
    exact ret_here h
  have c2' : bs.length ≤ 60 := by have := of_decide_eq_false c2; omega
  rw [if_neg (by omega)] at h
  refine lp_first (n := bs.length) (st := fun i => (roBk bs, iv (bs.length : Int), iv (i : Int), ())) (f := fun i => blkF (bs.getD i default)) ?_ ?_ h
  · intro j k hj h0 h1
    have g : (j : Int) < (bs.length : Int) := by omega
    simp only [g, idx_ro hj len_encBlk, RR, RT]
    refine new_encBlk rfl ?_
    simp only [RR, RT]
    rw [blk_at hj]
    refine c_impl_blockFault ?_
    simp only [RR]
    by_cases c3 : blkF (bs.getD j default) = 0
    · simp only [c3, ibin_up hj (by omega), RR]
      exact h0 c3
    · simp only [c3, RR]
      exact ret_here (h1 c3)
  · intro k h0
    have g : ¬ (bs.length : Int) < (bs.length : Int) := by omega
    simp only [g, RR]
    rw [h0] at h
    exact ret_here h
theorem c_spec_l9Block {b : Blk} (hs : sB b) (h : R (.ret (iv (blkF b))) σ) : acall TP fn_spec_l9Block [.rop (encBlk b) 0] σ R := by
  refine s_spec_l9Block_ok ?_
  unfold s_spec_l9Block
  simp only [RR, RT]
  refine c_spec_l1In ?_
  unfold blkF at h
  cases c1 : inB 0 3 b.args
  · rw [c1] at h
    simp only [RR]
    exact ret_here h
  rw [if_neg (by rw [c1]; simp)] at h
  simp only [RR, RT, len_ro]
  refine apick_cases (fun c2 => ?_) (fun c2 => ?_)
  · rw [if_pos (by have := of_decide_eq_true c2; omega)] at h
    exact ret_here h
  have c2' : b.ops.length ≤ 200 := by have := of_decide_eq_false c2; omega
  rw [if_neg (by omega)] at h
  refine lp_first (n := b.ops.length) (st := fun i => (AV.rop (encBlk b) 0, iv (i : Int), ())) (f := fun i => opF (b.ops.getD i default)) ?_ ?_ h
  · intro j k hj h0 h1
    have g : (j : Int) < (b.ops.length : Int) := by omega
    simp only [RR, RT, len_ro, g, idx_ro hj len_encOp]
    rw [op_at hj]
    have hm := hs (b.ops.getD j default) (by rw [← op_at hj]; exact List.getElem_mem hj)
    refine c_spec_l9Op hm.1 hm.2 ?_
    simp only [RR]
    by_cases c3 : opF (b.ops.getD j default) = 0
    · simp only [c3, ibin_up hj (by omega), RR]
      exact h0 c3
    · simp only [c3, RR]
      exact ret_here (h1 c3)
  · intro k h0
    have g : ¬ (b.ops.length : Int) < (b.ops.length : Int) := by omega
    simp only [RR, RT, len_ro, g]
    rw [h0] at h
    exact ret_here h
theorem c_spec_l9Fault {bs : List Blk} (hs : sC bs) (h : R (.ret (iv (opsF bs))) σ) : acall TP fn_spec_l9Fault [roBk bs] σ R := by
  refine s_spec_l9Fault_ok ?_
  unfold s_spec_l9Fault
  unfold opsF at h
  simp only [RR, RT, len_ro]
  refine apick_cases (fun c2 => ?_) (fun c2 => ?_)
  · rw [if_pos (by have := of_decide_eq_true c2; omega)] at h
    exact ret_here h
  have c2' : bs.length ≤ 60 := by have := of_decide_eq_false c2; omega
  rw [if_neg (by omega)] at h
  refine lp_first (n := bs.length) (st := fun i => (roBk bs, iv (i : Int), ())) (f := fun i => blkF (bs.getD i default)) ?_ ?_ h
  · intro j k hj h0 h1
    have g : (j : Int) < (bs.length : Int) := by omega
    simp only [RR, RT, len_ro, g, idx_ro hj len_encBlk]
    rw [blk_at hj]
    refine c_spec_l9Block (hs _ (by rw [← blk_at hj]; exact List.getElem_mem hj)) ?_
    simp only [RR]
    by_cases c3 : blkF (bs.getD j default) = 0
    · simp only [c3, ibin_up hj (by omega), RR]
      exact h0 c3
    · simp only [c3, RR]
      exact ret_here (h1 c3)
  · intro k h0
    have g : ¬ (bs.length : Int) < (bs.length : Int) := by omega
    simp only [RR, RT, len_ro, g]
    rw [h0] at h
    exact ret_here h
end Go.Proofs.YtlggnigbemghgaaGreatDoor.E
