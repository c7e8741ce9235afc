import Derived.Test.YtjfdgijgkbojnaaG1m
/- ConfigFault. -/
set_option linter.unusedSectionVars false
set_option linter.unusedSimpArgs false
set_option linter.unusedVariables false
namespace Go.Proofs.Ytjfdgijgkbojnaa.E
open Go Go.RowKit
variable [Lam]
theorem c_impl_in {x lo hi : Int} {σ : AH} {R : AEnd → AH → Prop} (h : R (.ret (bv (decide (lo ≤ x) && decide (x ≤ hi)))) σ) : acall TP fn_impl_in [iv x, iv lo, iv hi] σ R := by
  refine s_impl_in_ok ?_
  unfold s_impl_in
  by_cases h1 : lo ≤ x
  · simp [h1] at h ⊢; exact ret_here h
  · simp [h1] at h ⊢; exact ret_here h
theorem c_laws_toConfig {a b : Int} {c d : Bool} {σ : AH} {R : AEnd → AH → Prop} (h : R (.ret (.agg [iv a, iv b, bv c, bv d])) σ) : acall TP fn_laws_toConfig [.agg [iv a, iv b, bv c, bv d]] σ R := by
  refine s_laws_toConfig_ok ?_
  unfold s_laws_toConfig
  simp only [abox_agg, new_eq]
  intro φ1 h1 φ2 h2 φ3 h3
  simp only [AH.set_none] at h2 h3
  obtain ⟨n21, h2⟩ := h2
  obtain ⟨n32, n31, h3⟩ := h3
  have n12 := Ne.symm n21
  have n23 := Ne.symm n32
  have n13 := Ne.symm n31
  simp [lod, lodA, acellsAt, sto, acells, Value.cells, AV.one, Value.oneCell', Fam.splice, spl, AH.set_ne', AH.set_turn, n12, n13, n23, n21, n31, n32]
  exact aret_sub (sub_set (sub_set (sub_set (.refl σ) h1) h2) h3) h
variable {σ : AH} {R : AEnd → AH → Prop}
theorem c_spec_l1In {x lo hi : Int} (h : R (.ret (bv (decide (lo ≤ x) && decide (x ≤ hi)))) σ) : acall TP fn_spec_l1In [iv x, iv lo, iv hi] σ R := by
  refine s_spec_l1In_ok ?_
  unfold s_spec_l1In
  by_cases h1 : lo ≤ x
  · simp [h1] at h ⊢; exact ret_here h
  · simp [h1] at h ⊢; exact ret_here h
theorem c_spec_l11Table {x : Int} (h : R (.ret (bv (decide (0 ≤ x) && decide (x ≤ 15)))) σ) : acall TP fn_spec_l11Table [iv x] σ R := s_spec_l11Table_ok (c_spec_l1In (ret_here h))
theorem c_spec_l12Size {x : Int} (h : R (.ret (bv (decide (1 ≤ x) && decide (x ≤ 64)))) σ) : acall TP fn_spec_l12Size [iv x] σ R := s_spec_l12Size_ok (c_spec_l1In (ret_here h))
theorem c_impl_isSize {x : Int} (h : R (.ret (bv (decide (1 ≤ x) && decide (x ≤ 64)))) σ) : acall TP fn_impl_isSize [iv x] σ R := s_impl_isSize_ok (c_impl_in (ret_here h))
theorem c_impl_TableFault {x : Int} (h : R (.ret (iv (if decide (0 ≤ x) && decide (x ≤ 15) then 0 else 3))) σ) : acall TP fn_impl_TableFault [iv x] σ R := by
  refine s_impl_TableFault_ok (c_impl_in ?_)
  cases hc : (decide (0 ≤ x) && decide (x ≤ 15)) <;> simp [hc, apick] at h ⊢ <;> exact ret_here h
def cfgF (s t : Int) : Int := if (decide (1 ≤ s) && decide (s ≤ 64)) && (decide (0 ≤ t) && decide (t ≤ 15)) then 0 else 3
theorem c_impl_ConfigFault {s t : Int} {p c : Bool} (h : R (.ret (iv (cfgF s t))) σ) : acall TP fn_impl_ConfigFault [.agg [iv s, iv t, bv p, bv c]] σ R := by
  refine s_impl_ConfigFault_ok ?_
  unfold s_impl_ConfigFault
  simp only [abox_agg]
  intro φ hφ
  have fin : ∀ v, v = cfgF s t → aret (iv v) (σ.set φ ⟨0, 4, [[iv s, iv t, bv p, bv c]]⟩) R := fun v e => by rw [e]; exact aret_sub (sub_set (.refl σ) hφ) h
  unfold jn
  simp only [fldA_ptr, og_some', lod, acellsAt, AH.set_same]
  simp
  refine c_impl_isSize ?_
  unfold cfgF at fin
  simp only [onr_ret]
  cases h1 : (decide (1 ≤ s) && decide (s ≤ 64))
  · simp [gpick, apick]; exact fin 3 (by simp [h1])
  · simp [gpick]
    refine c_impl_TableFault ?_
    simp only [onr_ret]
    cases h2 : (decide (0 ≤ t) && decide (t ≤ 15))
    · simp [apick]; exact fin 3 (by simp [h2])
    · simp [apick]; exact fin 0 (by simp [h1, h2])
theorem c_spec_l13Fault {s t : Int} {p c : Bool} {φ : Nat} (hσ : σ φ = some ⟨0, 4, [[iv s, iv t, bv p, bv c]]⟩) (h : R (.ret (iv (cfgF s t))) σ) : acall TP fn_spec_l13Fault [.ptr φ 0 0 0] σ R := by
  refine s_spec_l13Fault_ok ?_
  unfold s_spec_l13Fault
  have fin : ∀ v, v = cfgF s t → aret (iv v) σ R := fun v e => by rw [e]; exact ret_here h
  unfold jn
  simp [lod, acellsAt, hσ]
  refine c_spec_l12Size ?_
  unfold cfgF at fin
  simp only [onr_ret]
  cases h1 : (decide (1 ≤ s) && decide (s ≤ 64))
  · simp [gpick, apick]; exact fin 3 (by simp [h1])
  · simp [gpick, hσ]
    refine c_spec_l11Table ?_
    simp only [onr_ret]
    cases h2 : (decide (0 ≤ t) && decide (t ≤ 15))
    · simp [apick]; exact fin 3 (by simp [h2])
    · simp [apick]; exact fin 0 (by simp [h1, h2])
theorem c_spec_ConfigFault {s t : Int} {p c : Bool} (h : R (.ret (iv (cfgF s t))) σ) : acall TP fn_spec_ConfigFault [.agg [iv s, iv t, bv p, bv c]] σ R := by
  refine s_spec_ConfigFault_ok ?_
  unfold s_spec_ConfigFault
  simp only [abox_agg]
  intro φ hφ
  refine c_spec_l13Fault (s := s) (t := t) (p := p) (c := c) (by simp [AH.set]) ?_
  exact aret_sub (sub_set (.refl σ) hφ) h
theorem c_laws_FnExactConfigFault {s t : Int} {p c : Bool} (h : R (.ret (bv true)) σ) : acall TP fn_laws_FnExactConfigFault [.agg [iv s, iv t, bv p, bv c]] σ R := by
  refine s_laws_FnExactConfigFault_ok ?_
  unfold s_laws_FnExactConfigFault
  simp only [abox_agg]
  intro φ hφ
  simp [lodA, acellsAt]
  refine c_laws_toConfig ?_
  simp only [onr_ret]
  refine c_spec_ConfigFault ?_
  simp
  refine c_laws_toConfig ?_
  simp only [onr_ret]
  refine c_impl_ConfigFault ?_
  simp [apick]
  exact aret_sub (sub_set (.refl σ) hφ) h
end Go.Proofs.Ytjfdgijgkbojnaa.E
/- Lists of texts: copied, compared, measured; FirstApart. -/
set_option linter.unusedSectionVars false
set_option linter.unusedSimpArgs false
set_option linter.unusedVariables false
namespace Go.Proofs.Ytjfdgijgkbojnaa.E
open Go Go.RowKit
variable [Lam]
variable {σ : AH} {R : AEnd → AH → Prop}
abbrev Ss (σ : AH) (a : AV) (ss : List ByteArray) : Prop := Cs str σ a ss
abbrev roS (ss : List ByteArray) : AV := .ro (ss.map fun s => [str s])
def sizes : List ByteArray → Nat
  | [] => 0
  | s :: ss => s.size + sizes ss
theorem sizes_take (ss : List ByteArray) {i : Nat} (hi : i < ss.length) : sizes (ss.take (i + 1)) = sizes (ss.take i) + ss[i].size := by
  induction ss generalizing i with
  | nil => cases hi
  | cons s ss ih =>
    cases i with
    | zero => simp [sizes]
    | succ i =>
      have := ih (i := i) (by simpa using hi)
      simp only [List.take_succ_cons, sizes, this, List.getElem_cons_succ]; omega
theorem c_laws_szStringS {a : AV} {ss : List ByteArray} {L : Int} (hS : Ss σ a ss) (h0 : 0 ≤ L) (h1 : L ≤ 1048576) (hl : ss.length ≤ maxLen) (hm : ∀ s, s ∈ ss → s.size ≤ maxLen)
    (h : ∀ r : Int, -1 ≤ r → r ≤ L → (0 ≤ r → r + ss.length + sizes ss = L) → R (.ret (iv r)) σ) : acall TP fn_laws_szStringS [a, iv L] σ R := by
  have hM : maxLen = 9223372036854775807 := by decide
  refine s_laws_szStringS_ok ?_
  unfold s_laws_szStringS
  simp only [hS.len, og_some']
  rw [ibin_sub (by omega) (by omega)]
  simp only [og_some', ibin_lss]
  by_cases hc : L - ss.length < 0
  · simp only [hc, decide_true, apick_true]
    exact ret_here (h (-1) (by omega) (by omega) (by omega))
  simp only [hc, decide_false, apick_false]
  refine lp_same ss.length (fun i => (a, iv (L - ss.length - sizes (ss.take i)), iv i, ())) (fun i => (sizes (ss.take i) : Int) ≤ L - ss.length) (by simp [sizes, iv]; rfl) (by simp [sizes]; omega) ?_
  intro i hi hle R' hR'
  simp only [hS.len, og_some', ibin_lss]
  by_cases hlt : i < ss.length
  · have : (i : Int) < ss.length := by omega
    obtain ⟨p, hp, hq, _⟩ := hS.at hlt
    have hb := hm _ (List.getElem_mem hlt)
    have hT := sizes_take ss hlt
    simp only [this, decide_true, apick_true, hp, hq, og_some', lenStr_str]
    rw [ibin_sub (by omega) (by omega)]
    simp only [og_some', ibin_lss]
    by_cases hc : L - ss.length - sizes (ss.take i) - ss[i].size < 0
    · simp only [hc, decide_true, apick_true]
      exact ret_here (h (-1) (by omega) (by omega) (by omega))
    · simp only [hc, decide_false, apick_false]
      rw [ibin_up hlt (by omega)]
      simp only [og_some']
      have e : L - ss.length - sizes (ss.take i) - ss[i].size = L - ss.length - sizes (ss.take (i + 1)) := by omega
      rw [e]
      exact hR' hlt (by omega) _ (.refl _)
  · have : ¬ (i : Int) < ss.length := by omega
    simp only [this, decide_false, apick_false]
    obtain rfl : i = ss.length := by omega
    rw [List.take_length] at hle ⊢
    exact ret_here (h _ (by omega) (by omega) (by omega))
set_option maxRecDepth 100000 in
/-- Texts are copied; who gets them does not write into them. -/
theorem c_laws_toStringS {a : AV} {ss : List ByteArray} (hS : Ss σ a ss) (hl : ss.length ≤ 1099511627776) (h : R (.ret (roS ss)) σ) : acall TP fn_laws_toStringS [a] σ R := by
  refine s_laws_toStringS_ok ?_
  unfold s_laws_toStringS
  simp only [hS.len, og_some']
  refine mk_Ls (by omega) (by omega) (by omega) fun φ hφ => ?_
  simp only [Int.toNat_natCast]
  refine lp_for ss.length (fun i => (a, .own φ 0 0 ss.length, iv i, ())) (fun i σ' => σ' = σ.set φ ⟨0, 1, (ss.map fun s => [str s]).take i ++ List.replicate (ss.length - i) [.val (.string ⟨#[]⟩)]⟩) rfl (by simp) ?_
  rintro i _ hi rfl R' hR'
  have hs : AH.Sub σ (σ.set φ ⟨0, 1, (ss.map fun s => [str s]).take i ++ List.replicate (ss.length - i) [.val (.string ⟨#[]⟩)]⟩) := sub_set (.refl σ) hφ
  have hS' := hS.sub hs
  simp only [hS'.len, og_some', ibin_lss]
  have hml : (ss.map fun s => [str s]).length = ss.length := by simp
  by_cases hlt : i < ss.length
  · have : (i : Int) < ss.length := by omega
    obtain ⟨p, hp, hq, _⟩ := hS'.at hlt
    simp only [this, decide_true, apick_true, hp, hq, og_some']
    rw [idx_own (AH.set_same ..) hlt]
    simp only [og_some', Nat.zero_add]
    refine sto_own (cs := [str ss[i]]) (AH.set_same ..) (by rw [len_rep hml hi]; exact hlt) (by rw [getD_rep hml hlt]; rfl) rfl rfl (by simp [AV.one, Value.oneCell']) ?_
    rw [ibin_up hlt (by omega)]
    simp only [og_some', AH.set_set]
    have e := take_rep_set (z := [AV.val (.string ⟨#[]⟩)]) hml hlt
    simp only [List.getElem_map] at e
    rw [e]
    exact hR' hlt _ _ (.refl _) rfl
  · have : ¬ (i : Int) < ss.length := by omega
    simp only [this, decide_false, apick_false]
    obtain rfl : i = ss.length := by omega
    refine aret_freeze hs (.own (AH.set_same ..) hφ rfl (by simp) (by simp) (fun j hj => ?_) (fun j k hj hk => ?_)) h
    · simp [hj]
    · have hjs : (ss.map fun s => [str s]).getD j [] = [str ss[j]] := by simp [hj]
      simp [List.getD, hj]
      exact .same _
theorem c_laws_eqStringS {a b : AV} {ss ts : List ByteArray} (hS : Ss σ a ss) (hT : Ss σ b ts) (hl : ss.length ≤ 1099511627776) (h : R (.ret (bv (decide (ss = ts)))) σ) : acall TP fn_laws_eqStringS [a, b] σ R := by
  refine s_laws_eqStringS_ok ?_
  unfold s_laws_eqStringS
  simp only [hS.len, hT.len, og_some', ibin_neq]
  by_cases hc : ss.length = ts.length
  · have : ((ss.length : Int) = ts.length) := by omega
    simp only [this, decide_true, Bool.not_true, apick_false]
    refine lp_same ss.length (fun i => (a, b, iv i, ())) (fun i => ss.take i = ts.take i) rfl (by simp) ?_
    intro i hi he R' hR'
    simp only [hS.len, og_some', ibin_lss]
    by_cases hlt : i < ss.length
    · have : (i : Int) < ss.length := by omega
      obtain ⟨p, hp, hq, _⟩ := hS.at hlt
      obtain ⟨p', hp', hq', _⟩ := hT.at (hc ▸ hlt)
      simp only [this, decide_true, apick_true, hp, hq, hp', hq', og_some', sbin_neq]
      by_cases hx : ss[i] = ts[i]'(hc ▸ hlt)
      · simp only [hx, decide_true, Bool.not_true, apick_false]
        rw [ibin_up hlt (by omega)]
        simp only [og_some']
        refine hR' hlt ?_ _ (.refl _)
        rw [List.take_succ_eq_append_getElem hlt, List.take_succ_eq_append_getElem (hc ▸ hlt), he, hx]
      · simp only [hx, decide_false, Bool.not_false, apick_true]
        have : ¬ ss = ts := by rintro rfl; exact hx rfl
        refine ret_here ?_
        simpa [this] using h
    · have : ¬ (i : Int) < ss.length := by omega
      simp only [this, decide_false, apick_false]
      obtain rfl : i = ss.length := by omega
      have : ss = ts := by rw [List.take_length, hc, List.take_length] at he; exact he
      refine ret_here ?_
      simpa [this] using h
  · have : ¬ ((ss.length : Int) = ts.length) := by omega
    simp only [this, decide_false, Bool.not_false, apick_true]
    have : ¬ ss = ts := by rintro rfl; exact hc rfl
    refine ret_here ?_
    simpa [this] using h
abbrev intR (c v : Int) : AV := .agg [iv c, iv v]
theorem c_laws_eqIntResult {c v c' v' : Int} (h : R (.ret (bv (decide (c = c') && decide (v = v')))) σ) : acall TP fn_laws_eqIntResult [intR c v, intR c' v'] σ R := by
  refine s_laws_eqIntResult_ok ?_
  unfold s_laws_eqIntResult
  simp only [abox_agg]
  intro φ hφ ψ hψ
  simp only [AH.set_none] at hψ
  obtain ⟨hne, hψ⟩ := hψ
  have hs : AH.Sub σ ((σ.set φ ⟨0, 2, [[iv c, iv v]]⟩).set ψ ⟨0, 2, [[iv c', iv v']]⟩) := sub_set (sub_set (.refl σ) hφ) hψ
  simp [lod, acellsAt, AH.set_ne', Ne.symm hne]
  by_cases h1 : c = c'
  · subst h1
    by_cases h2 : v = v'
    · subst h2; simp at h ⊢; exact aret_sub hs h
    · simp [h2] at h ⊢; exact aret_sub hs h
  · simp [h1] at h ⊢; exact aret_sub hs h
/-- Where two lists are gap first; none. -/
def gap : List ByteArray → List ByteArray → Option Nat
  | [], [] => none
  | a :: xs, b :: ys => if a = b then (gap xs ys).map (· + 1) else some 0
  | _, _ => some 0
theorem gap_self (ss : List ByteArray) : gap ss ss = none := by
  induction ss with
  | nil => rfl
  | cons s ss ih => simp [gap, ih]
theorem gap_at : ∀ (i : Nat) (ss ts : List ByteArray), i ≤ ss.length → i ≤ ts.length → ss.take i = ts.take i → i < ss.length ∨ i < ts.length → (∀ (h1 : i < ss.length) (h2 : i < ts.length), ss[i] ≠ ts[i]) → gap ss ts = some i := by
  intro i
  induction i with
  | zero =>
    intro ss ts _ _ _ h hne
    match ss, ts with
    | [], [] => simp at h
    | [], _ :: _ => rfl
    | _ :: _, [] => rfl
    | s :: ss, t :: ts =>
      have := hne (by simp) (by simp)
      simp only [List.getElem_cons_zero] at this
      simp [gap, this]
  | succ i ih =>
    intro ss ts h1 h2 he h hne
    match ss, ts, h1, h2 with
    | s :: ss, t :: ts, h1, h2 =>
      simp only [List.take_succ_cons, List.cons.injEq] at he
      have := ih ss ts (by simpa using h1) (by simpa using h2) he.2 (by simpa using h) (fun g1 g2 => by have := hne (by simpa using g1) (by simpa using g2); simpa using this)
      simp [gap, he.1, this]
def apI (ss ts : List ByteArray) : Int := match gap ss ts with | none => -1 | some i => i
theorem c_spec_l16Apart {a b : AV} {ss ts : List ByteArray} (hS : Ss σ a ss) (hT : Ss σ b ts) (hl : ss.length ≤ 1099511627776) (hl2 : ts.length ≤ 1099511627776) (h : R (.ret (iv (apI ss ts))) σ) : acall TP fn_spec_l16Apart [a, b] σ R := by
  refine s_spec_l16Apart_ok ?_
  unfold s_spec_l16Apart
  refine lp_same (max ss.length ts.length) (fun i => (a, b, iv i, ())) (fun i => i ≤ ss.length ∧ i ≤ ts.length ∧ ss.take i = ts.take i) rfl (by simp) ?_
  rintro i hi ⟨hi1, hi2, he⟩ R' hR'
  simp only [hS.len, hT.len, og_some', onr_ret, gval_true, gval_false, pickV_true, pickV_false, apick_true, apick_false, gpick_true, gpick_false, ibin_leq, ibin_geq, ibin_lss, ibin_gtr, ibin_eql, ibin_neq, sbin_eql, sbin_neq, aun_not, Bool.not_true, Bool.not_false, decide_true, decide_false, if_true, if_false, Bool.false_eq_true, fldA_ptr, fldA_rop, anil_ptr, lenStr_str, amm_max, amm_min, Nat.zero_add, Nat.add_zero, List.length_cons, List.length_nil, Nat.reduceAdd]
  have out : (i < ss.length ∨ i < ts.length) → (∀ (h1 : i < ss.length) (h2 : i < ts.length), ss[i] ≠ ts[i]) → aret (iv i) σ R := by
    intro g1 g2
    have := gap_at i ss ts hi1 hi2 he g1 g2
    refine ret_here ?_
    simpa [apI, this] using h
  by_cases h1 : i < ss.length
  · have g1 : (i : Int) < ss.length := by omega
    have g1' : ¬ (ss.length : Int) ≤ i := by omega
    by_cases h2 : i < ts.length
    · have g2 : (i : Int) < ts.length := by omega
      have g2' : ¬ (ts.length : Int) ≤ i := by omega
      obtain ⟨p, hp, hq, _⟩ := hS.at h1
      obtain ⟨p', hp', hq', _⟩ := hT.at h2
      simp only [g1, g1', g2', hp, hq, hp', hq', hT.len, og_some', onr_ret, gval_true, gval_false, pickV_true, pickV_false, apick_true, apick_false, gpick_true, gpick_false, ibin_leq, ibin_geq, ibin_lss, ibin_gtr, ibin_eql, ibin_neq, sbin_eql, sbin_neq, aun_not, Bool.not_true, Bool.not_false, decide_true, decide_false, if_true, if_false, Bool.false_eq_true, fldA_ptr, fldA_rop, anil_ptr, lenStr_str, amm_max, amm_min, Nat.zero_add, Nat.add_zero, List.length_cons, List.length_nil, Nat.reduceAdd]
      by_cases hx : ss[i] = ts[i]
      · simp only [hx, og_some', onr_ret, gval_true, gval_false, pickV_true, pickV_false, apick_true, apick_false, gpick_true, gpick_false, ibin_leq, ibin_geq, ibin_lss, ibin_gtr, ibin_eql, ibin_neq, sbin_eql, sbin_neq, aun_not, Bool.not_true, Bool.not_false, decide_true, decide_false, if_true, if_false, Bool.false_eq_true, fldA_ptr, fldA_rop, anil_ptr, lenStr_str, amm_max, amm_min, Nat.zero_add, Nat.add_zero, List.length_cons, List.length_nil, Nat.reduceAdd]
        rw [ibin_up h1 (by omega)]
        simp only [og_some']
        refine hR' (by omega) ⟨h1, h2, ?_⟩ _ (.refl _)
        rw [List.take_succ_eq_append_getElem h1, List.take_succ_eq_append_getElem h2, he, hx]
      · simp only [hx, og_some', onr_ret, gval_true, gval_false, pickV_true, pickV_false, apick_true, apick_false, gpick_true, gpick_false, ibin_leq, ibin_geq, ibin_lss, ibin_gtr, ibin_eql, ibin_neq, sbin_eql, sbin_neq, aun_not, Bool.not_true, Bool.not_false, decide_true, decide_false, if_true, if_false, Bool.false_eq_true, fldA_ptr, fldA_rop, anil_ptr, lenStr_str, amm_max, amm_min, Nat.zero_add, Nat.add_zero, List.length_cons, List.length_nil, Nat.reduceAdd]
        exact out (.inl h1) (fun _ _ => hx)
    · have g2' : (ts.length : Int) ≤ i := by omega
      simp only [g1, g1', g2', hT.len, og_some', onr_ret, gval_true, gval_false, pickV_true, pickV_false, apick_true, apick_false, gpick_true, gpick_false, ibin_leq, ibin_geq, ibin_lss, ibin_gtr, ibin_eql, ibin_neq, sbin_eql, sbin_neq, aun_not, Bool.not_true, Bool.not_false, decide_true, decide_false, if_true, if_false, Bool.false_eq_true, fldA_ptr, fldA_rop, anil_ptr, lenStr_str, amm_max, amm_min, Nat.zero_add, Nat.add_zero, List.length_cons, List.length_nil, Nat.reduceAdd]
      exact out (.inl h1) (fun _ h => absurd h h2)
  · have g1 : ¬ (i : Int) < ss.length := by omega
    have g1' : (ss.length : Int) ≤ i := by omega
    by_cases h2 : i < ts.length
    · have g2 : (i : Int) < ts.length := by omega
      simp only [g1, g1', g2, hT.len, og_some', onr_ret, gval_true, gval_false, pickV_true, pickV_false, apick_true, apick_false, gpick_true, gpick_false, ibin_leq, ibin_geq, ibin_lss, ibin_gtr, ibin_eql, ibin_neq, sbin_eql, sbin_neq, aun_not, Bool.not_true, Bool.not_false, decide_true, decide_false, if_true, if_false, Bool.false_eq_true, fldA_ptr, fldA_rop, anil_ptr, lenStr_str, amm_max, amm_min, Nat.zero_add, Nat.add_zero, List.length_cons, List.length_nil, Nat.reduceAdd]
      exact out (.inr h2) (fun h _ => absurd h h1)
    · have g2 : ¬ (i : Int) < ts.length := by omega
      simp only [g1, g2, hT.len, og_some', onr_ret, gval_true, gval_false, pickV_true, pickV_false, apick_true, apick_false, gpick_true, gpick_false, ibin_leq, ibin_geq, ibin_lss, ibin_gtr, ibin_eql, ibin_neq, sbin_eql, sbin_neq, aun_not, Bool.not_true, Bool.not_false, decide_true, decide_false, if_true, if_false, Bool.false_eq_true, fldA_ptr, fldA_rop, anil_ptr, lenStr_str, amm_max, amm_min, Nat.zero_add, Nat.add_zero, List.length_cons, List.length_nil, Nat.reduceAdd]
      have e1 : ss.length = i := by omega
      have e2 : ts.length = i := by omega
      have : ss = ts := by rw [← e1, List.take_length, e1, ← e2, List.take_length] at he; exact he
      subst this
      refine ret_here ?_
      simpa [apI, gap_self] using h
def apR (ss ts : List ByteArray) : Int × Int := if 12 < ss.length ∨ 12 < ts.length then (2, 0) else match gap ss ts with | none => (4, 0) | some i => (0, i)
theorem bld2_0 (x : Int) : bld [iv 0, iv 0] [(0, 1), (1, 1)] [(0, iv x)] = some (.agg [iv x, iv 0]) := rfl
theorem bld2_1 (x : Int) : bld [iv 0, iv 0] [(0, 1), (1, 1)] [(1, iv x)] = some (.agg [iv 0, iv x]) := rfl
theorem gap_le : ∀ (ss ts : List ByteArray) (i : Nat), gap ss ts = some i → i ≤ ss.length ∧ i ≤ ts.length := by
  intro ss
  induction ss with
  | nil => intro ts i h; cases ts <;> simp [gap] at h; omega
  | cons s ss ih =>
    intro ts i h
    cases ts with
    | nil => simp [gap] at h; omega
    | cons t ts =>
      unfold gap at h
      split at h
      · obtain ⟨j, h1, rfl⟩ := Option.map_eq_some_iff.1 h
        have := ih _ _ h1
        simp; omega
      · obtain rfl := Option.some.inj h; simp
theorem c_spec_FirstApart {a b : AV} {ss ts : List ByteArray} (hS : Ss σ a ss) (hT : Ss σ b ts) (h : R (.ret (intR (apR ss ts).1 (apR ss ts).2)) σ) : acall TP fn_spec_FirstApart [a, b] σ R := by
  refine s_spec_FirstApart_ok ?_
  unfold s_spec_FirstApart
  simp only [new_eq, og_some', onr_ret, gval_true, gval_false, pickV_true, pickV_false, apick_true, apick_false, gpick_true, gpick_false, ibin_leq, ibin_geq, ibin_lss, ibin_gtr, ibin_eql, ibin_neq, sbin_eql, sbin_neq, aun_not, Bool.not_true, Bool.not_false, decide_true, decide_false, if_true, if_false, Bool.false_eq_true, fldA_ptr, fldA_rop, anil_ptr, lenStr_str, amm_max, amm_min, Nat.zero_add, Nat.add_zero, List.length_cons, List.length_nil, Nat.reduceAdd]
  intro φ hφ
  have hs : AH.Sub σ (σ.set φ ⟨0, 2, [[iv 0, iv 0]]⟩) := sub_set (.refl σ) hφ
  have fin : ∀ c v : Int, (c, v) = apR ss ts → sto 2 (.ptr φ 0 0 0) (.agg [iv c, iv v]) (σ.set φ ⟨0, 2, [[iv 0, iv 0]]⟩) fun σ => og (lodA 2 (.ptr φ 0 0 0) σ) fun r4 => aret r4 σ R := by
    intro c v e
    rw [← e] at h
    refine sto_own (AH.set_same ..) (by simp) (by simp) rfl rfl (by simp [AV.one, Value.oneCell']) ?_
    simp [lodA, acellsAt]
    exact aret_sub (sub_set (.refl σ) hφ) h
  simp only [hS.len, hT.len, og_some', ibin_gtr]
  by_cases h1 : 12 < ss.length
  · have g1 : (12 : Int) < ss.length := by omega
    simp only [g1, bld2_0, og_some', onr_ret, gval_true, gval_false, pickV_true, pickV_false, apick_true, apick_false, gpick_true, gpick_false, ibin_leq, ibin_geq, ibin_lss, ibin_gtr, ibin_eql, ibin_neq, sbin_eql, sbin_neq, aun_not, Bool.not_true, Bool.not_false, decide_true, decide_false, if_true, if_false, Bool.false_eq_true, fldA_ptr, fldA_rop, anil_ptr, lenStr_str, amm_max, amm_min, Nat.zero_add, Nat.add_zero, List.length_cons, List.length_nil, Nat.reduceAdd]
    exact fin 2 0 (by simp [apR, h1])
  have g1 : ¬ (12 : Int) < ss.length := by omega
  by_cases h2 : 12 < ts.length
  · have g2 : (12 : Int) < ts.length := by omega
    simp only [g1, g2, hT.len, bld2_0, og_some', onr_ret, gval_true, gval_false, pickV_true, pickV_false, apick_true, apick_false, gpick_true, gpick_false, ibin_leq, ibin_geq, ibin_lss, ibin_gtr, ibin_eql, ibin_neq, sbin_eql, sbin_neq, aun_not, Bool.not_true, Bool.not_false, decide_true, decide_false, if_true, if_false, Bool.false_eq_true, fldA_ptr, fldA_rop, anil_ptr, lenStr_str, amm_max, amm_min, Nat.zero_add, Nat.add_zero, List.length_cons, List.length_nil, Nat.reduceAdd]
    exact fin 2 0 (by simp [apR, h2])
  have g2 : ¬ (12 : Int) < ts.length := by omega
  simp only [g1, g2, hT.len, og_some', onr_ret, gval_true, gval_false, pickV_true, pickV_false, apick_true, apick_false, gpick_true, gpick_false, ibin_leq, ibin_geq, ibin_lss, ibin_gtr, ibin_eql, ibin_neq, sbin_eql, sbin_neq, aun_not, Bool.not_true, Bool.not_false, decide_true, decide_false, if_true, if_false, Bool.false_eq_true, fldA_ptr, fldA_rop, anil_ptr, lenStr_str, amm_max, amm_min, Nat.zero_add, Nat.add_zero, List.length_cons, List.length_nil, Nat.reduceAdd]
  refine c_spec_l16Apart (hS.sub hs) (hT.sub hs) (by omega) (by omega) ?_
  simp only [onr_ret, ibin_lss, og_some']
  unfold apR at fin
  simp only [h1, h2, or_self, if_false] at fin
  unfold apI
  cases ha : gap ss ts with
  | none =>
    rw [ha] at fin
    simp only [show ((-1 : Int) < 0) from by omega, bld2_0, og_some', onr_ret, gval_true, gval_false, pickV_true, pickV_false, apick_true, apick_false, gpick_true, gpick_false, ibin_leq, ibin_geq, ibin_lss, ibin_gtr, ibin_eql, ibin_neq, sbin_eql, sbin_neq, aun_not, Bool.not_true, Bool.not_false, decide_true, decide_false, if_true, if_false, Bool.false_eq_true, fldA_ptr, fldA_rop, anil_ptr, lenStr_str, amm_max, amm_min, Nat.zero_add, Nat.add_zero, List.length_cons, List.length_nil, Nat.reduceAdd]
    exact fin 4 0 rfl
  | some i =>
    rw [ha] at fin
    have : ¬ (i : Int) < 0 := by omega
    simp only [this, bld2_1, og_some', onr_ret, gval_true, gval_false, pickV_true, pickV_false, apick_true, apick_false, gpick_true, gpick_false, ibin_leq, ibin_geq, ibin_lss, ibin_gtr, ibin_eql, ibin_neq, sbin_eql, sbin_neq, aun_not, Bool.not_true, Bool.not_false, decide_true, decide_false, if_true, if_false, Bool.false_eq_true, fldA_ptr, fldA_rop, anil_ptr, lenStr_str, amm_max, amm_min, Nat.zero_add, Nat.add_zero, List.length_cons, List.length_nil, Nat.reduceAdd]
    exact fin 0 i rfl
theorem c_impl_FirstApart {a b : AV} {ss ts : List ByteArray} (hS : Ss σ a ss) (hT : Ss σ b ts) (h : R (.ret (intR (apR ss ts).1 (apR ss ts).2)) σ) : acall TP fn_impl_FirstApart [a, b] σ R := by
  refine s_impl_FirstApart_ok ?_
  unfold s_impl_FirstApart
  simp only [new_eq, og_some', onr_ret, gval_true, gval_false, pickV_true, pickV_false, apick_true, apick_false, gpick_true, gpick_false, ibin_leq, ibin_geq, ibin_lss, ibin_gtr, ibin_eql, ibin_neq, sbin_eql, sbin_neq, aun_not, Bool.not_true, Bool.not_false, decide_true, decide_false, if_true, if_false, Bool.false_eq_true, fldA_ptr, fldA_rop, anil_ptr, lenStr_str, amm_max, amm_min, Nat.zero_add, Nat.add_zero, List.length_cons, List.length_nil, Nat.reduceAdd]
  intro φ hφ
  have hs : AH.Sub σ (σ.set φ ⟨0, 2, [[iv 0, iv 0]]⟩) := sub_set (.refl σ) hφ
  have fin : ∀ c v : Int, (c, v) = apR ss ts → sto 2 (.ptr φ 0 0 0) (.agg [iv c, iv v]) (σ.set φ ⟨0, 2, [[iv 0, iv 0]]⟩) fun σ => og (lodA 2 (.ptr φ 0 0 0) σ) fun r4 => aret r4 σ R := by
    intro c v e
    rw [← e] at h
    refine sto_own (AH.set_same ..) (by simp) (by simp) rfl rfl (by simp [AV.one, Value.oneCell']) ?_
    simp [lodA, acellsAt]
    exact aret_sub (sub_set (.refl σ) hφ) h
  simp only [hS.len, hT.len, og_some', onr_ret, gval_true, gval_false, pickV_true, pickV_false, apick_true, apick_false, gpick_true, gpick_false, ibin_leq, ibin_geq, ibin_lss, ibin_gtr, ibin_eql, ibin_neq, sbin_eql, sbin_neq, aun_not, Bool.not_true, Bool.not_false, decide_true, decide_false, if_true, if_false, Bool.false_eq_true, fldA_ptr, fldA_rop, anil_ptr, lenStr_str, amm_max, amm_min, Nat.zero_add, Nat.add_zero, List.length_cons, List.length_nil, Nat.reduceAdd]
  by_cases h1 : 12 < ss.length
  · have g1 : (12 : Int) < ss.length := by omega
    simp only [g1, bld2_0, og_some', onr_ret, gval_true, gval_false, pickV_true, pickV_false, apick_true, apick_false, gpick_true, gpick_false, ibin_leq, ibin_geq, ibin_lss, ibin_gtr, ibin_eql, ibin_neq, sbin_eql, sbin_neq, aun_not, Bool.not_true, Bool.not_false, decide_true, decide_false, if_true, if_false, Bool.false_eq_true, fldA_ptr, fldA_rop, anil_ptr, lenStr_str, amm_max, amm_min, Nat.zero_add, Nat.add_zero, List.length_cons, List.length_nil, Nat.reduceAdd]
    exact fin 2 0 (by simp [apR, h1])
  have g1 : ¬ (12 : Int) < ss.length := by omega
  by_cases h2 : 12 < ts.length
  · have g2 : (12 : Int) < ts.length := by omega
    simp only [g1, g2, hT.len, bld2_0, og_some', onr_ret, gval_true, gval_false, pickV_true, pickV_false, apick_true, apick_false, gpick_true, gpick_false, ibin_leq, ibin_geq, ibin_lss, ibin_gtr, ibin_eql, ibin_neq, sbin_eql, sbin_neq, aun_not, Bool.not_true, Bool.not_false, decide_true, decide_false, if_true, if_false, Bool.false_eq_true, fldA_ptr, fldA_rop, anil_ptr, lenStr_str, amm_max, amm_min, Nat.zero_add, Nat.add_zero, List.length_cons, List.length_nil, Nat.reduceAdd]
    exact fin 2 0 (by simp [apR, h2])
  have g2 : ¬ (12 : Int) < ts.length := by omega
  simp only [g1, g2, hT.len, og_some', onr_ret, gval_true, gval_false, pickV_true, pickV_false, apick_true, apick_false, gpick_true, gpick_false, ibin_leq, ibin_geq, ibin_lss, ibin_gtr, ibin_eql, ibin_neq, sbin_eql, sbin_neq, aun_not, Bool.not_true, Bool.not_false, decide_true, decide_false, if_true, if_false, Bool.false_eq_true, fldA_ptr, fldA_rop, anil_ptr, lenStr_str, amm_max, amm_min, Nat.zero_add, Nat.add_zero, List.length_cons, List.length_nil, Nat.reduceAdd]
  unfold apR at fin
  simp only [h1, h2, or_self, if_false] at fin
  have hmax : (if (ts.length : Int) > ss.length then (ts.length : Int) else ss.length) = ((max ss.length ts.length : Nat) : Int) := by split <;> omega
  rw [hmax]
  refine lp_same (max ss.length ts.length) (fun i => (a, b, .ptr φ 0 0 0, iv (max ss.length ts.length : Nat), iv i, ())) (fun i => i ≤ ss.length ∧ i ≤ ts.length ∧ ss.take i = ts.take i) rfl (by simp) ?_
  rintro i hi ⟨hi1, hi2, he⟩ R' hR'
  have hS' := hS.sub hs
  have hT' := hT.sub hs
  simp only [hS.len, hT.len, og_some', onr_ret, gval_true, gval_false, pickV_true, pickV_false, apick_true, apick_false, gpick_true, gpick_false, ibin_leq, ibin_geq, ibin_lss, ibin_gtr, ibin_eql, ibin_neq, sbin_eql, sbin_neq, aun_not, Bool.not_true, Bool.not_false, decide_true, decide_false, if_true, if_false, Bool.false_eq_true, fldA_ptr, fldA_rop, anil_ptr, lenStr_str, amm_max, amm_min, Nat.zero_add, Nat.add_zero, List.length_cons, List.length_nil, Nat.reduceAdd]
  have out : (i < ss.length ∨ i < ts.length) → (∀ (h1 : i < ss.length) (h2 : i < ts.length), ss[i] ≠ ts[i]) → sto 2 (.ptr φ 0 0 0) (.agg [iv 0, iv i]) (σ.set φ ⟨0, 2, [[iv 0, iv 0]]⟩) fun σ => og (lodA 2 (.ptr φ 0 0 0) σ) fun r4 => aret r4 σ R := by
    intro k1 k2
    have := gap_at i ss ts hi1 hi2 he k1 k2
    rw [this] at fin
    exact fin 0 i rfl
  by_cases hlt : i < max ss.length ts.length
  · have hlt' : (i : Int) < (max ss.length ts.length : Nat) := by omega
    simp only [hlt', og_some', onr_ret, gval_true, gval_false, pickV_true, pickV_false, apick_true, apick_false, gpick_true, gpick_false, ibin_leq, ibin_geq, ibin_lss, ibin_gtr, ibin_eql, ibin_neq, sbin_eql, sbin_neq, aun_not, Bool.not_true, Bool.not_false, decide_true, decide_false, if_true, if_false, Bool.false_eq_true, fldA_ptr, fldA_rop, anil_ptr, lenStr_str, amm_max, amm_min, Nat.zero_add, Nat.add_zero, List.length_cons, List.length_nil, Nat.reduceAdd]
    by_cases k1 : i < ss.length
    · have l1 : ¬ (ss.length : Int) ≤ i := by omega
      by_cases k2 : i < ts.length
      · have l2 : ¬ (ts.length : Int) ≤ i := by omega
        obtain ⟨p, hp, hq, _⟩ := hS'.at k1
        obtain ⟨p', hp', hq', _⟩ := hT'.at k2
        simp only [l1, l2, hp, hq, hp', hq', hT.len, og_some', onr_ret, gval_true, gval_false, pickV_true, pickV_false, apick_true, apick_false, gpick_true, gpick_false, ibin_leq, ibin_geq, ibin_lss, ibin_gtr, ibin_eql, ibin_neq, sbin_eql, sbin_neq, aun_not, Bool.not_true, Bool.not_false, decide_true, decide_false, if_true, if_false, Bool.false_eq_true, fldA_ptr, fldA_rop, anil_ptr, lenStr_str, amm_max, amm_min, Nat.zero_add, Nat.add_zero, List.length_cons, List.length_nil, Nat.reduceAdd]
        by_cases hx : ss[i] = ts[i]
        · simp only [hx, og_some', onr_ret, gval_true, gval_false, pickV_true, pickV_false, apick_true, apick_false, gpick_true, gpick_false, ibin_leq, ibin_geq, ibin_lss, ibin_gtr, ibin_eql, ibin_neq, sbin_eql, sbin_neq, aun_not, Bool.not_true, Bool.not_false, decide_true, decide_false, if_true, if_false, Bool.false_eq_true, fldA_ptr, fldA_rop, anil_ptr, lenStr_str, amm_max, amm_min, Nat.zero_add, Nat.add_zero, List.length_cons, List.length_nil, Nat.reduceAdd]
          rw [ibin_up hlt (by omega)]
          simp only [og_some']
          refine hR' hlt ⟨k1, k2, ?_⟩ _ (.refl _)
          rw [List.take_succ_eq_append_getElem k1, List.take_succ_eq_append_getElem k2, he, hx]
        · simp only [hx, bld2_1, og_some', onr_ret, gval_true, gval_false, pickV_true, pickV_false, apick_true, apick_false, gpick_true, gpick_false, ibin_leq, ibin_geq, ibin_lss, ibin_gtr, ibin_eql, ibin_neq, sbin_eql, sbin_neq, aun_not, Bool.not_true, Bool.not_false, decide_true, decide_false, if_true, if_false, Bool.false_eq_true, fldA_ptr, fldA_rop, anil_ptr, lenStr_str, amm_max, amm_min, Nat.zero_add, Nat.add_zero, List.length_cons, List.length_nil, Nat.reduceAdd]
          exact out (.inl k1) (fun _ _ => hx)
      · have l2 : (ts.length : Int) ≤ i := by omega
        simp only [l1, l2, hT.len, bld2_1, og_some', onr_ret, gval_true, gval_false, pickV_true, pickV_false, apick_true, apick_false, gpick_true, gpick_false, ibin_leq, ibin_geq, ibin_lss, ibin_gtr, ibin_eql, ibin_neq, sbin_eql, sbin_neq, aun_not, Bool.not_true, Bool.not_false, decide_true, decide_false, if_true, if_false, Bool.false_eq_true, fldA_ptr, fldA_rop, anil_ptr, lenStr_str, amm_max, amm_min, Nat.zero_add, Nat.add_zero, List.length_cons, List.length_nil, Nat.reduceAdd]
        exact out (.inl k1) (fun _ h => absurd h k2)
    · have l1 : (ss.length : Int) ≤ i := by omega
      simp only [l1, bld2_1, og_some', onr_ret, gval_true, gval_false, pickV_true, pickV_false, apick_true, apick_false, gpick_true, gpick_false, ibin_leq, ibin_geq, ibin_lss, ibin_gtr, ibin_eql, ibin_neq, sbin_eql, sbin_neq, aun_not, Bool.not_true, Bool.not_false, decide_true, decide_false, if_true, if_false, Bool.false_eq_true, fldA_ptr, fldA_rop, anil_ptr, lenStr_str, amm_max, amm_min, Nat.zero_add, Nat.add_zero, List.length_cons, List.length_nil, Nat.reduceAdd]
      exact out (.inr (by clear out; omega)) (fun h _ => absurd h k1)
  · have hlt' : ¬ (i : Int) < (max ss.length ts.length : Nat) := by clear out; omega
    simp only [hlt', bld2_0, og_some', onr_ret, gval_true, gval_false, pickV_true, pickV_false, apick_true, apick_false, gpick_true, gpick_false, ibin_leq, ibin_geq, ibin_lss, ibin_gtr, ibin_eql, ibin_neq, sbin_eql, sbin_neq, aun_not, Bool.not_true, Bool.not_false, decide_true, decide_false, if_true, if_false, Bool.false_eq_true, fldA_ptr, fldA_rop, anil_ptr, lenStr_str, amm_max, amm_min, Nat.zero_add, Nat.add_zero, List.length_cons, List.length_nil, Nat.reduceAdd]
    have e1 : ss.length = i := by clear out; omega
    have e2 : ts.length = i := by clear out; omega
    have : ss = ts := by rw [← e1, List.take_length, e1, ← e2, List.take_length] at he; exact he
    subst this
    rw [gap_self] at fin
    exact fin 4 0 rfl
theorem c_laws_FnExactFirstApart {ss ts : List ByteArray} (hl : ss.length ≤ maxLen) (hm : ∀ s, s ∈ ss → s.size ≤ maxLen) (hl2 : ts.length ≤ maxLen) (hm2 : ∀ s, s ∈ ts → s.size ≤ maxLen)
    (h : R (.ret (bv true)) σ) : acall TP fn_laws_FnExactFirstApart [roS ss, roS ts] σ R := by
  refine s_laws_FnExactFirstApart_ok ?_
  unfold s_laws_FnExactFirstApart
  refine c_laws_szStringS (Cs.ro ..) (by omega) (by omega) hl hm fun r r0 r1 r2 => ?_
  simp only [og_some', onr_ret, gval_true, gval_false, pickV_true, pickV_false, apick_true, apick_false, gpick_true, gpick_false, ibin_leq, ibin_geq, ibin_lss, ibin_gtr, ibin_eql, ibin_neq, sbin_eql, sbin_neq, aun_not, Bool.not_true, Bool.not_false, decide_true, decide_false, if_true, if_false, Bool.false_eq_true, fldA_ptr, fldA_rop, anil_ptr, lenStr_str, amm_max, amm_min, Nat.zero_add, Nat.add_zero, List.length_cons, List.length_nil, Nat.reduceAdd]
  by_cases c1 : r < 0
  · simp only [c1, og_some', onr_ret, gval_true, gval_false, pickV_true, pickV_false, apick_true, apick_false, gpick_true, gpick_false, ibin_leq, ibin_geq, ibin_lss, ibin_gtr, ibin_eql, ibin_neq, sbin_eql, sbin_neq, aun_not, Bool.not_true, Bool.not_false, decide_true, decide_false, if_true, if_false, Bool.false_eq_true, fldA_ptr, fldA_rop, anil_ptr, lenStr_str, amm_max, amm_min, Nat.zero_add, Nat.add_zero, List.length_cons, List.length_nil, Nat.reduceAdd]; exact ret_here h
  simp only [c1, og_some', onr_ret, gval_true, gval_false, pickV_true, pickV_false, apick_true, apick_false, gpick_true, gpick_false, ibin_leq, ibin_geq, ibin_lss, ibin_gtr, ibin_eql, ibin_neq, sbin_eql, sbin_neq, aun_not, Bool.not_true, Bool.not_false, decide_true, decide_false, if_true, if_false, Bool.false_eq_true, fldA_ptr, fldA_rop, anil_ptr, lenStr_str, amm_max, amm_min, Nat.zero_add, Nat.add_zero, List.length_cons, List.length_nil, Nat.reduceAdd]
  refine c_laws_szStringS (Cs.ro ..) (by omega) (by omega) hl2 hm2 fun q q0 q1 q2 => ?_
  simp only [og_some', onr_ret, gval_true, gval_false, pickV_true, pickV_false, apick_true, apick_false, gpick_true, gpick_false, ibin_leq, ibin_geq, ibin_lss, ibin_gtr, ibin_eql, ibin_neq, sbin_eql, sbin_neq, aun_not, Bool.not_true, Bool.not_false, decide_true, decide_false, if_true, if_false, Bool.false_eq_true, fldA_ptr, fldA_rop, anil_ptr, lenStr_str, amm_max, amm_min, Nat.zero_add, Nat.add_zero, List.length_cons, List.length_nil, Nat.reduceAdd]
  by_cases c2 : q < 0
  · simp only [c2, og_some', onr_ret, gval_true, gval_false, pickV_true, pickV_false, apick_true, apick_false, gpick_true, gpick_false, ibin_leq, ibin_geq, ibin_lss, ibin_gtr, ibin_eql, ibin_neq, sbin_eql, sbin_neq, aun_not, Bool.not_true, Bool.not_false, decide_true, decide_false, if_true, if_false, Bool.false_eq_true, fldA_ptr, fldA_rop, anil_ptr, lenStr_str, amm_max, amm_min, Nat.zero_add, Nat.add_zero, List.length_cons, List.length_nil, Nat.reduceAdd]; exact ret_here h
  simp only [c2, og_some', onr_ret, gval_true, gval_false, pickV_true, pickV_false, apick_true, apick_false, gpick_true, gpick_false, ibin_leq, ibin_geq, ibin_lss, ibin_gtr, ibin_eql, ibin_neq, sbin_eql, sbin_neq, aun_not, Bool.not_true, Bool.not_false, decide_true, decide_false, if_true, if_false, Bool.false_eq_true, fldA_ptr, fldA_rop, anil_ptr, lenStr_str, amm_max, amm_min, Nat.zero_add, Nat.add_zero, List.length_cons, List.length_nil, Nat.reduceAdd]
  have b1 : ss.length ≤ 1099511627776 := by omega
  have b2 : ts.length ≤ 1099511627776 := by omega
  refine c_laws_toStringS (Cs.ro ..) b1 ?_
  simp only [og_some', onr_ret, gval_true, gval_false, pickV_true, pickV_false, apick_true, apick_false, gpick_true, gpick_false, ibin_leq, ibin_geq, ibin_lss, ibin_gtr, ibin_eql, ibin_neq, sbin_eql, sbin_neq, aun_not, Bool.not_true, Bool.not_false, decide_true, decide_false, if_true, if_false, Bool.false_eq_true, fldA_ptr, fldA_rop, anil_ptr, lenStr_str, amm_max, amm_min, Nat.zero_add, Nat.add_zero, List.length_cons, List.length_nil, Nat.reduceAdd]
  refine c_laws_toStringS (Cs.ro ..) b2 ?_
  simp only [og_some', onr_ret, gval_true, gval_false, pickV_true, pickV_false, apick_true, apick_false, gpick_true, gpick_false, ibin_leq, ibin_geq, ibin_lss, ibin_gtr, ibin_eql, ibin_neq, sbin_eql, sbin_neq, aun_not, Bool.not_true, Bool.not_false, decide_true, decide_false, if_true, if_false, Bool.false_eq_true, fldA_ptr, fldA_rop, anil_ptr, lenStr_str, amm_max, amm_min, Nat.zero_add, Nat.add_zero, List.length_cons, List.length_nil, Nat.reduceAdd]
  refine c_spec_FirstApart (Cs.ro ..) (Cs.ro ..) ?_
  simp only [og_some', onr_ret, gval_true, gval_false, pickV_true, pickV_false, apick_true, apick_false, gpick_true, gpick_false, ibin_leq, ibin_geq, ibin_lss, ibin_gtr, ibin_eql, ibin_neq, sbin_eql, sbin_neq, aun_not, Bool.not_true, Bool.not_false, decide_true, decide_false, if_true, if_false, Bool.false_eq_true, fldA_ptr, fldA_rop, anil_ptr, lenStr_str, amm_max, amm_min, Nat.zero_add, Nat.add_zero, List.length_cons, List.length_nil, Nat.reduceAdd, new_eq]
  intro φ hφ
  refine sto_own (AH.set_same ..) (by simp) (by simp) rfl rfl (by simp [AV.one, Value.oneCell']) ?_
  refine c_laws_toStringS (Cs.ro ..) b1 ?_
  simp only [og_some', onr_ret, gval_true, gval_false, pickV_true, pickV_false, apick_true, apick_false, gpick_true, gpick_false, ibin_leq, ibin_geq, ibin_lss, ibin_gtr, ibin_eql, ibin_neq, sbin_eql, sbin_neq, aun_not, Bool.not_true, Bool.not_false, decide_true, decide_false, if_true, if_false, Bool.false_eq_true, fldA_ptr, fldA_rop, anil_ptr, lenStr_str, amm_max, amm_min, Nat.zero_add, Nat.add_zero, List.length_cons, List.length_nil, Nat.reduceAdd]
  refine c_laws_toStringS (Cs.ro ..) b2 ?_
  simp only [og_some', onr_ret, gval_true, gval_false, pickV_true, pickV_false, apick_true, apick_false, gpick_true, gpick_false, ibin_leq, ibin_geq, ibin_lss, ibin_gtr, ibin_eql, ibin_neq, sbin_eql, sbin_neq, aun_not, Bool.not_true, Bool.not_false, decide_true, decide_false, if_true, if_false, Bool.false_eq_true, fldA_ptr, fldA_rop, anil_ptr, lenStr_str, amm_max, amm_min, Nat.zero_add, Nat.add_zero, List.length_cons, List.length_nil, Nat.reduceAdd]
  refine c_impl_FirstApart (Cs.ro ..) (Cs.ro ..) ?_
  simp only [og_some', onr_ret, gval_true, gval_false, pickV_true, pickV_false, apick_true, apick_false, gpick_true, gpick_false, ibin_leq, ibin_geq, ibin_lss, ibin_gtr, ibin_eql, ibin_neq, sbin_eql, sbin_neq, aun_not, Bool.not_true, Bool.not_false, decide_true, decide_false, if_true, if_false, Bool.false_eq_true, fldA_ptr, fldA_rop, anil_ptr, lenStr_str, amm_max, amm_min, Nat.zero_add, Nat.add_zero, List.length_cons, List.length_nil, Nat.reduceAdd, AH.set_set]
  intro ψ hψ
  simp only [AH.set_none] at hψ
  obtain ⟨hne, hψ⟩ := hψ
  refine sto_own (AH.set_same ..) (by simp) (by simp) rfl rfl (by simp [AV.one, Value.oneCell']) ?_
  simp [lodA, acellsAt, AH.set_ne', Ne.symm hne]
  refine c_laws_eqIntResult ?_
  simp only [og_some', onr_ret, gval_true, gval_false, pickV_true, pickV_false, apick_true, apick_false, gpick_true, gpick_false, ibin_leq, ibin_geq, ibin_lss, ibin_gtr, ibin_eql, ibin_neq, sbin_eql, sbin_neq, aun_not, Bool.not_true, Bool.not_false, decide_true, decide_false, if_true, if_false, Bool.false_eq_true, fldA_ptr, fldA_rop, anil_ptr, lenStr_str, amm_max, amm_min, Nat.zero_add, Nat.add_zero, List.length_cons, List.length_nil, Nat.reduceAdd]
  refine c_laws_toStringS (Cs.ro ..) b1 ?_
  simp only [og_some', onr_ret, gval_true, gval_false, pickV_true, pickV_false, apick_true, apick_false, gpick_true, gpick_false, ibin_leq, ibin_geq, ibin_lss, ibin_gtr, ibin_eql, ibin_neq, sbin_eql, sbin_neq, aun_not, Bool.not_true, Bool.not_false, decide_true, decide_false, if_true, if_false, Bool.false_eq_true, fldA_ptr, fldA_rop, anil_ptr, lenStr_str, amm_max, amm_min, Nat.zero_add, Nat.add_zero, List.length_cons, List.length_nil, Nat.reduceAdd]
  refine c_laws_eqStringS (Cs.ro ..) (Cs.ro ..) b1 ?_
  simp only [og_some', onr_ret, gval_true, gval_false, pickV_true, pickV_false, apick_true, apick_false, gpick_true, gpick_false, ibin_leq, ibin_geq, ibin_lss, ibin_gtr, ibin_eql, ibin_neq, sbin_eql, sbin_neq, aun_not, Bool.not_true, Bool.not_false, decide_true, decide_false, if_true, if_false, Bool.false_eq_true, fldA_ptr, fldA_rop, anil_ptr, lenStr_str, amm_max, amm_min, Nat.zero_add, Nat.add_zero, List.length_cons, List.length_nil, Nat.reduceAdd]
  refine c_laws_toStringS (Cs.ro ..) b2 ?_
  simp only [og_some', onr_ret, gval_true, gval_false, pickV_true, pickV_false, apick_true, apick_false, gpick_true, gpick_false, ibin_leq, ibin_geq, ibin_lss, ibin_gtr, ibin_eql, ibin_neq, sbin_eql, sbin_neq, aun_not, Bool.not_true, Bool.not_false, decide_true, decide_false, if_true, if_false, Bool.false_eq_true, fldA_ptr, fldA_rop, anil_ptr, lenStr_str, amm_max, amm_min, Nat.zero_add, Nat.add_zero, List.length_cons, List.length_nil, Nat.reduceAdd]
  refine c_laws_eqStringS (Cs.ro ..) (Cs.ro ..) b2 ?_
  simp only [og_some', onr_ret, gval_true, gval_false, pickV_true, pickV_false, apick_true, apick_false, gpick_true, gpick_false, ibin_leq, ibin_geq, ibin_lss, ibin_gtr, ibin_eql, ibin_neq, sbin_eql, sbin_neq, aun_not, Bool.not_true, Bool.not_false, decide_true, decide_false, if_true, if_false, Bool.false_eq_true, fldA_ptr, fldA_rop, anil_ptr, lenStr_str, amm_max, amm_min, Nat.zero_add, Nat.add_zero, List.length_cons, List.length_nil, Nat.reduceAdd]
  exact aret_sub (sub_set (sub_set (.refl σ) hφ) hψ) h
end Go.Proofs.Ytjfdgijgkbojnaa.E
/- Stacks of pieces: measured, copied, compared. -/
set_option linter.unusedSectionVars false
set_option linter.unusedSimpArgs false
set_option linter.unusedVariables false
namespace Go.Proofs.Ytjfdgijgkbojnaa.E
open Go Go.RowKit
variable [Lam]
variable {σ : AH} {R : AEnd → AH → Prop}
abbrev Ns (σ : AH) (a : AV) (xs : List Int) : Prop := Cs iv σ a xs
abbrev roN (xs : List Int) : AV := .ro (xs.map fun x => [iv x])
/-- A list of lists of numbers. -/
def Ps (σ : AH) (a : AV) (ps : List (List Int)) : Prop := ∃ qs : List (AV × List Int), qs.map Prod.snd = ps ∧ Cs Prod.fst σ a qs ∧ ∀ q, q ∈ qs → Ns σ q.1 q.2
abbrev roP (ps : List (List Int)) : AV := .ro (ps.map fun p => [roN p])
theorem Ps.sub {σ' : AH} {a : AV} {ps : List (List Int)} (h : Ps σ a ps) (s : AH.Sub σ σ') : Ps σ' a ps := by
  obtain ⟨qs, h1, h2, h3⟩ := h
  exact ⟨qs, h1, h2.sub s, fun q hq => (h3 q hq).sub s⟩
theorem Ps.ro (σ : AH) (ps : List (List Int)) : Ps σ (roP ps) ps := by
  refine ⟨ps.map fun p => (roN p, p), by simp [Function.comp_def], ?_, ?_⟩
  · have := Cs.ro Prod.fst σ (ps.map fun p => (roN p, p))
    simpa [Function.comp_def] using this
  · intro q hq
    obtain ⟨p, _, rfl⟩ := List.mem_map.1 hq
    exact Cs.ro ..
theorem Ps.len {a : AV} {ps : List (List Int)} (h : Ps σ a ps) : lenS a = some (.val (.int .i64 ps.length)) := by
  obtain ⟨qs, rfl, h2, h3⟩ := h
  simpa using h2.len
theorem Ps.at {a : AV} {ps : List (List Int)} (h : Ps σ a ps) {i : Nat} (hi : i < ps.length) :
    ∃ p q p', idx 1 a (.val (.int .i64 (i : Int))) σ = some p ∧ lodA 1 p σ = some (.agg [q]) ∧ fldA 0 p = some p' ∧ lod p' σ = some q ∧ Ns σ q ps[i] := by
  obtain ⟨qs, rfl, h2, h3⟩ := h
  have hi' : i < qs.length := by simpa using hi
  obtain ⟨p, k1, _, k2⟩ := h2.at hi'
  obtain ⟨p', k3, k4⟩ := k2.fld 0 (by simp)
  refine ⟨p, qs[i].1, p', k1, by simpa using k2.lodA (n := 1) (by simp), k3, by simpa using k4, ?_⟩
  simpa using h3 _ (List.getElem_mem hi')
theorem Ps.fz {σ' : AH} {a : AV} {ps : List (List Int)} (h : Ps (dif σ σ') a ps) : Fz σ σ' a (roP ps) := by
  obtain ⟨qs, rfl, h2, h3⟩ := h
  have := Cs.fz (g := fun q : AV × List Int => roN q.2) h2 fun q hq => Cs.fz (g := iv) (h3 q hq) fun x _ => .same _
  simpa [roP, Function.comp_def] using this
/-- A list of lists that may be written into, each of its own. -/
structure PB (σ : AH) (a : AV) (qs : List (AV × List Int)) : Prop where
  out : Buf σ 1 a (qs.map fun q => [q.1])
  ins : ∀ q, q ∈ qs → Buf σ 1 q.1 (q.2.map fun x => [iv x])
  sep : ∀ q, q ∈ qs → ∀ ψ, Buf.fam q.1 ψ → ¬ Buf.fam a ψ
  pair : qs.Pairwise fun q r => ∀ ψ, Buf.fam q.1 ψ → ¬ Buf.fam r.1 ψ
theorem PB.ps {a : AV} {qs : List (AV × List Int)} (h : PB σ a qs) : Ps σ a (qs.map Prod.snd) := ⟨qs, rfl, Buf.cs h.out, fun q hq => Buf.cs (h.ins q hq)⟩
theorem PB.sub {σ' : AH} {a : AV} {qs : List (AV × List Int)} (h : PB σ a qs) (s : AH.Sub σ σ') : PB σ' a qs := ⟨h.out.sub s, fun q hq => (h.ins q hq).sub s, h.sep, h.pair⟩
def tot : List (List Int) → Nat
  | [] => 0
  | p :: ps => p.length + tot ps
theorem tot_take (ps : List (List Int)) {i : Nat} (hi : i < ps.length) : tot (ps.take (i + 1)) = tot (ps.take i) + ps[i].length := by
  induction ps generalizing i with
  | nil => cases hi
  | cons s ps ih =>
    cases i with
    | zero => simp [tot]
    | succ i =>
      have := ih (i := i) (by simpa using hi)
      simp only [List.take_succ_cons, tot, this, List.getElem_cons_succ]; omega
theorem tot_take_le (ps : List (List Int)) (i : Nat) : tot (ps.take i) ≤ tot ps := by
  induction ps generalizing i with
  | nil => simp
  | cons s ps ih =>
    cases i with
    | zero => simp [tot]
    | succ i => have := ih i; simp only [List.take_succ_cons, tot]; omega
theorem tot_at (ps : List (List Int)) {i : Nat} (hi : i < ps.length) : tot (ps.take i) + ps[i].length ≤ tot ps := by
  rw [← tot_take ps hi]; exact tot_take_le ps _
theorem tot_flatten (ps : List (List Int)) : ps.flatten.length = tot ps := by
  induction ps with
  | nil => rfl
  | cons p ps ih => simp [tot] at ih ⊢; omega

/-! ### measured -/
theorem c_laws_szInt64S {a : AV} {xs : List Int} {L : Int} (hS : Ns σ a xs) (h0 : 0 ≤ L) (h1 : L ≤ 1048576) (hl : xs.length ≤ maxLen)
    (h : ∀ r : Int, -1 ≤ r → r ≤ L → (0 ≤ r → r + xs.length = L) → (r < 0 → L < xs.length) → R (.ret (iv r)) σ) : acall TP fn_laws_szInt64S [a, iv L] σ R := by
  have hM : maxLen = 9223372036854775807 := by decide
  refine s_laws_szInt64S_ok ?_
  unfold s_laws_szInt64S
  simp only [hS.len, ibin_sub (a := L) (b := xs.length) (by omega) (by omega), og_some', onr_ret, gval_true, gval_false, pickV_true, pickV_false, apick_true, apick_false, gpick_true, gpick_false, ibin_leq, ibin_geq, ibin_lss, ibin_gtr, ibin_eql, ibin_neq, sbin_eql, sbin_neq, aun_not, Bool.not_true, Bool.not_false, decide_true, decide_false, if_true, if_false, Bool.false_eq_true, fldA_ptr, fldA_rop, anil_ptr, lenStr_str, amm_max, amm_min, Nat.zero_add, Nat.add_zero, List.length_cons, List.length_nil, Nat.reduceAdd]
  by_cases hc : L - xs.length < 0
  · simp only [hc, og_some', onr_ret, gval_true, gval_false, pickV_true, pickV_false, apick_true, apick_false, gpick_true, gpick_false, ibin_leq, ibin_geq, ibin_lss, ibin_gtr, ibin_eql, ibin_neq, sbin_eql, sbin_neq, aun_not, Bool.not_true, Bool.not_false, decide_true, decide_false, if_true, if_false, Bool.false_eq_true, fldA_ptr, fldA_rop, anil_ptr, lenStr_str, amm_max, amm_min, Nat.zero_add, Nat.add_zero, List.length_cons, List.length_nil, Nat.reduceAdd]
    exact ret_here (h (-1) (by omega) (by omega) (by omega) (by omega))
  · simp only [hc, og_some', onr_ret, gval_true, gval_false, pickV_true, pickV_false, apick_true, apick_false, gpick_true, gpick_false, ibin_leq, ibin_geq, ibin_lss, ibin_gtr, ibin_eql, ibin_neq, sbin_eql, sbin_neq, aun_not, Bool.not_true, Bool.not_false, decide_true, decide_false, if_true, if_false, Bool.false_eq_true, fldA_ptr, fldA_rop, anil_ptr, lenStr_str, amm_max, amm_min, Nat.zero_add, Nat.add_zero, List.length_cons, List.length_nil, Nat.reduceAdd]
    exact ret_here (h _ (by omega) (by omega) (by omega) (by omega))
theorem c_laws_szSegPart {q : AV} {xs : List Int} {L : Int} (hS : Ns σ q xs) (h0 : 0 ≤ L) (h1 : L ≤ 1048576) (hl : xs.length ≤ maxLen)
    (h : ∀ r : Int, -1 ≤ r → r ≤ L → (0 ≤ r → r + xs.length = L) → (r < 0 → L < xs.length) → R (.ret (iv r)) σ) : acall TP fn_laws_szSegPart [.agg [q], iv L] σ R := by
  refine s_laws_szSegPart_ok ?_
  unfold s_laws_szSegPart
  simp only [abox_agg, og_some', onr_ret, gval_true, gval_false, pickV_true, pickV_false, apick_true, apick_false, gpick_true, gpick_false, ibin_leq, ibin_geq, ibin_lss, ibin_gtr, ibin_eql, ibin_neq, sbin_eql, sbin_neq, aun_not, Bool.not_true, Bool.not_false, decide_true, decide_false, if_true, if_false, Bool.false_eq_true, fldA_ptr, fldA_rop, anil_ptr, lenStr_str, amm_max, amm_min, Nat.zero_add, Nat.add_zero, List.length_cons, List.length_nil, Nat.reduceAdd]
  intro φ hφ
  have hs : AH.Sub σ (σ.set φ ⟨0, 1, [[q]]⟩) := sub_set (.refl σ) hφ
  have e := lod_at (σ := σ.set φ ⟨0, 1, [[q]]⟩) (φ := φ) (st := 0) (i := 0) (off := 0) (c := q) (AH.set_same ..) rfl rfl
  simp only [e, og_some', onr_ret, gval_true, gval_false, pickV_true, pickV_false, apick_true, apick_false, gpick_true, gpick_false, ibin_leq, ibin_geq, ibin_lss, ibin_gtr, ibin_eql, ibin_neq, sbin_eql, sbin_neq, aun_not, Bool.not_true, Bool.not_false, decide_true, decide_false, if_true, if_false, Bool.false_eq_true, fldA_ptr, fldA_rop, anil_ptr, lenStr_str, amm_max, amm_min, Nat.zero_add, Nat.add_zero, List.length_cons, List.length_nil, Nat.reduceAdd]
  refine c_laws_szInt64S (hS.sub hs) h0 h1 hl fun r r0 r1 r2 r3 => ?_
  simp only [og_some', onr_ret, gval_true, gval_false, pickV_true, pickV_false, apick_true, apick_false, gpick_true, gpick_false, ibin_leq, ibin_geq, ibin_lss, ibin_gtr, ibin_eql, ibin_neq, sbin_eql, sbin_neq, aun_not, Bool.not_true, Bool.not_false, decide_true, decide_false, if_true, if_false, Bool.false_eq_true, fldA_ptr, fldA_rop, anil_ptr, lenStr_str, amm_max, amm_min, Nat.zero_add, Nat.add_zero, List.length_cons, List.length_nil, Nat.reduceAdd]
  by_cases hc : r < 0
  · simp only [hc, og_some', onr_ret, gval_true, gval_false, pickV_true, pickV_false, apick_true, apick_false, gpick_true, gpick_false, ibin_leq, ibin_geq, ibin_lss, ibin_gtr, ibin_eql, ibin_neq, sbin_eql, sbin_neq, aun_not, Bool.not_true, Bool.not_false, decide_true, decide_false, if_true, if_false, Bool.false_eq_true, fldA_ptr, fldA_rop, anil_ptr, lenStr_str, amm_max, amm_min, Nat.zero_add, Nat.add_zero, List.length_cons, List.length_nil, Nat.reduceAdd]
    exact aret_sub hs (h (-1) (by omega) (by omega) (by omega) (fun _ => r3 hc))
  · simp only [hc, og_some', onr_ret, gval_true, gval_false, pickV_true, pickV_false, apick_true, apick_false, gpick_true, gpick_false, ibin_leq, ibin_geq, ibin_lss, ibin_gtr, ibin_eql, ibin_neq, sbin_eql, sbin_neq, aun_not, Bool.not_true, Bool.not_false, decide_true, decide_false, if_true, if_false, Bool.false_eq_true, fldA_ptr, fldA_rop, anil_ptr, lenStr_str, amm_max, amm_min, Nat.zero_add, Nat.add_zero, List.length_cons, List.length_nil, Nat.reduceAdd]
    exact aret_sub hs (h _ r0 r1 r2 r3)
theorem c_laws_szSegPartS {a : AV} {ps : List (List Int)} {L : Int} (hS : Ps σ a ps) (h0 : 0 ≤ L) (h1 : L ≤ 1048576) (hl : ps.length ≤ maxLen) (hm : ∀ p, p ∈ ps → p.length ≤ maxLen)
    (h : ∀ r : Int, -1 ≤ r → r ≤ L → (0 ≤ r → r + ps.length + tot ps = L) → R (.ret (iv r)) σ) : acall TP fn_laws_szSegPartS [a, iv L] σ R := by
  have hM : maxLen = 9223372036854775807 := by decide
  refine s_laws_szSegPartS_ok ?_
  unfold s_laws_szSegPartS
  simp only [hS.len, ibin_sub (a := L) (b := ps.length) (by omega) (by omega), og_some', onr_ret, gval_true, gval_false, pickV_true, pickV_false, apick_true, apick_false, gpick_true, gpick_false, ibin_leq, ibin_geq, ibin_lss, ibin_gtr, ibin_eql, ibin_neq, sbin_eql, sbin_neq, aun_not, Bool.not_true, Bool.not_false, decide_true, decide_false, if_true, if_false, Bool.false_eq_true, fldA_ptr, fldA_rop, anil_ptr, lenStr_str, amm_max, amm_min, Nat.zero_add, Nat.add_zero, List.length_cons, List.length_nil, Nat.reduceAdd]
  by_cases hc : L - ps.length < 0
  · simp only [hc, og_some', onr_ret, gval_true, gval_false, pickV_true, pickV_false, apick_true, apick_false, gpick_true, gpick_false, ibin_leq, ibin_geq, ibin_lss, ibin_gtr, ibin_eql, ibin_neq, sbin_eql, sbin_neq, aun_not, Bool.not_true, Bool.not_false, decide_true, decide_false, if_true, if_false, Bool.false_eq_true, fldA_ptr, fldA_rop, anil_ptr, lenStr_str, amm_max, amm_min, Nat.zero_add, Nat.add_zero, List.length_cons, List.length_nil, Nat.reduceAdd]
    exact ret_here (h (-1) (by omega) (by omega) (by omega))
  simp only [hc, og_some', onr_ret, gval_true, gval_false, pickV_true, pickV_false, apick_true, apick_false, gpick_true, gpick_false, ibin_leq, ibin_geq, ibin_lss, ibin_gtr, ibin_eql, ibin_neq, sbin_eql, sbin_neq, aun_not, Bool.not_true, Bool.not_false, decide_true, decide_false, if_true, if_false, Bool.false_eq_true, fldA_ptr, fldA_rop, anil_ptr, lenStr_str, amm_max, amm_min, Nat.zero_add, Nat.add_zero, List.length_cons, List.length_nil, Nat.reduceAdd]
  refine lp_same ps.length (fun i => (a, iv (L - ps.length - tot (ps.take i)), iv i, ())) (fun i => (tot (ps.take i) : Int) ≤ L - ps.length) (by simp [tot, iv]; rfl) (by simp [tot]; omega) ?_
  intro i hi hle R' hR'
  simp only [hS.len, og_some', onr_ret, gval_true, gval_false, pickV_true, pickV_false, apick_true, apick_false, gpick_true, gpick_false, ibin_leq, ibin_geq, ibin_lss, ibin_gtr, ibin_eql, ibin_neq, sbin_eql, sbin_neq, aun_not, Bool.not_true, Bool.not_false, decide_true, decide_false, if_true, if_false, Bool.false_eq_true, fldA_ptr, fldA_rop, anil_ptr, lenStr_str, amm_max, amm_min, Nat.zero_add, Nat.add_zero, List.length_cons, List.length_nil, Nat.reduceAdd]
  by_cases hlt : i < ps.length
  · have : (i : Int) < ps.length := by omega
    obtain ⟨p, q, p', hp, hq, _, _, hN⟩ := hS.at hlt
    have hb := hm _ (List.getElem_mem hlt)
    have hT := tot_take ps hlt
    simp only [this, hp, hq, og_some', onr_ret, gval_true, gval_false, pickV_true, pickV_false, apick_true, apick_false, gpick_true, gpick_false, ibin_leq, ibin_geq, ibin_lss, ibin_gtr, ibin_eql, ibin_neq, sbin_eql, sbin_neq, aun_not, Bool.not_true, Bool.not_false, decide_true, decide_false, if_true, if_false, Bool.false_eq_true, fldA_ptr, fldA_rop, anil_ptr, lenStr_str, amm_max, amm_min, Nat.zero_add, Nat.add_zero, List.length_cons, List.length_nil, Nat.reduceAdd]
    refine c_laws_szSegPart hN (by omega) (by omega) hb fun r r0 r1 r2 _ => ?_
    simp only [og_some', onr_ret, gval_true, gval_false, pickV_true, pickV_false, apick_true, apick_false, gpick_true, gpick_false, ibin_leq, ibin_geq, ibin_lss, ibin_gtr, ibin_eql, ibin_neq, sbin_eql, sbin_neq, aun_not, Bool.not_true, Bool.not_false, decide_true, decide_false, if_true, if_false, Bool.false_eq_true, fldA_ptr, fldA_rop, anil_ptr, lenStr_str, amm_max, amm_min, Nat.zero_add, Nat.add_zero, List.length_cons, List.length_nil, Nat.reduceAdd]
    by_cases hc : r < 0
    · simp only [hc, og_some', onr_ret, gval_true, gval_false, pickV_true, pickV_false, apick_true, apick_false, gpick_true, gpick_false, ibin_leq, ibin_geq, ibin_lss, ibin_gtr, ibin_eql, ibin_neq, sbin_eql, sbin_neq, aun_not, Bool.not_true, Bool.not_false, decide_true, decide_false, if_true, if_false, Bool.false_eq_true, fldA_ptr, fldA_rop, anil_ptr, lenStr_str, amm_max, amm_min, Nat.zero_add, Nat.add_zero, List.length_cons, List.length_nil, Nat.reduceAdd]
      exact ret_here (h (-1) (by omega) (by omega) (by omega))
    · simp only [hc, ibin_up hlt (by omega), og_some', onr_ret, gval_true, gval_false, pickV_true, pickV_false, apick_true, apick_false, gpick_true, gpick_false, ibin_leq, ibin_geq, ibin_lss, ibin_gtr, ibin_eql, ibin_neq, sbin_eql, sbin_neq, aun_not, Bool.not_true, Bool.not_false, decide_true, decide_false, if_true, if_false, Bool.false_eq_true, fldA_ptr, fldA_rop, anil_ptr, lenStr_str, amm_max, amm_min, Nat.zero_add, Nat.add_zero, List.length_cons, List.length_nil, Nat.reduceAdd]
      have e : r = L - ps.length - tot (ps.take (i + 1)) := by have := r2 (by omega); omega
      rw [e]
      exact hR' hlt (by omega) _ (.refl _)
  · have : ¬ (i : Int) < ps.length := by omega
    obtain rfl : i = ps.length := by omega
    rw [List.take_length] at hle ⊢
    simp only [this, og_some', onr_ret, gval_true, gval_false, pickV_true, pickV_false, apick_true, apick_false, gpick_true, gpick_false, ibin_leq, ibin_geq, ibin_lss, ibin_gtr, ibin_eql, ibin_neq, sbin_eql, sbin_neq, aun_not, Bool.not_true, Bool.not_false, decide_true, decide_false, if_true, if_false, Bool.false_eq_true, fldA_ptr, fldA_rop, anil_ptr, lenStr_str, amm_max, amm_min, Nat.zero_add, Nat.add_zero, List.length_cons, List.length_nil, Nat.reduceAdd]
    exact ret_here (h _ (by omega) (by omega) (by omega))
abbrev Sg (σ : AH) (v : AV) (size : Int) (ps : List (List Int)) : Prop := ∃ p, v = .agg [iv size, p] ∧ Ps σ p ps
abbrev roG (size : Int) (ps : List (List Int)) : AV := .agg [iv size, roP ps]
theorem c_laws_szSegs {p : AV} {size : Int} {ps : List (List Int)} {L : Int} (hS : Ps σ p ps) (h0 : 0 ≤ L) (h1 : L ≤ 1048576) (hl : ps.length ≤ maxLen) (hm : ∀ p, p ∈ ps → p.length ≤ maxLen)
    (h : ∀ r : Int, -1 ≤ r → r ≤ L → (0 ≤ r → r + ps.length + tot ps = L) → R (.ret (iv r)) σ) : acall TP fn_laws_szSegs [.agg [iv size, p], iv L] σ R := by
  refine s_laws_szSegs_ok ?_
  unfold s_laws_szSegs
  simp only [abox_agg, og_some', onr_ret, gval_true, gval_false, pickV_true, pickV_false, apick_true, apick_false, gpick_true, gpick_false, ibin_leq, ibin_geq, ibin_lss, ibin_gtr, ibin_eql, ibin_neq, sbin_eql, sbin_neq, aun_not, Bool.not_true, Bool.not_false, decide_true, decide_false, if_true, if_false, Bool.false_eq_true, fldA_ptr, fldA_rop, anil_ptr, lenStr_str, amm_max, amm_min, Nat.zero_add, Nat.add_zero, List.length_cons, List.length_nil, Nat.reduceAdd]
  intro φ hφ
  have hs : AH.Sub σ (σ.set φ ⟨0, 2, [[iv size, p]]⟩) := sub_set (.refl σ) hφ
  have e := lod_at (σ := σ.set φ ⟨0, 2, [[iv size, p]]⟩) (φ := φ) (st := 0) (i := 0) (off := 1) (c := p) (AH.set_same ..) rfl rfl
  simp only [e, og_some', onr_ret, gval_true, gval_false, pickV_true, pickV_false, apick_true, apick_false, gpick_true, gpick_false, ibin_leq, ibin_geq, ibin_lss, ibin_gtr, ibin_eql, ibin_neq, sbin_eql, sbin_neq, aun_not, Bool.not_true, Bool.not_false, decide_true, decide_false, if_true, if_false, Bool.false_eq_true, fldA_ptr, fldA_rop, anil_ptr, lenStr_str, amm_max, amm_min, Nat.zero_add, Nat.add_zero, List.length_cons, List.length_nil, Nat.reduceAdd]
  refine c_laws_szSegPartS (hS.sub hs) h0 h1 hl hm fun r r0 r1 r2 => ?_
  simp only [og_some', onr_ret, gval_true, gval_false, pickV_true, pickV_false, apick_true, apick_false, gpick_true, gpick_false, ibin_leq, ibin_geq, ibin_lss, ibin_gtr, ibin_eql, ibin_neq, sbin_eql, sbin_neq, aun_not, Bool.not_true, Bool.not_false, decide_true, decide_false, if_true, if_false, Bool.false_eq_true, fldA_ptr, fldA_rop, anil_ptr, lenStr_str, amm_max, amm_min, Nat.zero_add, Nat.add_zero, List.length_cons, List.length_nil, Nat.reduceAdd]
  by_cases hc : r < 0
  · simp only [hc, og_some', onr_ret, gval_true, gval_false, pickV_true, pickV_false, apick_true, apick_false, gpick_true, gpick_false, ibin_leq, ibin_geq, ibin_lss, ibin_gtr, ibin_eql, ibin_neq, sbin_eql, sbin_neq, aun_not, Bool.not_true, Bool.not_false, decide_true, decide_false, if_true, if_false, Bool.false_eq_true, fldA_ptr, fldA_rop, anil_ptr, lenStr_str, amm_max, amm_min, Nat.zero_add, Nat.add_zero, List.length_cons, List.length_nil, Nat.reduceAdd]
    exact aret_sub hs (h (-1) (by omega) (by omega) (by omega))
  · simp only [hc, og_some', onr_ret, gval_true, gval_false, pickV_true, pickV_false, apick_true, apick_false, gpick_true, gpick_false, ibin_leq, ibin_geq, ibin_lss, ibin_gtr, ibin_eql, ibin_neq, sbin_eql, sbin_neq, aun_not, Bool.not_true, Bool.not_false, decide_true, decide_false, if_true, if_false, Bool.false_eq_true, fldA_ptr, fldA_rop, anil_ptr, lenStr_str, amm_max, amm_min, Nat.zero_add, Nat.add_zero, List.length_cons, List.length_nil, Nat.reduceAdd]
    exact aret_sub hs (h _ r0 r1 r2)

/-! ### copied -/
set_option maxRecDepth 100000 in
theorem c_laws_toInt64S {a : AV} {xs : List Int} (hS : Ns σ a xs) (hl : xs.length ≤ 1099511627776)
    (h : ∀ φ, σ φ = none → R (.ret (.own φ 0 0 xs.length)) (σ.set φ ⟨0, 1, xs.map fun x => [iv x]⟩)) : acall TP fn_laws_toInt64S [a] σ R := by
  refine s_laws_toInt64S_ok ?_
  unfold s_laws_toInt64S
  simp only [hS.len, og_some']
  refine mk_Li (by omega) (by omega) (by omega) fun φ hφ => ?_
  simp only [Int.toNat_natCast]
  refine lp_for xs.length (fun i => (a, .own φ 0 0 xs.length, iv i, ())) (fun i σ' => σ' = σ.set φ ⟨0, 1, (xs.map fun x => [iv x]).take i ++ List.replicate (xs.length - i) [iv 0]⟩) rfl (by simp) ?_
  rintro i _ hi rfl R' hR'
  have hs : AH.Sub σ (σ.set φ ⟨0, 1, (xs.map fun x => [iv x]).take i ++ List.replicate (xs.length - i) [iv 0]⟩) := sub_set (.refl σ) hφ
  have hS' := hS.sub hs
  simp only [hS'.len, og_some', onr_ret, gval_true, gval_false, pickV_true, pickV_false, apick_true, apick_false, gpick_true, gpick_false, ibin_leq, ibin_geq, ibin_lss, ibin_gtr, ibin_eql, ibin_neq, sbin_eql, sbin_neq, aun_not, Bool.not_true, Bool.not_false, decide_true, decide_false, if_true, if_false, Bool.false_eq_true, fldA_ptr, fldA_rop, anil_ptr, lenStr_str, amm_max, amm_min, Nat.zero_add, Nat.add_zero, List.length_cons, List.length_nil, Nat.reduceAdd]
  have hml : (xs.map fun x => [iv x]).length = xs.length := by simp
  by_cases hlt : i < xs.length
  · have : (i : Int) < xs.length := by omega
    obtain ⟨p, hp, hq, _⟩ := hS'.at hlt
    simp only [this, hp, hq, idx_own (AH.set_same ..) hlt, og_some', onr_ret, gval_true, gval_false, pickV_true, pickV_false, apick_true, apick_false, gpick_true, gpick_false, ibin_leq, ibin_geq, ibin_lss, ibin_gtr, ibin_eql, ibin_neq, sbin_eql, sbin_neq, aun_not, Bool.not_true, Bool.not_false, decide_true, decide_false, if_true, if_false, Bool.false_eq_true, fldA_ptr, fldA_rop, anil_ptr, lenStr_str, amm_max, amm_min, Nat.zero_add, Nat.add_zero, List.length_cons, List.length_nil, Nat.reduceAdd]
    refine sto_own (cs := [iv xs[i]]) (AH.set_same ..) (by rw [len_rep hml hi]; exact hlt) (by rw [getD_rep hml hlt]; rfl) rfl rfl (by simp [AV.one, Value.oneCell']) ?_
    simp only [ibin_up hlt (by omega), AH.set_set, og_some', onr_ret, gval_true, gval_false, pickV_true, pickV_false, apick_true, apick_false, gpick_true, gpick_false, ibin_leq, ibin_geq, ibin_lss, ibin_gtr, ibin_eql, ibin_neq, sbin_eql, sbin_neq, aun_not, Bool.not_true, Bool.not_false, decide_true, decide_false, if_true, if_false, Bool.false_eq_true, fldA_ptr, fldA_rop, anil_ptr, lenStr_str, amm_max, amm_min, Nat.zero_add, Nat.add_zero, List.length_cons, List.length_nil, Nat.reduceAdd]
    have e := take_rep_set (z := [iv 0]) hml hlt
    simp only [List.getElem_map] at e
    rw [e]
    exact hR' hlt _ _ (.refl _) rfl
  · have : ¬ (i : Int) < xs.length := by omega
    obtain rfl : i = xs.length := by omega
    simp only [this, og_some', onr_ret, gval_true, gval_false, pickV_true, pickV_false, apick_true, apick_false, gpick_true, gpick_false, ibin_leq, ibin_geq, ibin_lss, ibin_gtr, ibin_eql, ibin_neq, sbin_eql, sbin_neq, aun_not, Bool.not_true, Bool.not_false, decide_true, decide_false, if_true, if_false, Bool.false_eq_true, fldA_ptr, fldA_rop, anil_ptr, lenStr_str, amm_max, amm_min, Nat.zero_add, Nat.add_zero, List.length_cons, List.length_nil, Nat.reduceAdd]
    have e : (xs.map fun x => [iv x]).take xs.length ++ List.replicate (xs.length - xs.length) [iv 0] = xs.map fun x => [iv x] := by
      rw [Nat.sub_self, List.replicate_zero, List.append_nil]; exact List.take_of_length_le (by simp)
    rw [e]
    exact ret_here (h φ hφ)
theorem c_laws_toSegPart {q : AV} {xs : List Int} (hS : Ns σ q xs) (hl : xs.length ≤ 1099511627776)
    (h : ∀ φ σ', σ φ = none → AH.Sub σ σ' → σ' φ = some ⟨0, 1, xs.map fun x => [iv x]⟩ → R (.ret (.agg [.own φ 0 0 xs.length])) σ') : acall TP fn_laws_toSegPart [.agg [q]] σ R := by
  refine s_laws_toSegPart_ok ?_
  unfold s_laws_toSegPart
  simp only [abox_agg, new_eq, og_some', onr_ret, gval_true, gval_false, pickV_true, pickV_false, apick_true, apick_false, gpick_true, gpick_false, ibin_leq, ibin_geq, ibin_lss, ibin_gtr, ibin_eql, ibin_neq, sbin_eql, sbin_neq, aun_not, Bool.not_true, Bool.not_false, decide_true, decide_false, if_true, if_false, Bool.false_eq_true, fldA_ptr, fldA_rop, anil_ptr, lenStr_str, amm_max, amm_min, Nat.zero_add, Nat.add_zero, List.length_cons, List.length_nil, Nat.reduceAdd]
  intro φ1 h1 φ2 h2 φ3 h3
  simp only [AH.set_none] at h2 h3
  obtain ⟨n21, h2⟩ := h2
  obtain ⟨n32, n31, h3⟩ := h3
  have e : lod (.ptr φ1 0 0 0) (((σ.set φ1 ⟨0, 1, [[q]]⟩).set φ2 ⟨0, 1, [[nilS]]⟩).set φ3 ⟨0, 1, [[nilS]]⟩) = some q := by
    refine lod_at (F := ⟨0, 1, [[q]]⟩) ?_ rfl rfl
    rw [AH.set_ne' (Ne.symm n31), AH.set_ne' (Ne.symm n21), AH.set_same]
  simp only [e, og_some', onr_ret, gval_true, gval_false, pickV_true, pickV_false, apick_true, apick_false, gpick_true, gpick_false, ibin_leq, ibin_geq, ibin_lss, ibin_gtr, ibin_eql, ibin_neq, sbin_eql, sbin_neq, aun_not, Bool.not_true, Bool.not_false, decide_true, decide_false, if_true, if_false, Bool.false_eq_true, fldA_ptr, fldA_rop, anil_ptr, lenStr_str, amm_max, amm_min, Nat.zero_add, Nat.add_zero, List.length_cons, List.length_nil, Nat.reduceAdd]
  have hs : AH.Sub σ (((σ.set φ1 ⟨0, 1, [[q]]⟩).set φ2 ⟨0, 1, [[nilS]]⟩).set φ3 ⟨0, 1, [[nilS]]⟩) := sub_set (sub_set (sub_set (.refl σ) h1) h2) h3
  refine c_laws_toInt64S (hS.sub hs) hl fun φ hφ => ?_
  simp only [AH.set_none] at hφ
  obtain ⟨m3, m2, m1, m0⟩ := hφ
  simp only [og_some', onr_ret, gval_true, gval_false, pickV_true, pickV_false, apick_true, apick_false, gpick_true, gpick_false, ibin_leq, ibin_geq, ibin_lss, ibin_gtr, ibin_eql, ibin_neq, sbin_eql, sbin_neq, aun_not, Bool.not_true, Bool.not_false, decide_true, decide_false, if_true, if_false, Bool.false_eq_true, fldA_ptr, fldA_rop, anil_ptr, lenStr_str, amm_max, amm_min, Nat.zero_add, Nat.add_zero, List.length_cons, List.length_nil, Nat.reduceAdd]
  refine sto_own (es := [[nilS]]) (by rw [AH.set_ne' (Ne.symm m3), AH.set_same]) (by simp) (by simp) (cs := [.own φ 0 0 xs.length]) rfl rfl (by simp [AV.one]) ?_
  have e2 := lodA_at (σ := ((((σ.set φ1 ⟨0, 1, [[q]]⟩).set φ2 ⟨0, 1, [[nilS]]⟩).set φ3 ⟨0, 1, [[nilS]]⟩).set φ ⟨0, 1, xs.map fun x => [iv x]⟩).set φ3 ⟨0, 1, [[.own φ 0 0 xs.length]]⟩) (φ := φ3) (st := 0) (i := 0) (n := 1) (cs := [.own φ 0 0 xs.length]) (AH.set_same ..) rfl rfl rfl
  simp only [List.set_cons_zero, e2, og_some', onr_ret, gval_true, gval_false, pickV_true, pickV_false, apick_true, apick_false, gpick_true, gpick_false, ibin_leq, ibin_geq, ibin_lss, ibin_gtr, ibin_eql, ibin_neq, sbin_eql, sbin_neq, aun_not, Bool.not_true, Bool.not_false, decide_true, decide_false, if_true, if_false, Bool.false_eq_true, fldA_ptr, fldA_rop, anil_ptr, lenStr_str, amm_max, amm_min, Nat.zero_add, Nat.add_zero, List.length_cons, List.length_nil, Nat.reduceAdd]
  refine sto_own (es := [[nilS]]) (by rw [AH.set_ne' (Ne.symm n32), AH.set_ne' (Ne.symm m2), AH.set_ne' (Ne.symm n32), AH.set_same]) (by simp) (by simp) (cs := [.own φ 0 0 xs.length]) rfl rfl (by simp [AV.one]) ?_
  simp [lodA, acellsAt]
  refine ret_here (h φ _ m0 ?_ ?_)
  · exact sub_set (sub_set (sub_set (sub_set (sub_set (sub_set (.refl σ) h1) h2) h3) m0) h3) h2
  · rw [AH.set_ne' m2, AH.set_ne' m3, AH.set_same]
set_option maxRecDepth 100000 in
theorem c_laws_toSegPartS {a : AV} {ps : List (List Int)} (hS : Ps σ a ps) (hl : ps.length ≤ 1099511627776) (hm : ∀ p, p ∈ ps → p.length ≤ 1099511627776)
    (h : ∀ v σ' qs, AH.Sub σ σ' → qs.map Prod.snd = ps → PB (dif σ σ') v qs → R (.ret v) σ') : acall TP fn_laws_toSegPartS [a] σ R := by
  refine s_laws_toSegPartS_ok ?_
  unfold s_laws_toSegPartS
  simp only [hS.len, og_some']
  refine mk_LRLiE (by omega) (by omega) (by omega) fun φ hφ => ?_
  simp only [Int.toNat_natCast]
  refine lp_for ps.length (fun i => (a, .own φ 0 0 ps.length, iv i, ()))
    (fun i σ' => ∃ qs : List (AV × List Int), qs.map Prod.snd = ps.take i ∧ σ' φ = some ⟨0, 1, qs.map (fun q => [q.1]) ++ List.replicate (ps.length - i) [nilS]⟩ ∧ AH.Sub σ σ' ∧ (∀ q, q ∈ qs → Buf (dif (σ.set φ ⟨0, 0, []⟩) σ') 1 q.1 (q.2.map fun x => [iv x])) ∧ qs.Pairwise fun q r => ∀ ψ, Buf.fam q.1 ψ → ¬ Buf.fam r.1 ψ) rfl
    ⟨[], by simp, by simp, sub_set (.refl σ) hφ, (fun q hq => by cases hq), .nil⟩ ?_
  rintro i σi hi ⟨qs, hq1, hq2, hq3, hq4, hq5⟩ R' hR'
  have hS' := hS.sub hq3
  have hql : qs.length = i := by have := congrArg List.length hq1; simp at this; omega
  simp only [hS'.len, og_some', onr_ret, gval_true, gval_false, pickV_true, pickV_false, apick_true, apick_false, gpick_true, gpick_false, ibin_leq, ibin_geq, ibin_lss, ibin_gtr, ibin_eql, ibin_neq, sbin_eql, sbin_neq, aun_not, Bool.not_true, Bool.not_false, decide_true, decide_false, if_true, if_false, Bool.false_eq_true, fldA_ptr, fldA_rop, anil_ptr, lenStr_str, amm_max, amm_min, Nat.zero_add, Nat.add_zero, List.length_cons, List.length_nil, Nat.reduceAdd]
  by_cases hlt : i < ps.length
  · have : (i : Int) < ps.length := by omega
    obtain ⟨p, q, p', hp, hq, _, _, hN⟩ := hS'.at hlt
    simp only [this, hp, hq, og_some', onr_ret, gval_true, gval_false, pickV_true, pickV_false, apick_true, apick_false, gpick_true, gpick_false, ibin_leq, ibin_geq, ibin_lss, ibin_gtr, ibin_eql, ibin_neq, sbin_eql, sbin_neq, aun_not, Bool.not_true, Bool.not_false, decide_true, decide_false, if_true, if_false, Bool.false_eq_true, fldA_ptr, fldA_rop, anil_ptr, lenStr_str, amm_max, amm_min, Nat.zero_add, Nat.add_zero, List.length_cons, List.length_nil, Nat.reduceAdd]
    refine c_laws_toSegPart hN (hm _ (List.getElem_mem hlt)) fun ψ σ2 k1 k2 k3 => ?_
    have hne : ψ ≠ φ := by rintro rfl; rw [hq2] at k1; cases k1
    have hφ2 := k2.at hq2
    simp only [idx_own hφ2 hlt, og_some', onr_ret, gval_true, gval_false, pickV_true, pickV_false, apick_true, apick_false, gpick_true, gpick_false, ibin_leq, ibin_geq, ibin_lss, ibin_gtr, ibin_eql, ibin_neq, sbin_eql, sbin_neq, aun_not, Bool.not_true, Bool.not_false, decide_true, decide_false, if_true, if_false, Bool.false_eq_true, fldA_ptr, fldA_rop, anil_ptr, lenStr_str, amm_max, amm_min, Nat.zero_add, Nat.add_zero, List.length_cons, List.length_nil, Nat.reduceAdd]
    refine sto_own (cs := [.own ψ 0 0 ps[i].length]) hφ2 (by simp; omega) (by rw [getD_end (by simpa using hql) (by omega)]; rfl) rfl rfl (by simp [AV.one]) ?_
    simp only [ibin_up hlt (by omega), og_some', onr_ret, gval_true, gval_false, pickV_true, pickV_false, apick_true, apick_false, gpick_true, gpick_false, ibin_leq, ibin_geq, ibin_lss, ibin_gtr, ibin_eql, ibin_neq, sbin_eql, sbin_neq, aun_not, Bool.not_true, Bool.not_false, decide_true, decide_false, if_true, if_false, Bool.false_eq_true, fldA_ptr, fldA_rop, anil_ptr, lenStr_str, amm_max, amm_min, Nat.zero_add, Nat.add_zero, List.length_cons, List.length_nil, Nat.reduceAdd]
    refine hR' hlt _ _ (.refl _) ⟨qs ++ [(.own ψ 0 0 ps[i].length, ps[i])], ?_, ?_, ?_, ?_, ?_⟩
    · rw [List.map_append, hq1, List.take_succ_eq_append_getElem hlt]; rfl
    · rw [AH.set_same]
      rw [set_end (by simpa using hql) (by omega), List.map_append, List.append_assoc]
      rfl
    · exact sub_set (hq3.trans k2) hφ
    · intro x hx
      rw [dif_set (AH.set_same ..)]
      rcases List.mem_append.1 hx with hx | hx
      · exact (hq4 x hx).sub (dif_mono (.refl _) k2)
      · obtain rfl := List.mem_singleton.1 hx
        refine .inr ⟨ψ, 0, by simp, ?_⟩
        rw [dif_at (by rw [AH.set_ne' hne]; exact hq3.none k1)]
        exact k3
    · rw [List.pairwise_append]
      refine ⟨hq5, List.pairwise_singleton _ _, ?_⟩
      intro x hx y hy χ f1 f2
      obtain rfl := List.mem_singleton.1 hy
      obtain ⟨_, _, _, e⟩ := f2
      cases e
      obtain ⟨F, hF⟩ := (hq4 x hx).fam_some f1
      have := (dif_some hF).2
      rw [k1] at this; cases this
  · have : ¬ (i : Int) < ps.length := by omega
    obtain rfl : i = ps.length := by omega
    simp only [this, og_some', onr_ret, gval_true, gval_false, pickV_true, pickV_false, apick_true, apick_false, gpick_true, gpick_false, ibin_leq, ibin_geq, ibin_lss, ibin_gtr, ibin_eql, ibin_neq, sbin_eql, sbin_neq, aun_not, Bool.not_true, Bool.not_false, decide_true, decide_false, if_true, if_false, Bool.false_eq_true, fldA_ptr, fldA_rop, anil_ptr, lenStr_str, amm_max, amm_min, Nat.zero_add, Nat.add_zero, List.length_cons, List.length_nil, Nat.reduceAdd]
    have hsub : AH.Sub (dif (σ.set φ ⟨0, 0, []⟩) σi) (dif σ σi) := dif_mono (sub_set (.refl σ) hφ) (.refl _)
    refine ret_here (h _ _ qs hq3 (by simpa using hq1) ⟨?_, fun q hq => (hq4 q hq).sub hsub, ?_, hq5⟩)
    · refine .inr ⟨φ, 0, by simp [hql], ?_⟩
      rw [dif_at hφ, hq2]; simp
    · intro q hq ψ f1 f2
      obtain ⟨_, _, _, e⟩ := f2
      cases e
      obtain ⟨F, hF⟩ := (hq4 q hq).fam_some f1
      have := (dif_some hF).1
      simp at this
theorem c_laws_toSegs {p : AV} {size : Int} {ps : List (List Int)} (hS : Ps σ p ps) (hl : ps.length ≤ 1099511627776) (hm : ∀ p, p ∈ ps → p.length ≤ 1099511627776)
    (h : ∀ v σ' qs, AH.Sub σ σ' → qs.map Prod.snd = ps → PB (dif σ σ') v qs → R (.ret (.agg [iv size, v])) σ') : acall TP fn_laws_toSegs [.agg [iv size, p]] σ R := by
  refine s_laws_toSegs_ok ?_
  unfold s_laws_toSegs
  simp only [abox_agg, new_eq, og_some', onr_ret, gval_true, gval_false, pickV_true, pickV_false, apick_true, apick_false, gpick_true, gpick_false, ibin_leq, ibin_geq, ibin_lss, ibin_gtr, ibin_eql, ibin_neq, sbin_eql, sbin_neq, aun_not, Bool.not_true, Bool.not_false, decide_true, decide_false, if_true, if_false, Bool.false_eq_true, fldA_ptr, fldA_rop, anil_ptr, lenStr_str, amm_max, amm_min, Nat.zero_add, Nat.add_zero, List.length_cons, List.length_nil, Nat.reduceAdd]
  intro φ1 h1 φ2 h2 φ3 h3
  simp only [AH.set_none] at h2 h3
  obtain ⟨n21, h2⟩ := h2
  obtain ⟨n32, n31, h3⟩ := h3
  have g1 : ((((σ.set φ1 ⟨0, 2, [[iv size, p]]⟩).set φ2 ⟨0, 2, [[iv 0, nilS]]⟩).set φ3 ⟨0, 2, [[iv 0, nilS]]⟩)) φ1 = some ⟨0, 2, [[iv size, p]]⟩ := by
    rw [AH.set_ne' (Ne.symm n31), AH.set_ne' (Ne.symm n21), AH.set_same]
  simp only [lod_at (st := 0) (i := 0) (off := 0) (c := iv size) g1 rfl rfl, og_some', onr_ret, gval_true, gval_false, pickV_true, pickV_false, apick_true, apick_false, gpick_true, gpick_false, ibin_leq, ibin_geq, ibin_lss, ibin_gtr, ibin_eql, ibin_neq, sbin_eql, sbin_neq, aun_not, Bool.not_true, Bool.not_false, decide_true, decide_false, if_true, if_false, Bool.false_eq_true, fldA_ptr, fldA_rop, anil_ptr, lenStr_str, amm_max, amm_min, Nat.zero_add, Nat.add_zero, List.length_cons, List.length_nil, Nat.reduceAdd]
  refine sto_fld (sz := 2) (off := 0) (i := 0) (cs := [iv 0, nilS]) (AH.set_same ..) rfl (by omega) rfl rfl ?_
  simp only [List.set_cons_zero, AH.set_set, og_some', onr_ret, gval_true, gval_false, pickV_true, pickV_false, apick_true, apick_false, gpick_true, gpick_false, ibin_leq, ibin_geq, ibin_lss, ibin_gtr, ibin_eql, ibin_neq, sbin_eql, sbin_neq, aun_not, Bool.not_true, Bool.not_false, decide_true, decide_false, if_true, if_false, Bool.false_eq_true, fldA_ptr, fldA_rop, anil_ptr, lenStr_str, amm_max, amm_min, Nat.zero_add, Nat.add_zero, List.length_cons, List.length_nil, Nat.reduceAdd]
  have hs : AH.Sub σ (((σ.set φ1 ⟨0, 2, [[iv size, p]]⟩).set φ2 ⟨0, 2, [[iv 0, nilS]]⟩).set φ3 ⟨0, 2, [[iv size, nilS]]⟩) := sub_set (sub_set (sub_set (.refl σ) h1) h2) h3
  have g2 : ((((σ.set φ1 ⟨0, 2, [[iv size, p]]⟩).set φ2 ⟨0, 2, [[iv 0, nilS]]⟩).set φ3 ⟨0, 2, [[iv size, nilS]]⟩)) φ1 = some ⟨0, 2, [[iv size, p]]⟩ := by
    rw [AH.set_ne' (Ne.symm n31), AH.set_ne' (Ne.symm n21), AH.set_same]
  have g3 : ((((σ.set φ1 ⟨0, 2, [[iv size, p]]⟩).set φ2 ⟨0, 2, [[iv 0, nilS]]⟩).set φ3 ⟨0, 2, [[iv size, nilS]]⟩)) φ2 = some ⟨0, 2, [[iv 0, nilS]]⟩ := by
    rw [AH.set_ne' (Ne.symm n32), AH.set_same]
  simp only [lod_at (st := 0) (i := 0) (off := 1) (c := p) g2 rfl rfl, og_some', onr_ret, gval_true, gval_false, pickV_true, pickV_false, apick_true, apick_false, gpick_true, gpick_false, ibin_leq, ibin_geq, ibin_lss, ibin_gtr, ibin_eql, ibin_neq, sbin_eql, sbin_neq, aun_not, Bool.not_true, Bool.not_false, decide_true, decide_false, if_true, if_false, Bool.false_eq_true, fldA_ptr, fldA_rop, anil_ptr, lenStr_str, amm_max, amm_min, Nat.zero_add, Nat.add_zero, List.length_cons, List.length_nil, Nat.reduceAdd]
  refine c_laws_toSegPartS (hS.sub hs) hl hm fun v σ' qs k1 kq k2 => ?_
  have m3 : σ' φ3 = some ⟨0, 2, [[iv size, nilS]]⟩ := k1.at (AH.set_same ..)
  have m2 := k1.at g3
  have hone : acells v = some [v] ∧ v.one = true := by
    exact (Buf.cs k2.out).one
  simp only [og_some', onr_ret, gval_true, gval_false, pickV_true, pickV_false, apick_true, apick_false, gpick_true, gpick_false, ibin_leq, ibin_geq, ibin_lss, ibin_gtr, ibin_eql, ibin_neq, sbin_eql, sbin_neq, aun_not, Bool.not_true, Bool.not_false, decide_true, decide_false, if_true, if_false, Bool.false_eq_true, fldA_ptr, fldA_rop, anil_ptr, lenStr_str, amm_max, amm_min, Nat.zero_add, Nat.add_zero, List.length_cons, List.length_nil, Nat.reduceAdd]
  refine sto_fld (sz := 2) (off := 1) (i := 0) (cs := [iv size, nilS]) m3 rfl (by omega) hone.1 hone.2 ?_
  have m3' := lodA_at (σ := σ'.set φ3 ⟨0, 2, [[iv size, nilS].set 1 v]⟩) (φ := φ3) (st := 0) (i := 0) (n := 2) (cs := [iv size, v]) (AH.set_same ..) rfl rfl rfl
  simp only [List.set_cons_zero, m3', og_some', onr_ret, gval_true, gval_false, pickV_true, pickV_false, apick_true, apick_false, gpick_true, gpick_false, ibin_leq, ibin_geq, ibin_lss, ibin_gtr, ibin_eql, ibin_neq, sbin_eql, sbin_neq, aun_not, Bool.not_true, Bool.not_false, decide_true, decide_false, if_true, if_false, Bool.false_eq_true, fldA_ptr, fldA_rop, anil_ptr, lenStr_str, amm_max, amm_min, Nat.zero_add, Nat.add_zero, List.length_cons, List.length_nil, Nat.reduceAdd]
  refine sto_own (es := [[iv 0, nilS]]) (cs := [iv size, v]) (by rw [AH.set_ne' (Ne.symm n32)]; exact m2) (by simp) (by simp) rfl rfl ?_ ?_
  · intro x hx
    simp at hx
    rcases hx with rfl | rfl
    · rfl
    · exact hone.2
  simp [lodA, acellsAt]
  refine ret_here (h v _ qs ?_ kq ?_)
  · exact sub_set (sub_set (hs.trans k1) h3) h2
  · refine k2.sub (dif_keep' hs ?_)
    intro ψ hψ _
    simp only [AH.set_none] at hψ
    rw [AH.set_ne' hψ.2.1, AH.set_ne' hψ.1]
end Go.Proofs.Ytjfdgijgkbojnaa.E
/- Stacks of pieces as arguments of rows. -/
set_option linter.unusedSectionVars false
set_option linter.unusedSimpArgs false
set_option linter.unusedVariables false
namespace Go.Proofs.Ytjfdgijgkbojnaa.E
open Go Go.RowKit
variable [Lam]
theorem one_of {c : List AV} {x : AV} (hl : c.length = 1) (h : (c.drop 0).take 1 = [x]) : c = [x] := by
  match c, hl with
  | [y], _ => simpa using h
theorem two_of {c : List AV} {x y : AV} (hl : c.length = 2) (h : (c.drop 0).take 1 = [x]) (k : (c.drop 1).take 1 = [y]) : c = [x, y] := by
  match c, hl with
  | [a, b], _ => simp at h k; rw [h, k]
theorem dec_part {P : Program} {m : Nat} {e u : TypeId} {g : Field} {c : List AV} (he : P.underlying e = some (.struct #[g])) (hc : P.cellsOf e = 1) (g0 : g.offset = 0) (gc : P.cellsOf g.type = 1) (hg : P.underlying g.type = some (.slice u))
    (hu : P.underlying u = some (.int .i64)) (h : Sh P (m + 3) e c) : ∃ p : List Int, c = [roN p] ∧ p.length ≤ maxLen := by
  obtain ⟨h1, h2⟩ := dec_struct he h
  have h3 := h2 g (by simp)
  rw [g0, gc] at h3
  obtain ⟨ns, k1, k2, _⟩ := dec_ints hg hu h3
  exact ⟨ns, one_of (by rw [h1, hc]) k1, k2⟩
theorem dec_segs {P : Program} {m : Nat} {t e u : TypeId} {f0 f1 g : Field} {cs : List AV} (ht : P.underlying t = some (.struct #[f0, f1])) (tc : P.cellsOf t = 2) (o0 : f0.offset = 0) (o1 : f1.offset = 1) (c0 : P.cellsOf f0.type = 1) (c1 : P.cellsOf f1.type = 1)
    (hf0 : P.underlying f0.type = some (.int .i64)) (hf1 : P.underlying f1.type = some (.slice e)) (he : P.underlying e = some (.struct #[g])) (hc : P.cellsOf e = 1) (g0 : g.offset = 0) (gc : P.cellsOf g.type = 1) (hg : P.underlying g.type = some (.slice u))
    (hu : P.underlying u = some (.int .i64)) (h : Sh P (m + 5) t cs) : ∃ (size : Int) (ps : List (List Int)), cs = [iv size, roP ps] ∧ (Lit.int .i64 size).wf = true ∧ ps.length ≤ maxLen ∧ ∀ p, p ∈ ps → p.length ≤ maxLen := by
  obtain ⟨h1, h2⟩ := dec_struct ht h
  have h3 := h2 f0 (by simp)
  have h4 := h2 f1 (by simp)
  rw [o0, c0] at h3
  rw [o1, c1] at h4
  obtain ⟨n, k1, k2⟩ := dec_int hf0 h3
  obtain ⟨es, k3, k4, k5⟩ := dec_slice hf1 h4
  obtain ⟨ps, rfl, k6⟩ := exists_map (f := fun p : List Int => [roN p]) (Q := fun p => p.length ≤ maxLen) es fun c hcm => dec_part he hc g0 gc hg hu (k5 c hcm)
  exact ⟨n, ps, two_of (by rw [h1, tc]) k1 k3, k2, by simpa using k4, k6⟩
end Go.Proofs.Ytjfdgijgkbojnaa.E
/- Stacks of pieces: compared, at fault, their depth. -/
set_option linter.unusedSectionVars false
set_option linter.unusedSimpArgs false
set_option linter.unusedVariables false
namespace Go.Proofs.Ytjfdgijgkbojnaa.E
open Go Go.RowKit
variable [Lam]
variable {σ : AH} {R : AEnd → AH → Prop}
theorem c_laws_eqInt64S {a b : AV} {ss ts : List Int} (hS : Ns σ a ss) (hT : Ns σ b ts) (hl : ss.length ≤ 1099511627776) (h : R (.ret (bv (decide (ss = ts)))) σ) : acall TP fn_laws_eqInt64S [a, b] σ R := by
  refine s_laws_eqInt64S_ok ?_
  unfold s_laws_eqInt64S
  simp only [hS.len, hT.len, og_some', onr_ret, gval_true, gval_false, pickV_true, pickV_false, apick_true, apick_false, gpick_true, gpick_false, ibin_leq, ibin_geq, ibin_lss, ibin_gtr, ibin_eql, ibin_neq, sbin_eql, sbin_neq, aun_not, Bool.not_true, Bool.not_false, decide_true, decide_false, if_true, if_false, Bool.false_eq_true, fldA_ptr, fldA_rop, anil_ptr, lenStr_str, amm_max, amm_min, Nat.zero_add, Nat.add_zero, List.length_cons, List.length_nil, Nat.reduceAdd]
  by_cases hc : ss.length = ts.length
  · have : ((ss.length : Int) = ts.length) := by omega
    simp only [this, og_some', onr_ret, gval_true, gval_false, pickV_true, pickV_false, apick_true, apick_false, gpick_true, gpick_false, ibin_leq, ibin_geq, ibin_lss, ibin_gtr, ibin_eql, ibin_neq, sbin_eql, sbin_neq, aun_not, Bool.not_true, Bool.not_false, decide_true, decide_false, if_true, if_false, Bool.false_eq_true, fldA_ptr, fldA_rop, anil_ptr, lenStr_str, amm_max, amm_min, Nat.zero_add, Nat.add_zero, List.length_cons, List.length_nil, Nat.reduceAdd]
    refine lp_same ss.length (fun i => (a, b, iv i, ())) (fun i => ss.take i = ts.take i) rfl (by simp) ?_
    intro i hi he R' hR'
    simp only [hS.len, og_some', onr_ret, gval_true, gval_false, pickV_true, pickV_false, apick_true, apick_false, gpick_true, gpick_false, ibin_leq, ibin_geq, ibin_lss, ibin_gtr, ibin_eql, ibin_neq, sbin_eql, sbin_neq, aun_not, Bool.not_true, Bool.not_false, decide_true, decide_false, if_true, if_false, Bool.false_eq_true, fldA_ptr, fldA_rop, anil_ptr, lenStr_str, amm_max, amm_min, Nat.zero_add, Nat.add_zero, List.length_cons, List.length_nil, Nat.reduceAdd]
    by_cases hlt : i < ss.length
    · have : (i : Int) < ss.length := by omega
      obtain ⟨p, hp, hq, _⟩ := hS.at hlt
      obtain ⟨p', hp', hq', _⟩ := hT.at (hc ▸ hlt)
      simp only [this, hp, hq, hp', hq', og_some', onr_ret, gval_true, gval_false, pickV_true, pickV_false, apick_true, apick_false, gpick_true, gpick_false, ibin_leq, ibin_geq, ibin_lss, ibin_gtr, ibin_eql, ibin_neq, sbin_eql, sbin_neq, aun_not, Bool.not_true, Bool.not_false, decide_true, decide_false, if_true, if_false, Bool.false_eq_true, fldA_ptr, fldA_rop, anil_ptr, lenStr_str, amm_max, amm_min, Nat.zero_add, Nat.add_zero, List.length_cons, List.length_nil, Nat.reduceAdd]
      by_cases hx : ss[i] = ts[i]'(hc ▸ hlt)
      · simp only [hx, ibin_up hlt (by omega), og_some', onr_ret, gval_true, gval_false, pickV_true, pickV_false, apick_true, apick_false, gpick_true, gpick_false, ibin_leq, ibin_geq, ibin_lss, ibin_gtr, ibin_eql, ibin_neq, sbin_eql, sbin_neq, aun_not, Bool.not_true, Bool.not_false, decide_true, decide_false, if_true, if_false, Bool.false_eq_true, fldA_ptr, fldA_rop, anil_ptr, lenStr_str, amm_max, amm_min, Nat.zero_add, Nat.add_zero, List.length_cons, List.length_nil, Nat.reduceAdd]
        refine hR' hlt ?_ _ (.refl _)
        rw [List.take_succ_eq_append_getElem hlt, List.take_succ_eq_append_getElem (hc ▸ hlt), he, hx]
      · simp only [hx, og_some', onr_ret, gval_true, gval_false, pickV_true, pickV_false, apick_true, apick_false, gpick_true, gpick_false, ibin_leq, ibin_geq, ibin_lss, ibin_gtr, ibin_eql, ibin_neq, sbin_eql, sbin_neq, aun_not, Bool.not_true, Bool.not_false, decide_true, decide_false, if_true, if_false, Bool.false_eq_true, fldA_ptr, fldA_rop, anil_ptr, lenStr_str, amm_max, amm_min, Nat.zero_add, Nat.add_zero, List.length_cons, List.length_nil, Nat.reduceAdd]
        have : ¬ ss = ts := by rintro rfl; exact hx rfl
        refine ret_here ?_
        simpa [this] using h
    · have : ¬ (i : Int) < ss.length := by omega
      simp only [this, og_some', onr_ret, gval_true, gval_false, pickV_true, pickV_false, apick_true, apick_false, gpick_true, gpick_false, ibin_leq, ibin_geq, ibin_lss, ibin_gtr, ibin_eql, ibin_neq, sbin_eql, sbin_neq, aun_not, Bool.not_true, Bool.not_false, decide_true, decide_false, if_true, if_false, Bool.false_eq_true, fldA_ptr, fldA_rop, anil_ptr, lenStr_str, amm_max, amm_min, Nat.zero_add, Nat.add_zero, List.length_cons, List.length_nil, Nat.reduceAdd]
      obtain rfl : i = ss.length := by omega
      have : ss = ts := by rw [List.take_length, hc, List.take_length] at he; exact he
      refine ret_here ?_
      simpa [this] using h
  · have : ¬ ((ss.length : Int) = ts.length) := by omega
    simp only [this, og_some', onr_ret, gval_true, gval_false, pickV_true, pickV_false, apick_true, apick_false, gpick_true, gpick_false, ibin_leq, ibin_geq, ibin_lss, ibin_gtr, ibin_eql, ibin_neq, sbin_eql, sbin_neq, aun_not, Bool.not_true, Bool.not_false, decide_true, decide_false, if_true, if_false, Bool.false_eq_true, fldA_ptr, fldA_rop, anil_ptr, lenStr_str, amm_max, amm_min, Nat.zero_add, Nat.add_zero, List.length_cons, List.length_nil, Nat.reduceAdd]
    have : ¬ ss = ts := by rintro rfl; exact hc rfl
    refine ret_here ?_
    simpa [this] using h
theorem c_laws_eqSegPart {p q : AV} {xs ys : List Int} (hS : Ns σ p xs) (hT : Ns σ q ys) (hl : xs.length ≤ 1099511627776) (h : R (.ret (bv (decide (xs = ys)))) σ) : acall TP fn_laws_eqSegPart [.agg [p], .agg [q]] σ R := by
  refine s_laws_eqSegPart_ok ?_
  unfold s_laws_eqSegPart
  simp only [abox_agg, og_some', onr_ret, gval_true, gval_false, pickV_true, pickV_false, apick_true, apick_false, gpick_true, gpick_false, ibin_leq, ibin_geq, ibin_lss, ibin_gtr, ibin_eql, ibin_neq, sbin_eql, sbin_neq, aun_not, Bool.not_true, Bool.not_false, decide_true, decide_false, if_true, if_false, Bool.false_eq_true, fldA_ptr, fldA_rop, anil_ptr, lenStr_str, amm_max, amm_min, Nat.zero_add, Nat.add_zero, List.length_cons, List.length_nil, Nat.reduceAdd]
  intro φ hφ ψ hψ
  simp only [AH.set_none] at hψ
  obtain ⟨hne, hψ⟩ := hψ
  have hs : AH.Sub σ ((σ.set φ ⟨0, 1, [[p]]⟩).set ψ ⟨0, 1, [[q]]⟩) := sub_set (sub_set (.refl σ) hφ) hψ
  have e1 : lod (.ptr φ 0 0 0) ((σ.set φ ⟨0, 1, [[p]]⟩).set ψ ⟨0, 1, [[q]]⟩) = some p := lod_at (F := ⟨0, 1, [[p]]⟩) (by rw [AH.set_ne' (Ne.symm hne), AH.set_same]) rfl rfl
  have e2 : lod (.ptr ψ 0 0 0) ((σ.set φ ⟨0, 1, [[p]]⟩).set ψ ⟨0, 1, [[q]]⟩) = some q := lod_at (F := ⟨0, 1, [[q]]⟩) (AH.set_same ..) rfl rfl
  simp only [e1, e2, og_some', onr_ret, gval_true, gval_false, pickV_true, pickV_false, apick_true, apick_false, gpick_true, gpick_false, ibin_leq, ibin_geq, ibin_lss, ibin_gtr, ibin_eql, ibin_neq, sbin_eql, sbin_neq, aun_not, Bool.not_true, Bool.not_false, decide_true, decide_false, if_true, if_false, Bool.false_eq_true, fldA_ptr, fldA_rop, anil_ptr, lenStr_str, amm_max, amm_min, Nat.zero_add, Nat.add_zero, List.length_cons, List.length_nil, Nat.reduceAdd]
  refine c_laws_eqInt64S (hS.sub hs) (hT.sub hs) hl ?_
  simp only [og_some', onr_ret, gval_true, gval_false, pickV_true, pickV_false, apick_true, apick_false, gpick_true, gpick_false, ibin_leq, ibin_geq, ibin_lss, ibin_gtr, ibin_eql, ibin_neq, sbin_eql, sbin_neq, aun_not, Bool.not_true, Bool.not_false, decide_true, decide_false, if_true, if_false, Bool.false_eq_true, fldA_ptr, fldA_rop, anil_ptr, lenStr_str, amm_max, amm_min, Nat.zero_add, Nat.add_zero, List.length_cons, List.length_nil, Nat.reduceAdd]
  by_cases hx : xs = ys
  · simp only [hx, og_some', onr_ret, gval_true, gval_false, pickV_true, pickV_false, apick_true, apick_false, gpick_true, gpick_false, ibin_leq, ibin_geq, ibin_lss, ibin_gtr, ibin_eql, ibin_neq, sbin_eql, sbin_neq, aun_not, Bool.not_true, Bool.not_false, decide_true, decide_false, if_true, if_false, Bool.false_eq_true, fldA_ptr, fldA_rop, anil_ptr, lenStr_str, amm_max, amm_min, Nat.zero_add, Nat.add_zero, List.length_cons, List.length_nil, Nat.reduceAdd] at h ⊢; exact aret_sub hs h
  · simp only [hx, og_some', onr_ret, gval_true, gval_false, pickV_true, pickV_false, apick_true, apick_false, gpick_true, gpick_false, ibin_leq, ibin_geq, ibin_lss, ibin_gtr, ibin_eql, ibin_neq, sbin_eql, sbin_neq, aun_not, Bool.not_true, Bool.not_false, decide_true, decide_false, if_true, if_false, Bool.false_eq_true, fldA_ptr, fldA_rop, anil_ptr, lenStr_str, amm_max, amm_min, Nat.zero_add, Nat.add_zero, List.length_cons, List.length_nil, Nat.reduceAdd] at h ⊢; exact aret_sub hs h
theorem c_laws_eqSegPartS {a b : AV} {ss ts : List (List Int)} (hS : Ps σ a ss) (hT : Ps σ b ts) (hl : ss.length ≤ 1099511627776) (hm : ∀ p, p ∈ ss → p.length ≤ 1099511627776) (h : R (.ret (bv (decide (ss = ts)))) σ) : acall TP fn_laws_eqSegPartS [a, b] σ R := by
  refine s_laws_eqSegPartS_ok ?_
  unfold s_laws_eqSegPartS
  simp only [hS.len, hT.len, og_some', onr_ret, gval_true, gval_false, pickV_true, pickV_false, apick_true, apick_false, gpick_true, gpick_false, ibin_leq, ibin_geq, ibin_lss, ibin_gtr, ibin_eql, ibin_neq, sbin_eql, sbin_neq, aun_not, Bool.not_true, Bool.not_false, decide_true, decide_false, if_true, if_false, Bool.false_eq_true, fldA_ptr, fldA_rop, anil_ptr, lenStr_str, amm_max, amm_min, Nat.zero_add, Nat.add_zero, List.length_cons, List.length_nil, Nat.reduceAdd]
  by_cases hc : ss.length = ts.length
  · have : ((ss.length : Int) = ts.length) := by omega
    simp only [this, og_some', onr_ret, gval_true, gval_false, pickV_true, pickV_false, apick_true, apick_false, gpick_true, gpick_false, ibin_leq, ibin_geq, ibin_lss, ibin_gtr, ibin_eql, ibin_neq, sbin_eql, sbin_neq, aun_not, Bool.not_true, Bool.not_false, decide_true, decide_false, if_true, if_false, Bool.false_eq_true, fldA_ptr, fldA_rop, anil_ptr, lenStr_str, amm_max, amm_min, Nat.zero_add, Nat.add_zero, List.length_cons, List.length_nil, Nat.reduceAdd]
    refine lp_same ss.length (fun i => (a, b, iv i, ())) (fun i => ss.take i = ts.take i) rfl (by simp) ?_
    intro i hi he R' hR'
    simp only [hS.len, og_some', onr_ret, gval_true, gval_false, pickV_true, pickV_false, apick_true, apick_false, gpick_true, gpick_false, ibin_leq, ibin_geq, ibin_lss, ibin_gtr, ibin_eql, ibin_neq, sbin_eql, sbin_neq, aun_not, Bool.not_true, Bool.not_false, decide_true, decide_false, if_true, if_false, Bool.false_eq_true, fldA_ptr, fldA_rop, anil_ptr, lenStr_str, amm_max, amm_min, Nat.zero_add, Nat.add_zero, List.length_cons, List.length_nil, Nat.reduceAdd]
    by_cases hlt : i < ss.length
    · have : (i : Int) < ss.length := by omega
      obtain ⟨p, q, _, hp, hq, _, _, hN⟩ := hS.at hlt
      obtain ⟨p', q', _, hp', hq', _, _, hN'⟩ := hT.at (hc ▸ hlt)
      simp only [this, hp, hq, hp', hq', og_some', onr_ret, gval_true, gval_false, pickV_true, pickV_false, apick_true, apick_false, gpick_true, gpick_false, ibin_leq, ibin_geq, ibin_lss, ibin_gtr, ibin_eql, ibin_neq, sbin_eql, sbin_neq, aun_not, Bool.not_true, Bool.not_false, decide_true, decide_false, if_true, if_false, Bool.false_eq_true, fldA_ptr, fldA_rop, anil_ptr, lenStr_str, amm_max, amm_min, Nat.zero_add, Nat.add_zero, List.length_cons, List.length_nil, Nat.reduceAdd]
      refine c_laws_eqSegPart hN hN' (hm _ (List.getElem_mem hlt)) ?_
      simp only [true_and, og_some', onr_ret, gval_true, gval_false, pickV_true, pickV_false, apick_true, apick_false, gpick_true, gpick_false, ibin_leq, ibin_geq, ibin_lss, ibin_gtr, ibin_eql, ibin_neq, sbin_eql, sbin_neq, aun_not, Bool.not_true, Bool.not_false, decide_true, decide_false, if_true, if_false, Bool.false_eq_true, fldA_ptr, fldA_rop, anil_ptr, lenStr_str, amm_max, amm_min, Nat.zero_add, Nat.add_zero, List.length_cons, List.length_nil, Nat.reduceAdd]
      by_cases hx : ss[i] = ts[i]'(hc ▸ hlt)
      · simp only [hx, ibin_up hlt (by omega), og_some', onr_ret, gval_true, gval_false, pickV_true, pickV_false, apick_true, apick_false, gpick_true, gpick_false, ibin_leq, ibin_geq, ibin_lss, ibin_gtr, ibin_eql, ibin_neq, sbin_eql, sbin_neq, aun_not, Bool.not_true, Bool.not_false, decide_true, decide_false, if_true, if_false, Bool.false_eq_true, fldA_ptr, fldA_rop, anil_ptr, lenStr_str, amm_max, amm_min, Nat.zero_add, Nat.add_zero, List.length_cons, List.length_nil, Nat.reduceAdd]
        refine hR' hlt ?_ _ (.refl _)
        rw [List.take_succ_eq_append_getElem hlt, List.take_succ_eq_append_getElem (hc ▸ hlt), he, hx]
      · simp only [hx, og_some', onr_ret, gval_true, gval_false, pickV_true, pickV_false, apick_true, apick_false, gpick_true, gpick_false, ibin_leq, ibin_geq, ibin_lss, ibin_gtr, ibin_eql, ibin_neq, sbin_eql, sbin_neq, aun_not, Bool.not_true, Bool.not_false, decide_true, decide_false, if_true, if_false, Bool.false_eq_true, fldA_ptr, fldA_rop, anil_ptr, lenStr_str, amm_max, amm_min, Nat.zero_add, Nat.add_zero, List.length_cons, List.length_nil, Nat.reduceAdd]
        have : ¬ ss = ts := by rintro rfl; exact hx rfl
        refine ret_here ?_
        simpa [this] using h
    · have : ¬ (i : Int) < ss.length := by omega
      simp only [this, og_some', onr_ret, gval_true, gval_false, pickV_true, pickV_false, apick_true, apick_false, gpick_true, gpick_false, ibin_leq, ibin_geq, ibin_lss, ibin_gtr, ibin_eql, ibin_neq, sbin_eql, sbin_neq, aun_not, Bool.not_true, Bool.not_false, decide_true, decide_false, if_true, if_false, Bool.false_eq_true, fldA_ptr, fldA_rop, anil_ptr, lenStr_str, amm_max, amm_min, Nat.zero_add, Nat.add_zero, List.length_cons, List.length_nil, Nat.reduceAdd]
      obtain rfl : i = ss.length := by omega
      have : ss = ts := by rw [List.take_length, hc, List.take_length] at he; exact he
      refine ret_here ?_
      simpa [this] using h
  · have : ¬ ((ss.length : Int) = ts.length) := by omega
    simp only [this, og_some', onr_ret, gval_true, gval_false, pickV_true, pickV_false, apick_true, apick_false, gpick_true, gpick_false, ibin_leq, ibin_geq, ibin_lss, ibin_gtr, ibin_eql, ibin_neq, sbin_eql, sbin_neq, aun_not, Bool.not_true, Bool.not_false, decide_true, decide_false, if_true, if_false, Bool.false_eq_true, fldA_ptr, fldA_rop, anil_ptr, lenStr_str, amm_max, amm_min, Nat.zero_add, Nat.add_zero, List.length_cons, List.length_nil, Nat.reduceAdd]
    have : ¬ ss = ts := by rintro rfl; exact hc rfl
    refine ret_here ?_
    simpa [this] using h
theorem c_laws_eqSegs {p q : AV} {n m : Int} {ss ts : List (List Int)} (hS : Ps σ p ss) (hT : Ps σ q ts) (hl : ss.length ≤ 1099511627776) (hm : ∀ p, p ∈ ss → p.length ≤ 1099511627776) (h : R (.ret (bv (decide (n = m) && decide (ss = ts)))) σ) :
    acall TP fn_laws_eqSegs [.agg [iv n, p], .agg [iv m, q]] σ R := by
  refine s_laws_eqSegs_ok ?_
  unfold s_laws_eqSegs
  simp only [abox_agg, og_some', onr_ret, gval_true, gval_false, pickV_true, pickV_false, apick_true, apick_false, gpick_true, gpick_false, ibin_leq, ibin_geq, ibin_lss, ibin_gtr, ibin_eql, ibin_neq, sbin_eql, sbin_neq, aun_not, Bool.not_true, Bool.not_false, decide_true, decide_false, if_true, if_false, Bool.false_eq_true, fldA_ptr, fldA_rop, anil_ptr, lenStr_str, amm_max, amm_min, Nat.zero_add, Nat.add_zero, List.length_cons, List.length_nil, Nat.reduceAdd]
  intro φ hφ ψ hψ
  simp only [AH.set_none] at hψ
  obtain ⟨hne, hψ⟩ := hψ
  have hs : AH.Sub σ ((σ.set φ ⟨0, 2, [[iv n, p]]⟩).set ψ ⟨0, 2, [[iv m, q]]⟩) := sub_set (sub_set (.refl σ) hφ) hψ
  have g1 : ((σ.set φ ⟨0, 2, [[iv n, p]]⟩).set ψ ⟨0, 2, [[iv m, q]]⟩) φ = some ⟨0, 2, [[iv n, p]]⟩ := by rw [AH.set_ne' (Ne.symm hne), AH.set_same]
  have g2 : ((σ.set φ ⟨0, 2, [[iv n, p]]⟩).set ψ ⟨0, 2, [[iv m, q]]⟩) ψ = some ⟨0, 2, [[iv m, q]]⟩ := AH.set_same ..
  simp only [lod_at (st := 0) (i := 0) (off := 0) (c := iv n) g1 rfl rfl, lod_at (st := 0) (i := 0) (off := 1) (c := p) g1 rfl rfl, lod_at (st := 0) (i := 0) (off := 0) (c := iv m) g2 rfl rfl, lod_at (st := 0) (i := 0) (off := 1) (c := q) g2 rfl rfl, og_some', onr_ret, gval_true, gval_false, pickV_true, pickV_false, apick_true, apick_false, gpick_true, gpick_false, ibin_leq, ibin_geq, ibin_lss, ibin_gtr, ibin_eql, ibin_neq, sbin_eql, sbin_neq, aun_not, Bool.not_true, Bool.not_false, decide_true, decide_false, if_true, if_false, Bool.false_eq_true, fldA_ptr, fldA_rop, anil_ptr, lenStr_str, amm_max, amm_min, Nat.zero_add, Nat.add_zero, List.length_cons, List.length_nil, Nat.reduceAdd]
  by_cases hn : n = m
  · simp only [hn, Bool.true_and, og_some', onr_ret, gval_true, gval_false, pickV_true, pickV_false, apick_true, apick_false, gpick_true, gpick_false, ibin_leq, ibin_geq, ibin_lss, ibin_gtr, ibin_eql, ibin_neq, sbin_eql, sbin_neq, aun_not, Bool.not_true, Bool.not_false, decide_true, decide_false, if_true, if_false, Bool.false_eq_true, fldA_ptr, fldA_rop, anil_ptr, lenStr_str, amm_max, amm_min, Nat.zero_add, Nat.add_zero, List.length_cons, List.length_nil, Nat.reduceAdd] at h ⊢
    refine c_laws_eqSegPartS (hS.sub (hn ▸ hs)) (hT.sub (hn ▸ hs)) hl hm ?_
    simp only [og_some', onr_ret, gval_true, gval_false, pickV_true, pickV_false, apick_true, apick_false, gpick_true, gpick_false, ibin_leq, ibin_geq, ibin_lss, ibin_gtr, ibin_eql, ibin_neq, sbin_eql, sbin_neq, aun_not, Bool.not_true, Bool.not_false, decide_true, decide_false, if_true, if_false, Bool.false_eq_true, fldA_ptr, fldA_rop, anil_ptr, lenStr_str, amm_max, amm_min, Nat.zero_add, Nat.add_zero, List.length_cons, List.length_nil, Nat.reduceAdd]
    by_cases hx : ss = ts
    · simp only [hx, og_some', onr_ret, gval_true, gval_false, pickV_true, pickV_false, apick_true, apick_false, gpick_true, gpick_false, ibin_leq, ibin_geq, ibin_lss, ibin_gtr, ibin_eql, ibin_neq, sbin_eql, sbin_neq, aun_not, Bool.not_true, Bool.not_false, decide_true, decide_false, if_true, if_false, Bool.false_eq_true, fldA_ptr, fldA_rop, anil_ptr, lenStr_str, amm_max, amm_min, Nat.zero_add, Nat.add_zero, List.length_cons, List.length_nil, Nat.reduceAdd] at h ⊢; exact aret_sub (hn ▸ hs) h
    · simp only [hx, og_some', onr_ret, gval_true, gval_false, pickV_true, pickV_false, apick_true, apick_false, gpick_true, gpick_false, ibin_leq, ibin_geq, ibin_lss, ibin_gtr, ibin_eql, ibin_neq, sbin_eql, sbin_neq, aun_not, Bool.not_true, Bool.not_false, decide_true, decide_false, if_true, if_false, Bool.false_eq_true, fldA_ptr, fldA_rop, anil_ptr, lenStr_str, amm_max, amm_min, Nat.zero_add, Nat.add_zero, List.length_cons, List.length_nil, Nat.reduceAdd] at h ⊢; exact aret_sub (hn ▸ hs) h
  · simp only [hn, Bool.false_and, og_some', onr_ret, gval_true, gval_false, pickV_true, pickV_false, apick_true, apick_false, gpick_true, gpick_false, ibin_leq, ibin_geq, ibin_lss, ibin_gtr, ibin_eql, ibin_neq, sbin_eql, sbin_neq, aun_not, Bool.not_true, Bool.not_false, decide_true, decide_false, if_true, if_false, Bool.false_eq_true, fldA_ptr, fldA_rop, anil_ptr, lenStr_str, amm_max, amm_min, Nat.zero_add, Nat.add_zero, List.length_cons, List.length_nil, Nat.reduceAdd] at h ⊢
    exact aret_sub hs h

/-! ### at fault -/
/-- What a piece of a stack has to be. -/
def okAt (size : Int) (ps : List (List Int)) (i : Nat) : Prop := ∀ h : i < ps.length, 1 ≤ (ps[i].length : Int) ∧ (ps[i].length : Int) ≤ size ∧ (i + 1 < ps.length → (ps[i].length : Int) = size)
def OkP (size : Int) (ps : List (List Int)) : Prop := ∀ i, okAt size ps i
open Classical in
noncomputable def segF (size : Int) (ps : List (List Int)) : Int := if 1 ≤ size ∧ size ≤ 64 then if OkP size ps then if tot ps > 4000 then 2 else 0 else 1 else 3
theorem c_spec_l12Fault {φ : Nat} {size : Int} {p : AV} {ps : List (List Int)} (hF : σ φ = some ⟨0, 2, [[iv size, p]]⟩) (hP : Ps σ p ps) (hb : ps.length + tot ps ≤ 1099511627776)
    (h : R (.ret (iv (segF size ps))) σ) : acall TP fn_spec_l12Fault [.ptr φ 0 0 0] σ R := by
  refine s_spec_l12Fault_ok ?_
  unfold s_spec_l12Fault
  have e0 := lod_at (st := 0) (i := 0) (off := 0) (c := iv size) hF rfl rfl
  have e1 := lod_at (st := 0) (i := 0) (off := 1) (c := p) hF rfl rfl
  simp only [e0, og_some', onr_ret, gval_true, gval_false, pickV_true, pickV_false, apick_true, apick_false, gpick_true, gpick_false, ibin_leq, ibin_geq, ibin_lss, ibin_gtr, ibin_eql, ibin_neq, sbin_eql, sbin_neq, aun_not, Bool.not_true, Bool.not_false, decide_true, decide_false, if_true, if_false, Bool.false_eq_true, fldA_ptr, fldA_rop, anil_ptr, lenStr_str, amm_max, amm_min, Nat.zero_add, Nat.add_zero, List.length_cons, List.length_nil, Nat.reduceAdd]
  refine c_spec_l12Size ?_
  simp only [og_some', onr_ret, gval_true, gval_false, pickV_true, pickV_false, apick_true, apick_false, gpick_true, gpick_false, ibin_leq, ibin_geq, ibin_lss, ibin_gtr, ibin_eql, ibin_neq, sbin_eql, sbin_neq, aun_not, Bool.not_true, Bool.not_false, decide_true, decide_false, if_true, if_false, Bool.false_eq_true, fldA_ptr, fldA_rop, anil_ptr, lenStr_str, amm_max, amm_min, Nat.zero_add, Nat.add_zero, List.length_cons, List.length_nil, Nat.reduceAdd]
  unfold segF at h
  by_cases hsz : 1 ≤ size ∧ size ≤ 64
  case neg =>
    have : (decide (1 ≤ size) && decide (size ≤ 64)) = false := by simpa using hsz
    simp only [this, og_some', onr_ret, gval_true, gval_false, pickV_true, pickV_false, apick_true, apick_false, gpick_true, gpick_false, ibin_leq, ibin_geq, ibin_lss, ibin_gtr, ibin_eql, ibin_neq, sbin_eql, sbin_neq, aun_not, Bool.not_true, Bool.not_false, decide_true, decide_false, if_true, if_false, Bool.false_eq_true, fldA_ptr, fldA_rop, anil_ptr, lenStr_str, amm_max, amm_min, Nat.zero_add, Nat.add_zero, List.length_cons, List.length_nil, Nat.reduceAdd]
    rw [if_neg hsz] at h
    exact ret_here h
  have : (decide (1 ≤ size) && decide (size ≤ 64)) = true := by simpa using hsz
  simp only [this, og_some', onr_ret, gval_true, gval_false, pickV_true, pickV_false, apick_true, apick_false, gpick_true, gpick_false, ibin_leq, ibin_geq, ibin_lss, ibin_gtr, ibin_eql, ibin_neq, sbin_eql, sbin_neq, aun_not, Bool.not_true, Bool.not_false, decide_true, decide_false, if_true, if_false, Bool.false_eq_true, fldA_ptr, fldA_rop, anil_ptr, lenStr_str, amm_max, amm_min, Nat.zero_add, Nat.add_zero, List.length_cons, List.length_nil, Nat.reduceAdd]
  rw [if_pos hsz] at h
  refine lp_same ps.length (fun i => (.ptr φ 0 0 0, iv (tot (ps.take i)), iv i, ())) (fun i => ∀ j, j < i → okAt size ps j) rfl (fun j hj => by omega) ?_
  intro i hi hok R' hR'
  simp only [e0, e1, hP.len, og_some', onr_ret, gval_true, gval_false, pickV_true, pickV_false, apick_true, apick_false, gpick_true, gpick_false, ibin_leq, ibin_geq, ibin_lss, ibin_gtr, ibin_eql, ibin_neq, sbin_eql, sbin_neq, aun_not, Bool.not_true, Bool.not_false, decide_true, decide_false, if_true, if_false, Bool.false_eq_true, fldA_ptr, fldA_rop, anil_ptr, lenStr_str, amm_max, amm_min, Nat.zero_add, Nat.add_zero, List.length_cons, List.length_nil, Nat.reduceAdd]
  by_cases hlt : i < ps.length
  · have g0 : (i : Int) < ps.length := by omega
    obtain ⟨v, q, v', hp, hq, hf, hl, hN⟩ := hP.at hlt
    have hT := tot_take ps hlt
    have hT2 := tot_at ps hlt
    have hu := ibin_up hlt (by omega : ps.length ≤ 9223372036854775807)
    have ha : ibin .add (.val (.int .i64 (tot (ps.take i) : Nat))) (.val (.int .i64 (ps[i].length : Nat))) = some (.val (.int .i64 (tot (ps.take (i + 1)) : Nat))) := by rw [ibin_add (by omega) (by omega), hT]; rfl
    simp only [g0, hp, hf, hl, hN.len, og_some', onr_ret, gval_true, gval_false, pickV_true, pickV_false, apick_true, apick_false, gpick_true, gpick_false, ibin_leq, ibin_geq, ibin_lss, ibin_gtr, ibin_eql, ibin_neq, sbin_eql, sbin_neq, aun_not, Bool.not_true, Bool.not_false, decide_true, decide_false, if_true, if_false, Bool.false_eq_true, fldA_ptr, fldA_rop, anil_ptr, lenStr_str, amm_max, amm_min, Nat.zero_add, Nat.add_zero, List.length_cons, List.length_nil, Nat.reduceAdd]
    have bad : ¬ okAt size ps i → aret (iv 1) σ R := by
      intro hb
      rw [if_neg (fun hO => hb (hO i))] at h
      exact ret_here h
    by_cases c1 : (ps[i].length : Int) < 1
    · simp only [c1, og_some', onr_ret, gval_true, gval_false, pickV_true, pickV_false, apick_true, apick_false, gpick_true, gpick_false, ibin_leq, ibin_geq, ibin_lss, ibin_gtr, ibin_eql, ibin_neq, sbin_eql, sbin_neq, aun_not, Bool.not_true, Bool.not_false, decide_true, decide_false, if_true, if_false, Bool.false_eq_true, fldA_ptr, fldA_rop, anil_ptr, lenStr_str, amm_max, amm_min, Nat.zero_add, Nat.add_zero, List.length_cons, List.length_nil, Nat.reduceAdd]
      exact bad (fun hO => by have := (hO hlt).1; omega)
    by_cases c2 : size < (ps[i].length : Int)
    · simp only [c1, c2, e0, og_some', onr_ret, gval_true, gval_false, pickV_true, pickV_false, apick_true, apick_false, gpick_true, gpick_false, ibin_leq, ibin_geq, ibin_lss, ibin_gtr, ibin_eql, ibin_neq, sbin_eql, sbin_neq, aun_not, Bool.not_true, Bool.not_false, decide_true, decide_false, if_true, if_false, Bool.false_eq_true, fldA_ptr, fldA_rop, anil_ptr, lenStr_str, amm_max, amm_min, Nat.zero_add, Nat.add_zero, List.length_cons, List.length_nil, Nat.reduceAdd]
      exact bad (fun hO => by have := (hO hlt).2.1; omega)
    have good : okAt size ps i → R' (.ptr φ 0 0 0, .val (.int .i64 (tot (ps.take (i + 1)) : Nat)), .val (.int .i64 ((i + 1 : Nat) : Int)), ()) σ := by
      intro hO
      refine hR' hlt (fun j hj => ?_) _ (.refl _)
      by_cases h : j < i
      · exact hok j h
      · have e : j = i := Nat.le_antisymm (Nat.le_of_lt_succ hj) (Nat.le_of_not_lt h)
        rw [e]; exact hO
    by_cases c3 : i + 1 < ps.length
    · have c3' : ((i + 1 : Nat) : Int) < (ps.length : Int) := by omega
      by_cases c4 : (ps[i].length : Int) = size
      · simp only [c1, c2, c3', decide_eq_true c4, hu, ha, e0, e1, hP.len, hp, hf, hl, hN.len, og_some', onr_ret, gval_true, gval_false, pickV_true, pickV_false, apick_true, apick_false, gpick_true, gpick_false, ibin_leq, ibin_geq, ibin_lss, ibin_gtr, ibin_eql, ibin_neq, sbin_eql, sbin_neq, aun_not, Bool.not_true, Bool.not_false, decide_true, decide_false, if_true, if_false, Bool.false_eq_true, fldA_ptr, fldA_rop, anil_ptr, lenStr_str, amm_max, amm_min, Nat.zero_add, Nat.add_zero, List.length_cons, List.length_nil, Nat.reduceAdd]
        exact good (fun _ => ⟨by omega, by omega, fun _ => c4⟩)
      · simp only [c1, c2, c3', decide_eq_false c4, hu, ha, e0, e1, hP.len, hp, hf, hl, hN.len, og_some', onr_ret, gval_true, gval_false, pickV_true, pickV_false, apick_true, apick_false, gpick_true, gpick_false, ibin_leq, ibin_geq, ibin_lss, ibin_gtr, ibin_eql, ibin_neq, sbin_eql, sbin_neq, aun_not, Bool.not_true, Bool.not_false, decide_true, decide_false, if_true, if_false, Bool.false_eq_true, fldA_ptr, fldA_rop, anil_ptr, lenStr_str, amm_max, amm_min, Nat.zero_add, Nat.add_zero, List.length_cons, List.length_nil, Nat.reduceAdd]
        exact bad (fun hO => c4 ((hO hlt).2.2 c3))
    · have c3' : ¬ ((i + 1 : Nat) : Int) < (ps.length : Int) := by omega
      simp only [c1, c2, c3', hu, ha, e0, e1, hP.len, hp, hf, hl, hN.len, og_some', onr_ret, gval_true, gval_false, pickV_true, pickV_false, apick_true, apick_false, gpick_true, gpick_false, ibin_leq, ibin_geq, ibin_lss, ibin_gtr, ibin_eql, ibin_neq, sbin_eql, sbin_neq, aun_not, Bool.not_true, Bool.not_false, decide_true, decide_false, if_true, if_false, Bool.false_eq_true, fldA_ptr, fldA_rop, anil_ptr, lenStr_str, amm_max, amm_min, Nat.zero_add, Nat.add_zero, List.length_cons, List.length_nil, Nat.reduceAdd]
      exact good (fun _ => ⟨by omega, by omega, fun h => absurd h c3⟩)
  · have g0 : ¬ (i : Int) < ps.length := by omega
    obtain rfl : i = ps.length := by omega
    simp only [g0, og_some', onr_ret, gval_true, gval_false, pickV_true, pickV_false, apick_true, apick_false, gpick_true, gpick_false, ibin_leq, ibin_geq, ibin_lss, ibin_gtr, ibin_eql, ibin_neq, sbin_eql, sbin_neq, aun_not, Bool.not_true, Bool.not_false, decide_true, decide_false, if_true, if_false, Bool.false_eq_true, fldA_ptr, fldA_rop, anil_ptr, lenStr_str, amm_max, amm_min, Nat.zero_add, Nat.add_zero, List.length_cons, List.length_nil, Nat.reduceAdd]
    have hO : OkP size ps := fun j hj => hok j hj hj
    rw [if_pos hO] at h
    rw [List.take_length]
    by_cases c : 4000 < tot ps
    · have c' : (4000 : Int) < tot ps := by omega
      simp only [c', og_some', onr_ret, gval_true, gval_false, pickV_true, pickV_false, apick_true, apick_false, gpick_true, gpick_false, ibin_leq, ibin_geq, ibin_lss, ibin_gtr, ibin_eql, ibin_neq, sbin_eql, sbin_neq, aun_not, Bool.not_true, Bool.not_false, decide_true, decide_false, if_true, if_false, Bool.false_eq_true, fldA_ptr, fldA_rop, anil_ptr, lenStr_str, amm_max, amm_min, Nat.zero_add, Nat.add_zero, List.length_cons, List.length_nil, Nat.reduceAdd]
      rw [if_pos (by omega)] at h; exact ret_here h
    · have c' : ¬ (4000 : Int) < tot ps := by omega
      simp only [c', og_some', onr_ret, gval_true, gval_false, pickV_true, pickV_false, apick_true, apick_false, gpick_true, gpick_false, ibin_leq, ibin_geq, ibin_lss, ibin_gtr, ibin_eql, ibin_neq, sbin_eql, sbin_neq, aun_not, Bool.not_true, Bool.not_false, decide_true, decide_false, if_true, if_false, Bool.false_eq_true, fldA_ptr, fldA_rop, anil_ptr, lenStr_str, amm_max, amm_min, Nat.zero_add, Nat.add_zero, List.length_cons, List.length_nil, Nat.reduceAdd]
      rw [if_neg (by omega)] at h; exact ret_here h
theorem c_spec_SegsFault {size : Int} {p : AV} {ps : List (List Int)} (hP : Ps σ p ps) (hb : ps.length + tot ps ≤ 1099511627776)
    (h : R (.ret (iv (segF size ps))) σ) : acall TP fn_spec_SegsFault [.agg [iv size, p]] σ R := by
  refine s_spec_SegsFault_ok ?_
  unfold s_spec_SegsFault
  simp only [abox_agg, og_some', onr_ret, gval_true, gval_false, pickV_true, pickV_false, apick_true, apick_false, gpick_true, gpick_false, ibin_leq, ibin_geq, ibin_lss, ibin_gtr, ibin_eql, ibin_neq, sbin_eql, sbin_neq, aun_not, Bool.not_true, Bool.not_false, decide_true, decide_false, if_true, if_false, Bool.false_eq_true, fldA_ptr, fldA_rop, anil_ptr, lenStr_str, amm_max, amm_min, Nat.zero_add, Nat.add_zero, List.length_cons, List.length_nil, Nat.reduceAdd]
  intro φ hφ
  have hs : AH.Sub σ (σ.set φ ⟨0, 2, [[iv size, p]]⟩) := sub_set (.refl σ) hφ
  refine c_spec_l12Fault (AH.set_same ..) (hP.sub hs) hb ?_
  simp only [og_some', onr_ret, gval_true, gval_false, pickV_true, pickV_false, apick_true, apick_false, gpick_true, gpick_false, ibin_leq, ibin_geq, ibin_lss, ibin_gtr, ibin_eql, ibin_neq, sbin_eql, sbin_neq, aun_not, Bool.not_true, Bool.not_false, decide_true, decide_false, if_true, if_false, Bool.false_eq_true, fldA_ptr, fldA_rop, anil_ptr, lenStr_str, amm_max, amm_min, Nat.zero_add, Nat.add_zero, List.length_cons, List.length_nil, Nat.reduceAdd]
  exact aret_sub hs h
theorem c_impl_SegsFault {size : Int} {p : AV} {ps : List (List Int)} (hP : Ps σ p ps) (hb : ps.length + tot ps ≤ 1099511627776)
    (h : R (.ret (iv (segF size ps))) σ) : acall TP fn_impl_SegsFault [.agg [iv size, p]] σ R := by
  refine s_impl_SegsFault_ok ?_
  unfold s_impl_SegsFault
  simp only [abox_agg, og_some', onr_ret, gval_true, gval_false, pickV_true, pickV_false, apick_true, apick_false, gpick_true, gpick_false, ibin_leq, ibin_geq, ibin_lss, ibin_gtr, ibin_eql, ibin_neq, sbin_eql, sbin_neq, aun_not, Bool.not_true, Bool.not_false, decide_true, decide_false, if_true, if_false, Bool.false_eq_true, fldA_ptr, fldA_rop, anil_ptr, lenStr_str, amm_max, amm_min, Nat.zero_add, Nat.add_zero, List.length_cons, List.length_nil, Nat.reduceAdd]
  intro φ hφ
  have hs : AH.Sub σ (σ.set φ ⟨0, 2, [[iv size, p]]⟩) := sub_set (.refl σ) hφ
  have hF : (σ.set φ ⟨0, 2, [[iv size, p]]⟩) φ = some ⟨0, 2, [[iv size, p]]⟩ := AH.set_same ..
  generalize hσ1 : σ.set φ ⟨0, 2, [[iv size, p]]⟩ = σ1 at hs hF ⊢
  have hP1 := hP.sub hs
  have e0 := lod_at (st := 0) (i := 0) (off := 0) (c := iv size) hF rfl rfl
  have e1 := lod_at (st := 0) (i := 0) (off := 1) (c := p) hF rfl rfl
  simp only [e0, og_some', onr_ret, gval_true, gval_false, pickV_true, pickV_false, apick_true, apick_false, gpick_true, gpick_false, ibin_leq, ibin_geq, ibin_lss, ibin_gtr, ibin_eql, ibin_neq, sbin_eql, sbin_neq, aun_not, Bool.not_true, Bool.not_false, decide_true, decide_false, if_true, if_false, Bool.false_eq_true, fldA_ptr, fldA_rop, anil_ptr, lenStr_str, amm_max, amm_min, Nat.zero_add, Nat.add_zero, List.length_cons, List.length_nil, Nat.reduceAdd]
  refine c_impl_isSize ?_
  simp only [og_some', onr_ret, gval_true, gval_false, pickV_true, pickV_false, apick_true, apick_false, gpick_true, gpick_false, ibin_leq, ibin_geq, ibin_lss, ibin_gtr, ibin_eql, ibin_neq, sbin_eql, sbin_neq, aun_not, Bool.not_true, Bool.not_false, decide_true, decide_false, if_true, if_false, Bool.false_eq_true, fldA_ptr, fldA_rop, anil_ptr, lenStr_str, amm_max, amm_min, Nat.zero_add, Nat.add_zero, List.length_cons, List.length_nil, Nat.reduceAdd]
  unfold segF at h
  by_cases hsz : 1 ≤ size ∧ size ≤ 64
  case neg =>
    have : (decide (1 ≤ size) && decide (size ≤ 64)) = false := by simpa using hsz
    simp only [this, og_some', onr_ret, gval_true, gval_false, pickV_true, pickV_false, apick_true, apick_false, gpick_true, gpick_false, ibin_leq, ibin_geq, ibin_lss, ibin_gtr, ibin_eql, ibin_neq, sbin_eql, sbin_neq, aun_not, Bool.not_true, Bool.not_false, decide_true, decide_false, if_true, if_false, Bool.false_eq_true, fldA_ptr, fldA_rop, anil_ptr, lenStr_str, amm_max, amm_min, Nat.zero_add, Nat.add_zero, List.length_cons, List.length_nil, Nat.reduceAdd]
    rw [if_neg hsz] at h
    exact aret_sub hs h
  have : (decide (1 ≤ size) && decide (size ≤ 64)) = true := by simpa using hsz
  simp only [this, og_some', onr_ret, gval_true, gval_false, pickV_true, pickV_false, apick_true, apick_false, gpick_true, gpick_false, ibin_leq, ibin_geq, ibin_lss, ibin_gtr, ibin_eql, ibin_neq, sbin_eql, sbin_neq, aun_not, Bool.not_true, Bool.not_false, decide_true, decide_false, if_true, if_false, Bool.false_eq_true, fldA_ptr, fldA_rop, anil_ptr, lenStr_str, amm_max, amm_min, Nat.zero_add, Nat.add_zero, List.length_cons, List.length_nil, Nat.reduceAdd]
  rw [if_pos hsz] at h
  simp only [e1, hP.len, ibin_sub (a := ps.length) (b := 1) (by omega) (by omega), og_some', onr_ret, gval_true, gval_false, pickV_true, pickV_false, apick_true, apick_false, gpick_true, gpick_false, ibin_leq, ibin_geq, ibin_lss, ibin_gtr, ibin_eql, ibin_neq, sbin_eql, sbin_neq, aun_not, Bool.not_true, Bool.not_false, decide_true, decide_false, if_true, if_false, Bool.false_eq_true, fldA_ptr, fldA_rop, anil_ptr, lenStr_str, amm_max, amm_min, Nat.zero_add, Nat.add_zero, List.length_cons, List.length_nil, Nat.reduceAdd]
  refine lp_same ps.length (fun i => (.ptr φ 0 0 0, iv (tot (ps.take i)), iv (ps.length - 1), p, iv ps.length, iv i, ())) (fun i => ∀ j, j < i → okAt size ps j) rfl (fun j hj => by omega) ?_
  intro i hi hok R' hR'
  by_cases hlt : i < ps.length
  · have g0 : (i : Int) < ps.length := by omega
    obtain ⟨v, q, v', hp, hq, hf, hl, hN⟩ := hP1.at hlt
    have hT := tot_take ps hlt
    have hT2 := tot_at ps hlt
    have hu := ibin_up hlt (by omega : ps.length ≤ 9223372036854775807)
    have ha : ibin .add (.val (.int .i64 (tot (ps.take i) : Nat))) (.val (.int .i64 (ps[i].length : Nat))) = some (.val (.int .i64 (tot (ps.take (i + 1)) : Nat))) := by rw [ibin_add (by omega) (by omega), hT]; rfl
    simp only [g0, hp, hq, new_eq, og_some', onr_ret, gval_true, gval_false, pickV_true, pickV_false, apick_true, apick_false, gpick_true, gpick_false, ibin_leq, ibin_geq, ibin_lss, ibin_gtr, ibin_eql, ibin_neq, sbin_eql, sbin_neq, aun_not, Bool.not_true, Bool.not_false, decide_true, decide_false, if_true, if_false, Bool.false_eq_true, fldA_ptr, fldA_rop, anil_ptr, lenStr_str, amm_max, amm_min, Nat.zero_add, Nat.add_zero, List.length_cons, List.length_nil, Nat.reduceAdd]
    intro ψ hψ
    have hne : ψ ≠ φ := by rintro rfl; rw [hF] at hψ; cases hψ
    have hN1 := hN.one
    refine sto_own (es := [[nilS]]) (cs := [q]) (AH.set_same ..) (by simp) (by simp) rfl rfl (by simpa using hN1.2) ?_
    simp only [List.set_cons_zero, AH.set_set]
    have hs2 : AH.Sub σ1 (σ1.set ψ ⟨0, 1, [[q]]⟩) := sub_set (.refl σ1) hψ
    have hF2 := hs2.at hF
    have e0' := lod_at (st := 0) (i := 0) (off := 0) (c := iv size) hF2 rfl rfl
    have eq := lod_at (σ := σ1.set ψ ⟨0, 1, [[q]]⟩) (φ := ψ) (st := 0) (i := 0) (off := 0) (c := q) (AH.set_same ..) rfl rfl
    simp only [e0', eq, hN.len, og_some', onr_ret, gval_true, gval_false, pickV_true, pickV_false, apick_true, apick_false, gpick_true, gpick_false, ibin_leq, ibin_geq, ibin_lss, ibin_gtr, ibin_eql, ibin_neq, sbin_eql, sbin_neq, aun_not, Bool.not_true, Bool.not_false, decide_true, decide_false, if_true, if_false, Bool.false_eq_true, fldA_ptr, fldA_rop, anil_ptr, lenStr_str, amm_max, amm_min, Nat.zero_add, Nat.add_zero, List.length_cons, List.length_nil, Nat.reduceAdd]
    have bad : ¬ okAt size ps i → aret (iv 1) (σ1.set ψ ⟨0, 1, [[q]]⟩) R := by
      intro hb
      rw [if_neg (fun hO => hb (hO i))] at h
      exact aret_sub (hs.trans hs2) h
    have good : okAt size ps i → R' (.ptr φ 0 0 0, .val (.int .i64 (tot (ps.take (i + 1)) : Nat)), iv (ps.length - 1), p, iv ps.length, .val (.int .i64 ((i + 1 : Nat) : Int)), ()) (σ1.set ψ ⟨0, 1, [[q]]⟩) := by
      intro hO
      refine hR' hlt (fun j hj => ?_) _ hs2
      by_cases h : j < i
      · exact hok j h
      · have e : j = i := Nat.le_antisymm (Nat.le_of_lt_succ hj) (Nat.le_of_not_lt h)
        rw [e]; exact hO
    refine c_impl_in ?_
    simp only [og_some', onr_ret, gval_true, gval_false, pickV_true, pickV_false, apick_true, apick_false, gpick_true, gpick_false, ibin_leq, ibin_geq, ibin_lss, ibin_gtr, ibin_eql, ibin_neq, sbin_eql, sbin_neq, aun_not, Bool.not_true, Bool.not_false, decide_true, decide_false, if_true, if_false, Bool.false_eq_true, fldA_ptr, fldA_rop, anil_ptr, lenStr_str, amm_max, amm_min, Nat.zero_add, Nat.add_zero, List.length_cons, List.length_nil, Nat.reduceAdd]
    by_cases c1 : 1 ≤ (ps[i].length : Int) ∧ (ps[i].length : Int) ≤ size
    · have c1' : (decide (1 ≤ (ps[i].length : Int)) && decide ((ps[i].length : Int) ≤ size)) = true := by simpa using c1
      by_cases c3 : i + 1 < ps.length
      · have c3' : (i : Int) < (ps.length : Int) - 1 := by clear bad good; omega
        by_cases c4 : (ps[i].length : Int) = size
        · simp only [c1', c3', decide_eq_true c4, hu, ha, e0', eq, hN.len, og_some', onr_ret, gval_true, gval_false, pickV_true, pickV_false, apick_true, apick_false, gpick_true, gpick_false, ibin_leq, ibin_geq, ibin_lss, ibin_gtr, ibin_eql, ibin_neq, sbin_eql, sbin_neq, aun_not, Bool.not_true, Bool.not_false, decide_true, decide_false, if_true, if_false, Bool.false_eq_true, fldA_ptr, fldA_rop, anil_ptr, lenStr_str, amm_max, amm_min, Nat.zero_add, Nat.add_zero, List.length_cons, List.length_nil, Nat.reduceAdd]
          exact good (fun _ => ⟨c1.1, c1.2, fun _ => c4⟩)
        · simp only [c1', c3', decide_eq_false c4, hu, ha, e0', eq, hN.len, og_some', onr_ret, gval_true, gval_false, pickV_true, pickV_false, apick_true, apick_false, gpick_true, gpick_false, ibin_leq, ibin_geq, ibin_lss, ibin_gtr, ibin_eql, ibin_neq, sbin_eql, sbin_neq, aun_not, Bool.not_true, Bool.not_false, decide_true, decide_false, if_true, if_false, Bool.false_eq_true, fldA_ptr, fldA_rop, anil_ptr, lenStr_str, amm_max, amm_min, Nat.zero_add, Nat.add_zero, List.length_cons, List.length_nil, Nat.reduceAdd]
          exact bad (fun hO => c4 ((hO hlt).2.2 c3))
      · have c3' : ¬ (i : Int) < (ps.length : Int) - 1 := by clear bad good; omega
        simp only [c1', c3', hu, ha, e0', eq, hN.len, og_some', onr_ret, gval_true, gval_false, pickV_true, pickV_false, apick_true, apick_false, gpick_true, gpick_false, ibin_leq, ibin_geq, ibin_lss, ibin_gtr, ibin_eql, ibin_neq, sbin_eql, sbin_neq, aun_not, Bool.not_true, Bool.not_false, decide_true, decide_false, if_true, if_false, Bool.false_eq_true, fldA_ptr, fldA_rop, anil_ptr, lenStr_str, amm_max, amm_min, Nat.zero_add, Nat.add_zero, List.length_cons, List.length_nil, Nat.reduceAdd]
        exact good (fun _ => ⟨c1.1, c1.2, fun h => absurd h c3⟩)
    · have c1' : (decide (1 ≤ (ps[i].length : Int)) && decide ((ps[i].length : Int) ≤ size)) = false := by simpa using c1
      simp only [c1', og_some', onr_ret, gval_true, gval_false, pickV_true, pickV_false, apick_true, apick_false, gpick_true, gpick_false, ibin_leq, ibin_geq, ibin_lss, ibin_gtr, ibin_eql, ibin_neq, sbin_eql, sbin_neq, aun_not, Bool.not_true, Bool.not_false, decide_true, decide_false, if_true, if_false, Bool.false_eq_true, fldA_ptr, fldA_rop, anil_ptr, lenStr_str, amm_max, amm_min, Nat.zero_add, Nat.add_zero, List.length_cons, List.length_nil, Nat.reduceAdd]
      exact bad (fun hO => c1 ⟨(hO hlt).1, (hO hlt).2.1⟩)
  · have g0 : ¬ (i : Int) < ps.length := by omega
    obtain rfl : i = ps.length := by omega
    simp only [g0, og_some', onr_ret, gval_true, gval_false, pickV_true, pickV_false, apick_true, apick_false, gpick_true, gpick_false, ibin_leq, ibin_geq, ibin_lss, ibin_gtr, ibin_eql, ibin_neq, sbin_eql, sbin_neq, aun_not, Bool.not_true, Bool.not_false, decide_true, decide_false, if_true, if_false, Bool.false_eq_true, fldA_ptr, fldA_rop, anil_ptr, lenStr_str, amm_max, amm_min, Nat.zero_add, Nat.add_zero, List.length_cons, List.length_nil, Nat.reduceAdd]
    have hO : OkP size ps := fun j hj => hok j hj hj
    rw [if_pos hO] at h
    rw [List.take_length]
    by_cases c : 4000 < tot ps
    · have c' : (4000 : Int) < tot ps := by omega
      simp only [c', og_some', onr_ret, gval_true, gval_false, pickV_true, pickV_false, apick_true, apick_false, gpick_true, gpick_false, ibin_leq, ibin_geq, ibin_lss, ibin_gtr, ibin_eql, ibin_neq, sbin_eql, sbin_neq, aun_not, Bool.not_true, Bool.not_false, decide_true, decide_false, if_true, if_false, Bool.false_eq_true, fldA_ptr, fldA_rop, anil_ptr, lenStr_str, amm_max, amm_min, Nat.zero_add, Nat.add_zero, List.length_cons, List.length_nil, Nat.reduceAdd]
      rw [if_pos (by omega)] at h; exact aret_sub hs h
    · have c' : ¬ (4000 : Int) < tot ps := by omega
      simp only [c', og_some', onr_ret, gval_true, gval_false, pickV_true, pickV_false, apick_true, apick_false, gpick_true, gpick_false, ibin_leq, ibin_geq, ibin_lss, ibin_gtr, ibin_eql, ibin_neq, sbin_eql, sbin_neq, aun_not, Bool.not_true, Bool.not_false, decide_true, decide_false, if_true, if_false, Bool.false_eq_true, fldA_ptr, fldA_rop, anil_ptr, lenStr_str, amm_max, amm_min, Nat.zero_add, Nat.add_zero, List.length_cons, List.length_nil, Nat.reduceAdd]
      rw [if_neg (by omega)] at h; exact aret_sub hs h
end Go.Proofs.Ytjfdgijgkbojnaa.E
/- SegsFault, DepthSegs. -/
set_option linter.unusedSectionVars false
set_option linter.unusedSimpArgs false
set_option linter.unusedVariables false
namespace Go.Proofs.Ytjfdgijgkbojnaa.E
open Go Go.RowKit
variable [Lam]
variable {σ : AH} {R : AEnd → AH → Prop}
theorem c_laws_toSegs_ro {p : AV} {size : Int} {ps : List (List Int)} (hS : Ps σ p ps) (hl : ps.length ≤ 1099511627776) (hm : ∀ p, p ∈ ps → p.length ≤ 1099511627776)
    (h : R (.ret (roG size ps)) σ) : acall TP fn_laws_toSegs [.agg [iv size, p]] σ R := by
  refine acall_imp (Q := fun e σ' => ∃ v, e = .ret (.agg [iv size, v]) ∧ AH.Sub σ σ' ∧ Ps (dif σ σ') v ps) (c_laws_toSegs hS hl hm fun v σ' qs h1 hq h2 => ⟨v, rfl, h1, hq ▸ h2.ps⟩) ?_
  rintro e σ' ⟨v, rfl, h1, h2⟩
  exact ⟨_, rfl, _, σ, imp_freeze h1 (.agg2 (.same _) h2.fz), h⟩
theorem tot_mem {ps : List (List Int)} {n : Nat} (h : tot ps ≤ n) : ∀ p, p ∈ ps → p.length ≤ n := by
  intro p hp
  obtain ⟨i, hi, rfl⟩ := List.getElem_of_mem hp
  have := tot_at ps hi; omega
theorem c_laws_FnExactSegsFault {size : Int} {ps : List (List Int)} (hl : ps.length ≤ maxLen) (hm : ∀ p, p ∈ ps → p.length ≤ maxLen)
    (h : R (.ret (bv true)) σ) : acall TP fn_laws_FnExactSegsFault [roG size ps] σ R := by
  refine s_laws_FnExactSegsFault_ok ?_
  unfold s_laws_FnExactSegsFault
  simp only [abox_agg, og_some', onr_ret, gval_true, gval_false, pickV_true, pickV_false, apick_true, apick_false, gpick_true, gpick_false, ibin_leq, ibin_geq, ibin_lss, ibin_gtr, ibin_eql, ibin_neq, sbin_eql, sbin_neq, aun_not, Bool.not_true, Bool.not_false, decide_true, decide_false, if_true, if_false, Bool.false_eq_true, fldA_ptr, fldA_rop, anil_ptr, lenStr_str, amm_max, amm_min, Nat.zero_add, Nat.add_zero, List.length_cons, List.length_nil, Nat.reduceAdd]
  intro φ hφ
  have hs : AH.Sub σ (σ.set φ ⟨0, 2, [[iv size, roP ps]]⟩) := sub_set (.refl σ) hφ
  have hF : (σ.set φ ⟨0, 2, [[iv size, roP ps]]⟩) φ = some ⟨0, 2, [[iv size, roP ps]]⟩ := AH.set_same ..
  generalize hσ1 : σ.set φ ⟨0, 2, [[iv size, roP ps]]⟩ = σ1 at hs hF ⊢
  have e := lodA_at (st := 0) (i := 0) (n := 2) (cs := [iv size, roP ps]) hF rfl rfl rfl
  simp only [e, og_some', onr_ret, gval_true, gval_false, pickV_true, pickV_false, apick_true, apick_false, gpick_true, gpick_false, ibin_leq, ibin_geq, ibin_lss, ibin_gtr, ibin_eql, ibin_neq, sbin_eql, sbin_neq, aun_not, Bool.not_true, Bool.not_false, decide_true, decide_false, if_true, if_false, Bool.false_eq_true, fldA_ptr, fldA_rop, anil_ptr, lenStr_str, amm_max, amm_min, Nat.zero_add, Nat.add_zero, List.length_cons, List.length_nil, Nat.reduceAdd]
  refine c_laws_szSegs (Ps.ro ..) (by omega) (by omega) hl hm fun r r0 r1 r2 => ?_
  simp only [og_some', onr_ret, gval_true, gval_false, pickV_true, pickV_false, apick_true, apick_false, gpick_true, gpick_false, ibin_leq, ibin_geq, ibin_lss, ibin_gtr, ibin_eql, ibin_neq, sbin_eql, sbin_neq, aun_not, Bool.not_true, Bool.not_false, decide_true, decide_false, if_true, if_false, Bool.false_eq_true, fldA_ptr, fldA_rop, anil_ptr, lenStr_str, amm_max, amm_min, Nat.zero_add, Nat.add_zero, List.length_cons, List.length_nil, Nat.reduceAdd]
  by_cases c1 : r < 0
  · simp only [c1, og_some', onr_ret, gval_true, gval_false, pickV_true, pickV_false, apick_true, apick_false, gpick_true, gpick_false, ibin_leq, ibin_geq, ibin_lss, ibin_gtr, ibin_eql, ibin_neq, sbin_eql, sbin_neq, aun_not, Bool.not_true, Bool.not_false, decide_true, decide_false, if_true, if_false, Bool.false_eq_true, fldA_ptr, fldA_rop, anil_ptr, lenStr_str, amm_max, amm_min, Nat.zero_add, Nat.add_zero, List.length_cons, List.length_nil, Nat.reduceAdd]; exact aret_sub hs h
  simp only [c1, e, og_some', onr_ret, gval_true, gval_false, pickV_true, pickV_false, apick_true, apick_false, gpick_true, gpick_false, ibin_leq, ibin_geq, ibin_lss, ibin_gtr, ibin_eql, ibin_neq, sbin_eql, sbin_neq, aun_not, Bool.not_true, Bool.not_false, decide_true, decide_false, if_true, if_false, Bool.false_eq_true, fldA_ptr, fldA_rop, anil_ptr, lenStr_str, amm_max, amm_min, Nat.zero_add, Nat.add_zero, List.length_cons, List.length_nil, Nat.reduceAdd]
  have b1 : ps.length ≤ 1099511627776 := by omega
  have b2 : ∀ p, p ∈ ps → p.length ≤ 1099511627776 := tot_mem (by omega)
  have b3 : ps.length + tot ps ≤ 1099511627776 := by omega
  refine c_laws_toSegs_ro (Ps.ro ..) b1 b2 ?_
  simp only [og_some', onr_ret, gval_true, gval_false, pickV_true, pickV_false, apick_true, apick_false, gpick_true, gpick_false, ibin_leq, ibin_geq, ibin_lss, ibin_gtr, ibin_eql, ibin_neq, sbin_eql, sbin_neq, aun_not, Bool.not_true, Bool.not_false, decide_true, decide_false, if_true, if_false, Bool.false_eq_true, fldA_ptr, fldA_rop, anil_ptr, lenStr_str, amm_max, amm_min, Nat.zero_add, Nat.add_zero, List.length_cons, List.length_nil, Nat.reduceAdd]
  refine c_spec_SegsFault (Ps.ro ..) b3 ?_
  simp only [e, og_some', onr_ret, gval_true, gval_false, pickV_true, pickV_false, apick_true, apick_false, gpick_true, gpick_false, ibin_leq, ibin_geq, ibin_lss, ibin_gtr, ibin_eql, ibin_neq, sbin_eql, sbin_neq, aun_not, Bool.not_true, Bool.not_false, decide_true, decide_false, if_true, if_false, Bool.false_eq_true, fldA_ptr, fldA_rop, anil_ptr, lenStr_str, amm_max, amm_min, Nat.zero_add, Nat.add_zero, List.length_cons, List.length_nil, Nat.reduceAdd]
  refine c_laws_toSegs_ro (Ps.ro ..) b1 b2 ?_
  simp only [new_eq, og_some', onr_ret, gval_true, gval_false, pickV_true, pickV_false, apick_true, apick_false, gpick_true, gpick_false, ibin_leq, ibin_geq, ibin_lss, ibin_gtr, ibin_eql, ibin_neq, sbin_eql, sbin_neq, aun_not, Bool.not_true, Bool.not_false, decide_true, decide_false, if_true, if_false, Bool.false_eq_true, fldA_ptr, fldA_rop, anil_ptr, lenStr_str, amm_max, amm_min, Nat.zero_add, Nat.add_zero, List.length_cons, List.length_nil, Nat.reduceAdd]
  intro ψ hψ
  have hne : ψ ≠ φ := by rintro rfl; rw [hF] at hψ; cases hψ
  refine sto_own (es := [[iv 0, nilS]]) (cs := [iv size, roP ps]) (AH.set_same ..) (by simp) (by simp) rfl rfl (by simp [AV.one, Value.oneCell']) ?_
  simp only [List.set_cons_zero, AH.set_set]
  have hs2 : AH.Sub σ1 (σ1.set ψ ⟨0, 2, [[iv size, roP ps]]⟩) := sub_set (.refl _) hψ
  have e' := lodA_at (st := 0) (i := 0) (n := 2) (cs := [iv size, roP ps]) (hs2.at hF) rfl rfl rfl
  have e2 := lodA_at (σ := σ1.set ψ ⟨0, 2, [[iv size, roP ps]]⟩) (φ := ψ) (st := 0) (i := 0) (n := 2) (cs := [iv size, roP ps]) (AH.set_same ..) rfl rfl rfl
  simp only [e2, og_some', onr_ret, gval_true, gval_false, pickV_true, pickV_false, apick_true, apick_false, gpick_true, gpick_false, ibin_leq, ibin_geq, ibin_lss, ibin_gtr, ibin_eql, ibin_neq, sbin_eql, sbin_neq, aun_not, Bool.not_true, Bool.not_false, decide_true, decide_false, if_true, if_false, Bool.false_eq_true, fldA_ptr, fldA_rop, anil_ptr, lenStr_str, amm_max, amm_min, Nat.zero_add, Nat.add_zero, List.length_cons, List.length_nil, Nat.reduceAdd]
  refine c_impl_SegsFault (Ps.ro ..) b3 ?_
  simp only [e', e2, og_some', onr_ret, gval_true, gval_false, pickV_true, pickV_false, apick_true, apick_false, gpick_true, gpick_false, ibin_leq, ibin_geq, ibin_lss, ibin_gtr, ibin_eql, ibin_neq, sbin_eql, sbin_neq, aun_not, Bool.not_true, Bool.not_false, decide_true, decide_false, if_true, if_false, Bool.false_eq_true, fldA_ptr, fldA_rop, anil_ptr, lenStr_str, amm_max, amm_min, Nat.zero_add, Nat.add_zero, List.length_cons, List.length_nil, Nat.reduceAdd]
  refine c_laws_toSegs_ro (Ps.ro ..) b1 b2 ?_
  simp only [e2, true_and, og_some', onr_ret, gval_true, gval_false, pickV_true, pickV_false, apick_true, apick_false, gpick_true, gpick_false, ibin_leq, ibin_geq, ibin_lss, ibin_gtr, ibin_eql, ibin_neq, sbin_eql, sbin_neq, aun_not, Bool.not_true, Bool.not_false, decide_true, decide_false, if_true, if_false, Bool.false_eq_true, fldA_ptr, fldA_rop, anil_ptr, lenStr_str, amm_max, amm_min, Nat.zero_add, Nat.add_zero, List.length_cons, List.length_nil, Nat.reduceAdd]
  refine c_laws_eqSegs (Ps.ro ..) (Ps.ro ..) b1 b2 ?_
  simp only [Bool.and_self, true_and, og_some', onr_ret, gval_true, gval_false, pickV_true, pickV_false, apick_true, apick_false, gpick_true, gpick_false, ibin_leq, ibin_geq, ibin_lss, ibin_gtr, ibin_eql, ibin_neq, sbin_eql, sbin_neq, aun_not, Bool.not_true, Bool.not_false, decide_true, decide_false, if_true, if_false, Bool.false_eq_true, fldA_ptr, fldA_rop, anil_ptr, lenStr_str, amm_max, amm_min, Nat.zero_add, Nat.add_zero, List.length_cons, List.length_nil, Nat.reduceAdd]
  exact aret_sub (hs.trans hs2) h

/-! ### depth -/
def lastLen : List (List Int) → Nat
  | [] => 0
  | [p] => p.length
  | _ :: ps => lastLen ps
theorem okAt_tail {size : Int} {p : List Int} {ps : List (List Int)} (h : OkP size (p :: ps)) : OkP size ps := by
  intro i hi
  have := h (i + 1) (by simpa using hi)
  simpa using this
theorem tot_ok {size : Int} : ∀ {ps : List (List Int)}, OkP size ps → ps ≠ [] → (tot ps : Int) = ((ps.length : Int) - 1) * size + lastLen ps := by
  intro ps
  induction ps with
  | nil => intro _ h; exact absurd rfl h
  | cons p ps ih =>
    intro h _
    cases ps with
    | nil => simp [tot, lastLen]
    | cons q ps =>
      have h1 := ih (okAt_tail h) (by simp)
      have h2 := (h 0 (by simp)).2.2 (by simp)
      simp only [List.getElem_cons_zero] at h2
      have e1 : (((p :: q :: ps).length : Int) - 1) * size = (((q :: ps).length : Int) - 1) * size + size := by
        have : ((p :: q :: ps).length : Int) - 1 = (((q :: ps).length : Int) - 1) + 1 := by simp
        rw [this, Int.add_mul, Int.one_mul]
      have e2 : (tot (p :: q :: ps) : Int) = p.length + tot (q :: ps) := by simp [tot]
      rw [e1, e2, h1, h2]
      simp only [lastLen]
      omega
theorem lastLen_eq : ∀ {ps : List (List Int)} (h : ps.length - 1 < ps.length), lastLen ps = (ps[ps.length - 1]).length := by
  intro ps
  induction ps with
  | nil => intro h; simp at h
  | cons p ps ih =>
    intro h
    cases ps with
    | nil => rfl
    | cons q ps =>
      have := ih (by simp)
      simp only [lastLen, this]
      congr 1
theorem seg_ok {size : Int} {ps : List (List Int)} (h : segF size ps = 0) : (1 ≤ size ∧ size ≤ 64) ∧ OkP size ps ∧ tot ps ≤ 4000 := by
  unfold segF at h
  split at h
  · split at h
    · split at h
      · cases h
      · exact ⟨‹_›, ‹_›, by omega⟩
    · cases h
  · cases h
theorem c_spec_l12Depth {φ : Nat} {size : Int} {p : AV} {ps : List (List Int)} (hF : σ φ = some ⟨0, 2, [[iv size, p]]⟩) (hP : Ps σ p ps) (hsz : 1 ≤ size ∧ size ≤ 64) (hO : OkP size ps) (hb : ps.length + tot ps ≤ 1099511627776)
    (h : R (.ret (iv (tot ps))) σ) : acall TP fn_spec_l12Depth [.ptr φ 0 0 0] σ R := by
  refine s_spec_l12Depth_ok ?_
  unfold s_spec_l12Depth
  have e0 := lod_at (st := 0) (i := 0) (off := 0) (c := iv size) hF rfl rfl
  have e1 := lod_at (st := 0) (i := 0) (off := 1) (c := p) hF rfl rfl
  simp only [e0, e1, hP.len, og_some', onr_ret, gval_true, gval_false, pickV_true, pickV_false, apick_true, apick_false, gpick_true, gpick_false, ibin_leq, ibin_geq, ibin_lss, ibin_gtr, ibin_eql, ibin_neq, sbin_eql, sbin_neq, aun_not, Bool.not_true, Bool.not_false, decide_true, decide_false, if_true, if_false, Bool.false_eq_true, fldA_ptr, fldA_rop, anil_ptr, lenStr_str, amm_max, amm_min, Nat.zero_add, Nat.add_zero, List.length_cons, List.length_nil, Nat.reduceAdd]
  by_cases c : ps = []
  · subst c
    have : (([] : List (List Int)).length : Int) = 0 := rfl
    simp only [this, og_some', onr_ret, gval_true, gval_false, pickV_true, pickV_false, apick_true, apick_false, gpick_true, gpick_false, ibin_leq, ibin_geq, ibin_lss, ibin_gtr, ibin_eql, ibin_neq, sbin_eql, sbin_neq, aun_not, Bool.not_true, Bool.not_false, decide_true, decide_false, if_true, if_false, Bool.false_eq_true, fldA_ptr, fldA_rop, anil_ptr, lenStr_str, amm_max, amm_min, Nat.zero_add, Nat.add_zero, List.length_cons, List.length_nil, Nat.reduceAdd]
    exact ret_here h
  · have hpos : 0 < ps.length := List.length_pos_iff.2 c
    have c' : ¬ ((ps.length : Int) = 0) := by omega
    have hT := tot_ok hO c
    have hlt : ps.length - 1 < ps.length := by omega
    have hi : ((ps.length - 1 : Nat) : Int) = (ps.length : Int) - 1 := by omega
    obtain ⟨v, q, v', hp, hq, hf, hl, hN⟩ := hP.at hlt
    rw [hi] at hp
    have hL := lastLen_eq hlt
    have hmul : 0 ≤ ((ps.length : Int) - 1) * size := Int.mul_nonneg (by omega) (by omega)
    have s1 := ibin_sub (a := ps.length) (b := 1) (by omega) (by omega)
    have s2 := ibin_mul (a := (ps.length : Int) - 1) (b := size) (by omega) (by omega)
    have s3 : ibin .add (.val (.int .i64 (((ps.length : Int) - 1) * size))) (.val (.int .i64 ((ps[ps.length - 1]).length : Nat))) = some (.val (.int .i64 (tot ps : Nat))) := by
      rw [ibin_add (by omega) (by omega), hT, hL]
    simp only [c', s1, s2, hp, hf, hl, hN.len, s3, og_some', onr_ret, gval_true, gval_false, pickV_true, pickV_false, apick_true, apick_false, gpick_true, gpick_false, ibin_leq, ibin_geq, ibin_lss, ibin_gtr, ibin_eql, ibin_neq, sbin_eql, sbin_neq, aun_not, Bool.not_true, Bool.not_false, decide_true, decide_false, if_true, if_false, Bool.false_eq_true, fldA_ptr, fldA_rop, anil_ptr, lenStr_str, amm_max, amm_min, Nat.zero_add, Nat.add_zero, List.length_cons, List.length_nil, Nat.reduceAdd]
    exact ret_here h
theorem flat_take (ps : List (List Int)) {i : Nat} (hi : i < ps.length) : (ps.take (i + 1)).flatten = (ps.take i).flatten ++ ps[i] := by
  rw [List.take_succ_eq_append_getElem hi, List.flatten_append]; simp
theorem c_impl_Segs_items {size : Int} {p : AV} {ps : List (List Int)} (hP : Ps σ p ps) (hb : ps.length + tot ps ≤ 1099511627776) (hb2 : tot ps ≤ 4294967296)
    (h : ∀ v σ', AH.Sub σ σ' → Buf (dif σ σ') 1 v (ps.flatten.map fun x => [iv x]) → R (.ret v) σ') : acall TP fn_impl_Segs_items [.agg [iv size, p]] σ R := by
  refine s_impl_Segs_items_ok ?_
  unfold s_impl_Segs_items
  simp only [abox_agg, og_some', onr_ret, gval_true, gval_false, pickV_true, pickV_false, apick_true, apick_false, gpick_true, gpick_false, ibin_leq, ibin_geq, ibin_lss, ibin_gtr, ibin_eql, ibin_neq, sbin_eql, sbin_neq, aun_not, Bool.not_true, Bool.not_false, decide_true, decide_false, if_true, if_false, Bool.false_eq_true, fldA_ptr, fldA_rop, anil_ptr, lenStr_str, amm_max, amm_min, Nat.zero_add, Nat.add_zero, List.length_cons, List.length_nil, Nat.reduceAdd]
  intro φ1 h1
  have hs : AH.Sub σ (σ.set φ1 ⟨0, 2, [[iv size, p]]⟩) := sub_set (.refl σ) h1
  have hF : (σ.set φ1 ⟨0, 2, [[iv size, p]]⟩) φ1 = some ⟨0, 2, [[iv size, p]]⟩ := AH.set_same ..
  generalize hσ1 : σ.set φ1 ⟨0, 2, [[iv size, p]]⟩ = σ1 at hs hF ⊢
  refine ⟨by decide, fun φ hφ => ?_⟩
  have hs2 : AH.Sub σ1 (σ1.set φ ⟨0, 1, []⟩) := sub_set (.refl _) hφ
  have e1 := lod_at (st := 0) (i := 0) (off := 1) (c := p) (hs2.at hF) rfl rfl
  have hP2 := (hP.sub hs).sub hs2
  simp only [List.replicate_zero, e1, hP2.len, og_some', onr_ret, gval_true, gval_false, pickV_true, pickV_false, apick_true, apick_false, gpick_true, gpick_false, ibin_leq, ibin_geq, ibin_lss, ibin_gtr, ibin_eql, ibin_neq, sbin_eql, sbin_neq, aun_not, Bool.not_true, Bool.not_false, decide_true, decide_false, if_true, if_false, Bool.false_eq_true, fldA_ptr, fldA_rop, anil_ptr, lenStr_str, amm_max, amm_min, Nat.zero_add, Nat.add_zero, List.length_cons, List.length_nil, Nat.reduceAdd]
  refine lp_rel ps.length (fun i x σi => ∃ a, x = (a, p, iv ps.length, iv i, ()) ∧ AH.Sub σ1 σi ∧ Buf σi 1 a ((ps.take i).flatten.map fun x => [iv x]) ∧ ∀ ψ, Buf.fam a ψ → σ1 ψ = none) ?_ ?_
  · refine ⟨_, rfl, hs2, .inr ⟨φ, 0, by simp, by simp⟩, ?_⟩
    rintro ψ ⟨_, _, _, e⟩
    cases e; exact hφ
  rintro i x σi hi ⟨a, rfl, k1, k2, k3⟩ R' hR'
  have hPi := (hP.sub hs).sub k1
  by_cases hlt : i < ps.length
  · have g0 : (i : Int) < ps.length := by omega
    obtain ⟨v, q, v', hp, hq, hf, hl, hN⟩ := hPi.at hlt
    have hT2 := tot_at ps hlt
    simp only [g0, hp, hq, new_eq, og_some', onr_ret, gval_true, gval_false, pickV_true, pickV_false, apick_true, apick_false, gpick_true, gpick_false, ibin_leq, ibin_geq, ibin_lss, ibin_gtr, ibin_eql, ibin_neq, sbin_eql, sbin_neq, aun_not, Bool.not_true, Bool.not_false, decide_true, decide_false, if_true, if_false, Bool.false_eq_true, fldA_ptr, fldA_rop, anil_ptr, lenStr_str, amm_max, amm_min, Nat.zero_add, Nat.add_zero, List.length_cons, List.length_nil, Nat.reduceAdd]
    intro ψ hψ
    have hN1 := hN.one
    refine sto_own (es := [[nilS]]) (cs := [q]) (AH.set_same ..) (by simp) (by simp) rfl rfl (by simpa using hN1.2) ?_
    simp only [List.set_cons_zero, AH.set_set]
    have hs3 : AH.Sub σi (σi.set ψ ⟨0, 1, [[q]]⟩) := sub_set (.refl _) hψ
    have eq := lod_at (σ := σi.set ψ ⟨0, 1, [[q]]⟩) (φ := ψ) (st := 0) (i := 0) (off := 0) (c := q) (AH.set_same ..) rfl rfl
    simp only [eq, og_some', onr_ret, gval_true, gval_false, pickV_true, pickV_false, apick_true, apick_false, gpick_true, gpick_false, ibin_leq, ibin_geq, ibin_lss, ibin_gtr, ibin_eql, ibin_neq, sbin_eql, sbin_neq, aun_not, Bool.not_true, Bool.not_false, decide_true, decide_false, if_true, if_false, Bool.false_eq_true, fldA_ptr, fldA_rop, anil_ptr, lenStr_str, amm_max, amm_min, Nat.zero_add, Nat.add_zero, List.length_cons, List.length_nil, Nat.reduceAdd]
    generalize hσ5 : σi.set ψ ⟨0, 1, [[q]]⟩ = σ5 at hs3 ⊢
    have hfl : ((ps.take i).flatten.map fun x => [iv x]).length + (ps[i].map fun x => [iv x]).length ≤ 4294967296 := by
      simp only [List.length_map, tot_flatten]; omega
    refine Buf.app (k2.sub hs3) (Sl.elems (hN.sub hs3)) (by intro c hc; obtain ⟨x, _, rfl⟩ := List.mem_map.1 hc; rfl) (by intro c hc; obtain ⟨x, _, rfl⟩ := List.mem_map.1 hc; intro y hy; simp at hy; subst hy; rfl) hfl ?_
    intro a' σ' b1 b2 b3 b4
    rw [← List.map_append, ← flat_take ps hlt] at b1
    simp only [ibin_up hlt (by omega), og_some', onr_ret, gval_true, gval_false, pickV_true, pickV_false, apick_true, apick_false, gpick_true, gpick_false, ibin_leq, ibin_geq, ibin_lss, ibin_gtr, ibin_eql, ibin_neq, sbin_eql, sbin_neq, aun_not, Bool.not_true, Bool.not_false, decide_true, decide_false, if_true, if_false, Bool.false_eq_true, fldA_ptr, fldA_rop, anil_ptr, lenStr_str, amm_max, amm_min, Nat.zero_add, Nat.add_zero, List.length_cons, List.length_nil, Nat.reduceAdd]
    refine hR' _ _ _ hlt (.refl _) ⟨a', rfl, ?_, b1, ?_⟩
    · intro χ F hχ
      have hn : ¬ Buf.fam a χ := fun hf => by rw [k3 χ hf] at hχ; cases hχ
      have hx := (k1.trans hs3) χ F hχ
      rw [b2 χ hn (by rw [hx]; simp)]; exact hx
    · intro χ hχ
      rcases b3 χ hχ with hf | hn
      · exact k3 χ hf
      · exact (k1.trans hs3).none hn
  · have g0 : ¬ (i : Int) < ps.length := by omega
    obtain rfl : i = ps.length := by omega
    simp only [g0, og_some', onr_ret, gval_true, gval_false, pickV_true, pickV_false, apick_true, apick_false, gpick_true, gpick_false, ibin_leq, ibin_geq, ibin_lss, ibin_gtr, ibin_eql, ibin_neq, sbin_eql, sbin_neq, aun_not, Bool.not_true, Bool.not_false, decide_true, decide_false, if_true, if_false, Bool.false_eq_true, fldA_ptr, fldA_rop, anil_ptr, lenStr_str, amm_max, amm_min, Nat.zero_add, Nat.add_zero, List.length_cons, List.length_nil, Nat.reduceAdd]
    rw [List.take_length] at k2
    exact ret_here (h a σi (hs.trans k1) (k2.dif fun ψ hψ => hs.none (k3 ψ hψ)))
noncomputable def depR (size : Int) (ps : List (List Int)) : Int × Int := if segF size ps = 0 then (0, tot ps) else (segF size ps, 0)
theorem c_spec_DepthSegs {size : Int} {p : AV} {ps : List (List Int)} (hP : Ps σ p ps) (hb : ps.length + tot ps ≤ 1099511627776)
    (h : R (.ret (intR (depR size ps).1 (depR size ps).2)) σ) : acall TP fn_spec_DepthSegs [.agg [iv size, p]] σ R := by
  refine s_spec_DepthSegs_ok ?_
  unfold s_spec_DepthSegs
  simp only [abox_agg, new_eq, og_some', onr_ret, gval_true, gval_false, pickV_true, pickV_false, apick_true, apick_false, gpick_true, gpick_false, ibin_leq, ibin_geq, ibin_lss, ibin_gtr, ibin_eql, ibin_neq, sbin_eql, sbin_neq, aun_not, Bool.not_true, Bool.not_false, decide_true, decide_false, if_true, if_false, Bool.false_eq_true, fldA_ptr, fldA_rop, anil_ptr, lenStr_str, amm_max, amm_min, Nat.zero_add, Nat.add_zero, List.length_cons, List.length_nil, Nat.reduceAdd]
  intro φ hφ ψ hψ
  simp only [AH.set_none] at hψ
  obtain ⟨hne, hψ⟩ := hψ
  have hs : AH.Sub σ ((σ.set φ ⟨0, 2, [[iv size, p]]⟩).set ψ ⟨0, 2, [[iv 0, iv 0]]⟩) := sub_set (sub_set (.refl σ) hφ) hψ
  have hF : ((σ.set φ ⟨0, 2, [[iv size, p]]⟩).set ψ ⟨0, 2, [[iv 0, iv 0]]⟩) φ = some ⟨0, 2, [[iv size, p]]⟩ := by rw [AH.set_ne' (Ne.symm hne), AH.set_same]
  have fin : ∀ c v : Int, (c, v) = depR size ps → sto 2 (.ptr ψ 0 0 0) (.agg [iv c, iv v]) ((σ.set φ ⟨0, 2, [[iv size, p]]⟩).set ψ ⟨0, 2, [[iv 0, iv 0]]⟩) fun σ => og (lodA 2 (.ptr ψ 0 0 0) σ) fun r4 => aret r4 σ R := by
    intro c v e
    rw [← e] at h
    refine sto_own (AH.set_same ..) (by simp) (by simp) rfl rfl (by simp [AV.one, Value.oneCell']) ?_
    simp [lodA, acellsAt]
    exact aret_sub (sub_set (sub_set (.refl σ) hφ) hψ) h
  refine c_spec_l12Fault hF (hP.sub hs) hb ?_
  simp only [og_some', onr_ret, gval_true, gval_false, pickV_true, pickV_false, apick_true, apick_false, gpick_true, gpick_false, ibin_leq, ibin_geq, ibin_lss, ibin_gtr, ibin_eql, ibin_neq, sbin_eql, sbin_neq, aun_not, Bool.not_true, Bool.not_false, decide_true, decide_false, if_true, if_false, Bool.false_eq_true, fldA_ptr, fldA_rop, anil_ptr, lenStr_str, amm_max, amm_min, Nat.zero_add, Nat.add_zero, List.length_cons, List.length_nil, Nat.reduceAdd]
  by_cases c : segF size ps = 0
  · simp only [c, og_some', onr_ret, gval_true, gval_false, pickV_true, pickV_false, apick_true, apick_false, gpick_true, gpick_false, ibin_leq, ibin_geq, ibin_lss, ibin_gtr, ibin_eql, ibin_neq, sbin_eql, sbin_neq, aun_not, Bool.not_true, Bool.not_false, decide_true, decide_false, if_true, if_false, Bool.false_eq_true, fldA_ptr, fldA_rop, anil_ptr, lenStr_str, amm_max, amm_min, Nat.zero_add, Nat.add_zero, List.length_cons, List.length_nil, Nat.reduceAdd]
    obtain ⟨o1, o2, o3⟩ := seg_ok c
    refine c_spec_l12Depth hF (hP.sub hs) o1 o2 hb ?_
    simp only [bld2_1, og_some', onr_ret, gval_true, gval_false, pickV_true, pickV_false, apick_true, apick_false, gpick_true, gpick_false, ibin_leq, ibin_geq, ibin_lss, ibin_gtr, ibin_eql, ibin_neq, sbin_eql, sbin_neq, aun_not, Bool.not_true, Bool.not_false, decide_true, decide_false, if_true, if_false, Bool.false_eq_true, fldA_ptr, fldA_rop, anil_ptr, lenStr_str, amm_max, amm_min, Nat.zero_add, Nat.add_zero, List.length_cons, List.length_nil, Nat.reduceAdd]
    exact fin 0 _ (by simp [depR, c])
  · simp only [c, bld2_0, og_some', onr_ret, gval_true, gval_false, pickV_true, pickV_false, apick_true, apick_false, gpick_true, gpick_false, ibin_leq, ibin_geq, ibin_lss, ibin_gtr, ibin_eql, ibin_neq, sbin_eql, sbin_neq, aun_not, Bool.not_true, Bool.not_false, decide_true, decide_false, if_true, if_false, Bool.false_eq_true, fldA_ptr, fldA_rop, anil_ptr, lenStr_str, amm_max, amm_min, Nat.zero_add, Nat.add_zero, List.length_cons, List.length_nil, Nat.reduceAdd]
    exact fin _ 0 (by simp [depR, c])
theorem c_impl_DepthSegs {size : Int} {p : AV} {ps : List (List Int)} (hP : Ps σ p ps) (hb : ps.length + tot ps ≤ 1099511627776)
    (h : R (.ret (intR (depR size ps).1 (depR size ps).2)) σ) : acall TP fn_impl_DepthSegs [.agg [iv size, p]] σ R := by
  refine s_impl_DepthSegs_ok ?_
  unfold s_impl_DepthSegs
  simp only [abox_agg, new_eq, og_some', onr_ret, gval_true, gval_false, pickV_true, pickV_false, apick_true, apick_false, gpick_true, gpick_false, ibin_leq, ibin_geq, ibin_lss, ibin_gtr, ibin_eql, ibin_neq, sbin_eql, sbin_neq, aun_not, Bool.not_true, Bool.not_false, decide_true, decide_false, if_true, if_false, Bool.false_eq_true, fldA_ptr, fldA_rop, anil_ptr, lenStr_str, amm_max, amm_min, Nat.zero_add, Nat.add_zero, List.length_cons, List.length_nil, Nat.reduceAdd]
  intro φ hφ ψ hψ
  simp only [AH.set_none] at hψ
  obtain ⟨hne, hψ⟩ := hψ
  have hs : AH.Sub σ ((σ.set φ ⟨0, 2, [[iv size, p]]⟩).set ψ ⟨0, 2, [[iv 0, iv 0]]⟩) := sub_set (sub_set (.refl σ) hφ) hψ
  have hF : ((σ.set φ ⟨0, 2, [[iv size, p]]⟩).set ψ ⟨0, 2, [[iv 0, iv 0]]⟩) φ = some ⟨0, 2, [[iv size, p]]⟩ := by rw [AH.set_ne' (Ne.symm hne), AH.set_same]
  have hG : ((σ.set φ ⟨0, 2, [[iv size, p]]⟩).set ψ ⟨0, 2, [[iv 0, iv 0]]⟩) ψ = some ⟨0, 2, [[iv 0, iv 0]]⟩ := AH.set_same ..
  generalize hσ1 : (σ.set φ ⟨0, 2, [[iv size, p]]⟩).set ψ ⟨0, 2, [[iv 0, iv 0]]⟩ = σ1 at hs hF hG ⊢
  have fin : ∀ (c v : Int) (σ2 : AH), AH.Sub σ1 σ2 → (c, v) = depR size ps → sto 2 (.ptr ψ 0 0 0) (.agg [iv c, iv v]) σ2 fun σ => og (lodA 2 (.ptr ψ 0 0 0) σ) fun r4 => aret r4 σ R := by
    intro c v σ2 hs2 e
    rw [← e] at h
    refine sto_own (hs2.at hG) (by simp) (by simp) rfl rfl (by simp [AV.one, Value.oneCell']) ?_
    simp [lodA, acellsAt]
    exact aret_sub (sub_set (hs.trans hs2) hψ) h
  have e := lodA_at (st := 0) (i := 0) (n := 2) (cs := [iv size, p]) hF rfl rfl rfl
  simp only [e, og_some', onr_ret, gval_true, gval_false, pickV_true, pickV_false, apick_true, apick_false, gpick_true, gpick_false, ibin_leq, ibin_geq, ibin_lss, ibin_gtr, ibin_eql, ibin_neq, sbin_eql, sbin_neq, aun_not, Bool.not_true, Bool.not_false, decide_true, decide_false, if_true, if_false, Bool.false_eq_true, fldA_ptr, fldA_rop, anil_ptr, lenStr_str, amm_max, amm_min, Nat.zero_add, Nat.add_zero, List.length_cons, List.length_nil, Nat.reduceAdd]
  refine c_impl_SegsFault (hP.sub hs) hb ?_
  simp only [og_some', onr_ret, gval_true, gval_false, pickV_true, pickV_false, apick_true, apick_false, gpick_true, gpick_false, ibin_leq, ibin_geq, ibin_lss, ibin_gtr, ibin_eql, ibin_neq, sbin_eql, sbin_neq, aun_not, Bool.not_true, Bool.not_false, decide_true, decide_false, if_true, if_false, Bool.false_eq_true, fldA_ptr, fldA_rop, anil_ptr, lenStr_str, amm_max, amm_min, Nat.zero_add, Nat.add_zero, List.length_cons, List.length_nil, Nat.reduceAdd]
  by_cases c : segF size ps = 0
  · simp only [c, e, og_some', onr_ret, gval_true, gval_false, pickV_true, pickV_false, apick_true, apick_false, gpick_true, gpick_false, ibin_leq, ibin_geq, ibin_lss, ibin_gtr, ibin_eql, ibin_neq, sbin_eql, sbin_neq, aun_not, Bool.not_true, Bool.not_false, decide_true, decide_false, if_true, if_false, Bool.false_eq_true, fldA_ptr, fldA_rop, anil_ptr, lenStr_str, amm_max, amm_min, Nat.zero_add, Nat.add_zero, List.length_cons, List.length_nil, Nat.reduceAdd]
    obtain ⟨o1, o2, o3⟩ := seg_ok c
    refine c_impl_Segs_items (hP.sub hs) hb (by omega) fun v σ' k1 k2 => ?_
    simp only [k2.cs.len, bld2_1, og_some', onr_ret, gval_true, gval_false, pickV_true, pickV_false, apick_true, apick_false, gpick_true, gpick_false, ibin_leq, ibin_geq, ibin_lss, ibin_gtr, ibin_eql, ibin_neq, sbin_eql, sbin_neq, aun_not, Bool.not_true, Bool.not_false, decide_true, decide_false, if_true, if_false, Bool.false_eq_true, fldA_ptr, fldA_rop, anil_ptr, lenStr_str, amm_max, amm_min, Nat.zero_add, Nat.add_zero, List.length_cons, List.length_nil, Nat.reduceAdd]
    refine fin 0 _ σ' k1 ?_
    rw [tot_flatten]; simp [depR, c]
  · simp only [c, bld2_0, og_some', onr_ret, gval_true, gval_false, pickV_true, pickV_false, apick_true, apick_false, gpick_true, gpick_false, ibin_leq, ibin_geq, ibin_lss, ibin_gtr, ibin_eql, ibin_neq, sbin_eql, sbin_neq, aun_not, Bool.not_true, Bool.not_false, decide_true, decide_false, if_true, if_false, Bool.false_eq_true, fldA_ptr, fldA_rop, anil_ptr, lenStr_str, amm_max, amm_min, Nat.zero_add, Nat.add_zero, List.length_cons, List.length_nil, Nat.reduceAdd]
    exact fin _ 0 σ1 (.refl _) (by simp [depR, c])
theorem c_laws_FnExactDepthSegs {size : Int} {ps : List (List Int)} (hl : ps.length ≤ maxLen) (hm : ∀ p, p ∈ ps → p.length ≤ maxLen)
    (h : R (.ret (bv true)) σ) : acall TP fn_laws_FnExactDepthSegs [roG size ps] σ R := by
  refine s_laws_FnExactDepthSegs_ok ?_
  unfold s_laws_FnExactDepthSegs
  simp only [abox_agg, og_some', onr_ret, gval_true, gval_false, pickV_true, pickV_false, apick_true, apick_false, gpick_true, gpick_false, ibin_leq, ibin_geq, ibin_lss, ibin_gtr, ibin_eql, ibin_neq, sbin_eql, sbin_neq, aun_not, Bool.not_true, Bool.not_false, decide_true, decide_false, if_true, if_false, Bool.false_eq_true, fldA_ptr, fldA_rop, anil_ptr, lenStr_str, amm_max, amm_min, Nat.zero_add, Nat.add_zero, List.length_cons, List.length_nil, Nat.reduceAdd]
  intro φ hφ
  have hs : AH.Sub σ (σ.set φ ⟨0, 2, [[iv size, roP ps]]⟩) := sub_set (.refl σ) hφ
  have hF : (σ.set φ ⟨0, 2, [[iv size, roP ps]]⟩) φ = some ⟨0, 2, [[iv size, roP ps]]⟩ := AH.set_same ..
  generalize hσ1 : σ.set φ ⟨0, 2, [[iv size, roP ps]]⟩ = σ1 at hs hF ⊢
  have e := lodA_at (st := 0) (i := 0) (n := 2) (cs := [iv size, roP ps]) hF rfl rfl rfl
  simp only [e, og_some', onr_ret, gval_true, gval_false, pickV_true, pickV_false, apick_true, apick_false, gpick_true, gpick_false, ibin_leq, ibin_geq, ibin_lss, ibin_gtr, ibin_eql, ibin_neq, sbin_eql, sbin_neq, aun_not, Bool.not_true, Bool.not_false, decide_true, decide_false, if_true, if_false, Bool.false_eq_true, fldA_ptr, fldA_rop, anil_ptr, lenStr_str, amm_max, amm_min, Nat.zero_add, Nat.add_zero, List.length_cons, List.length_nil, Nat.reduceAdd]
  refine c_laws_szSegs (Ps.ro ..) (by omega) (by omega) hl hm fun r r0 r1 r2 => ?_
  simp only [og_some', onr_ret, gval_true, gval_false, pickV_true, pickV_false, apick_true, apick_false, gpick_true, gpick_false, ibin_leq, ibin_geq, ibin_lss, ibin_gtr, ibin_eql, ibin_neq, sbin_eql, sbin_neq, aun_not, Bool.not_true, Bool.not_false, decide_true, decide_false, if_true, if_false, Bool.false_eq_true, fldA_ptr, fldA_rop, anil_ptr, lenStr_str, amm_max, amm_min, Nat.zero_add, Nat.add_zero, List.length_cons, List.length_nil, Nat.reduceAdd]
  by_cases c1 : r < 0
  · simp only [c1, og_some', onr_ret, gval_true, gval_false, pickV_true, pickV_false, apick_true, apick_false, gpick_true, gpick_false, ibin_leq, ibin_geq, ibin_lss, ibin_gtr, ibin_eql, ibin_neq, sbin_eql, sbin_neq, aun_not, Bool.not_true, Bool.not_false, decide_true, decide_false, if_true, if_false, Bool.false_eq_true, fldA_ptr, fldA_rop, anil_ptr, lenStr_str, amm_max, amm_min, Nat.zero_add, Nat.add_zero, List.length_cons, List.length_nil, Nat.reduceAdd]; exact aret_sub hs h
  simp only [c1, e, og_some', onr_ret, gval_true, gval_false, pickV_true, pickV_false, apick_true, apick_false, gpick_true, gpick_false, ibin_leq, ibin_geq, ibin_lss, ibin_gtr, ibin_eql, ibin_neq, sbin_eql, sbin_neq, aun_not, Bool.not_true, Bool.not_false, decide_true, decide_false, if_true, if_false, Bool.false_eq_true, fldA_ptr, fldA_rop, anil_ptr, lenStr_str, amm_max, amm_min, Nat.zero_add, Nat.add_zero, List.length_cons, List.length_nil, Nat.reduceAdd]
  have b1 : ps.length ≤ 1099511627776 := by omega
  have b2 : ∀ p, p ∈ ps → p.length ≤ 1099511627776 := tot_mem (by omega)
  have b3 : ps.length + tot ps ≤ 1099511627776 := by omega
  refine c_laws_toSegs_ro (Ps.ro ..) b1 b2 ?_
  simp only [og_some', onr_ret, gval_true, gval_false, pickV_true, pickV_false, apick_true, apick_false, gpick_true, gpick_false, ibin_leq, ibin_geq, ibin_lss, ibin_gtr, ibin_eql, ibin_neq, sbin_eql, sbin_neq, aun_not, Bool.not_true, Bool.not_false, decide_true, decide_false, if_true, if_false, Bool.false_eq_true, fldA_ptr, fldA_rop, anil_ptr, lenStr_str, amm_max, amm_min, Nat.zero_add, Nat.add_zero, List.length_cons, List.length_nil, Nat.reduceAdd]
  refine c_spec_DepthSegs (Ps.ro ..) b3 ?_
  simp only [new_eq, og_some', onr_ret, gval_true, gval_false, pickV_true, pickV_false, apick_true, apick_false, gpick_true, gpick_false, ibin_leq, ibin_geq, ibin_lss, ibin_gtr, ibin_eql, ibin_neq, sbin_eql, sbin_neq, aun_not, Bool.not_true, Bool.not_false, decide_true, decide_false, if_true, if_false, Bool.false_eq_true, fldA_ptr, fldA_rop, anil_ptr, lenStr_str, amm_max, amm_min, Nat.zero_add, Nat.add_zero, List.length_cons, List.length_nil, Nat.reduceAdd]
  intro χ hχ
  refine sto_own (es := [[iv 0, iv 0]]) (cs := [iv (depR size ps).1, iv (depR size ps).2]) (AH.set_same ..) (by simp) (by simp) rfl rfl (by simp [AV.one, Value.oneCell']) ?_
  simp only [List.set_cons_zero, AH.set_set]
  have hsχ : AH.Sub σ1 (σ1.set χ ⟨0, 2, [[iv (depR size ps).1, iv (depR size ps).2]]⟩) := sub_set (.refl _) hχ
  have hχ1 : (σ1.set χ ⟨0, 2, [[iv (depR size ps).1, iv (depR size ps).2]]⟩) χ = some ⟨0, 2, [[iv (depR size ps).1, iv (depR size ps).2]]⟩ := AH.set_same ..
  generalize hσ2 : σ1.set χ ⟨0, 2, [[iv (depR size ps).1, iv (depR size ps).2]]⟩ = σ2 at hsχ hχ1 ⊢
  have e2 := lodA_at (st := 0) (i := 0) (n := 2) (cs := [iv size, roP ps]) (hsχ.at hF) rfl rfl rfl
  simp only [e2, og_some', onr_ret, gval_true, gval_false, pickV_true, pickV_false, apick_true, apick_false, gpick_true, gpick_false, ibin_leq, ibin_geq, ibin_lss, ibin_gtr, ibin_eql, ibin_neq, sbin_eql, sbin_neq, aun_not, Bool.not_true, Bool.not_false, decide_true, decide_false, if_true, if_false, Bool.false_eq_true, fldA_ptr, fldA_rop, anil_ptr, lenStr_str, amm_max, amm_min, Nat.zero_add, Nat.add_zero, List.length_cons, List.length_nil, Nat.reduceAdd]
  refine c_laws_toSegs_ro (Ps.ro ..) b1 b2 ?_
  simp only [new_eq, og_some', onr_ret, gval_true, gval_false, pickV_true, pickV_false, apick_true, apick_false, gpick_true, gpick_false, ibin_leq, ibin_geq, ibin_lss, ibin_gtr, ibin_eql, ibin_neq, sbin_eql, sbin_neq, aun_not, Bool.not_true, Bool.not_false, decide_true, decide_false, if_true, if_false, Bool.false_eq_true, fldA_ptr, fldA_rop, anil_ptr, lenStr_str, amm_max, amm_min, Nat.zero_add, Nat.add_zero, List.length_cons, List.length_nil, Nat.reduceAdd]
  intro ψ hψ
  refine sto_own (es := [[iv 0, nilS]]) (cs := [iv size, roP ps]) (AH.set_same ..) (by simp) (by simp) rfl rfl (by simp [AV.one, Value.oneCell']) ?_
  simp only [List.set_cons_zero, AH.set_set]
  have hs3 : AH.Sub σ2 (σ2.set ψ ⟨0, 2, [[iv size, roP ps]]⟩) := sub_set (.refl _) hψ
  have hψ3 : (σ2.set ψ ⟨0, 2, [[iv size, roP ps]]⟩) ψ = some ⟨0, 2, [[iv size, roP ps]]⟩ := AH.set_same ..
  generalize hσ3 : σ2.set ψ ⟨0, 2, [[iv size, roP ps]]⟩ = σ3 at hs3 hψ3 ⊢
  have e3 := lodA_at (st := 0) (i := 0) (n := 2) (cs := [iv size, roP ps]) hψ3 rfl rfl rfl
  simp only [e3, og_some', onr_ret, gval_true, gval_false, pickV_true, pickV_false, apick_true, apick_false, gpick_true, gpick_false, ibin_leq, ibin_geq, ibin_lss, ibin_gtr, ibin_eql, ibin_neq, sbin_eql, sbin_neq, aun_not, Bool.not_true, Bool.not_false, decide_true, decide_false, if_true, if_false, Bool.false_eq_true, fldA_ptr, fldA_rop, anil_ptr, lenStr_str, amm_max, amm_min, Nat.zero_add, Nat.add_zero, List.length_cons, List.length_nil, Nat.reduceAdd]
  refine c_impl_DepthSegs (Ps.ro ..) b3 ?_
  simp only [new_eq, og_some', onr_ret, gval_true, gval_false, pickV_true, pickV_false, apick_true, apick_false, gpick_true, gpick_false, ibin_leq, ibin_geq, ibin_lss, ibin_gtr, ibin_eql, ibin_neq, sbin_eql, sbin_neq, aun_not, Bool.not_true, Bool.not_false, decide_true, decide_false, if_true, if_false, Bool.false_eq_true, fldA_ptr, fldA_rop, anil_ptr, lenStr_str, amm_max, amm_min, Nat.zero_add, Nat.add_zero, List.length_cons, List.length_nil, Nat.reduceAdd]
  intro ω hω
  refine sto_own (es := [[iv 0, iv 0]]) (cs := [iv (depR size ps).1, iv (depR size ps).2]) (AH.set_same ..) (by simp) (by simp) rfl rfl (by simp [AV.one, Value.oneCell']) ?_
  simp only [List.set_cons_zero, AH.set_set]
  have hs4 : AH.Sub σ3 (σ3.set ω ⟨0, 2, [[iv (depR size ps).1, iv (depR size ps).2]]⟩) := sub_set (.refl _) hω
  have hω4 : (σ3.set ω ⟨0, 2, [[iv (depR size ps).1, iv (depR size ps).2]]⟩) ω = some ⟨0, 2, [[iv (depR size ps).1, iv (depR size ps).2]]⟩ := AH.set_same ..
  generalize hσ4 : σ3.set ω ⟨0, 2, [[iv (depR size ps).1, iv (depR size ps).2]]⟩ = σ4 at hs4 hω4 ⊢
  have e4 := lodA_at (st := 0) (i := 0) (n := 2) (cs := [iv (depR size ps).1, iv (depR size ps).2]) hω4 rfl rfl rfl
  have e5 := lodA_at (st := 0) (i := 0) (n := 2) (cs := [iv (depR size ps).1, iv (depR size ps).2]) ((hs3.trans hs4).at hχ1) rfl rfl rfl
  have e6 := lodA_at (st := 0) (i := 0) (n := 2) (cs := [iv size, roP ps]) (hs4.at hψ3) rfl rfl rfl
  have e7 := lodA_at (st := 0) (i := 0) (n := 2) (cs := [iv size, roP ps]) ((hsχ.trans (hs3.trans hs4)).at hF) rfl rfl rfl
  simp only [e4, e5, og_some', onr_ret, gval_true, gval_false, pickV_true, pickV_false, apick_true, apick_false, gpick_true, gpick_false, ibin_leq, ibin_geq, ibin_lss, ibin_gtr, ibin_eql, ibin_neq, sbin_eql, sbin_neq, aun_not, Bool.not_true, Bool.not_false, decide_true, decide_false, if_true, if_false, Bool.false_eq_true, fldA_ptr, fldA_rop, anil_ptr, lenStr_str, amm_max, amm_min, Nat.zero_add, Nat.add_zero, List.length_cons, List.length_nil, Nat.reduceAdd]
  refine c_laws_eqIntResult ?_
  simp only [Bool.and_self, e6, e7, og_some', onr_ret, gval_true, gval_false, pickV_true, pickV_false, apick_true, apick_false, gpick_true, gpick_false, ibin_leq, ibin_geq, ibin_lss, ibin_gtr, ibin_eql, ibin_neq, sbin_eql, sbin_neq, aun_not, Bool.not_true, Bool.not_false, decide_true, decide_false, if_true, if_false, Bool.false_eq_true, fldA_ptr, fldA_rop, anil_ptr, lenStr_str, amm_max, amm_min, Nat.zero_add, Nat.add_zero, List.length_cons, List.length_nil, Nat.reduceAdd]
  refine c_laws_toSegs_ro (Ps.ro ..) b1 b2 ?_
  simp only [e6, true_and, og_some', onr_ret, gval_true, gval_false, pickV_true, pickV_false, apick_true, apick_false, gpick_true, gpick_false, ibin_leq, ibin_geq, ibin_lss, ibin_gtr, ibin_eql, ibin_neq, sbin_eql, sbin_neq, aun_not, Bool.not_true, Bool.not_false, decide_true, decide_false, if_true, if_false, Bool.false_eq_true, fldA_ptr, fldA_rop, anil_ptr, lenStr_str, amm_max, amm_min, Nat.zero_add, Nat.add_zero, List.length_cons, List.length_nil, Nat.reduceAdd]
  refine c_laws_eqSegs (Ps.ro ..) (Ps.ro ..) b1 b2 ?_
  simp only [Bool.and_self, true_and, og_some', onr_ret, gval_true, gval_false, pickV_true, pickV_false, apick_true, apick_false, gpick_true, gpick_false, ibin_leq, ibin_geq, ibin_lss, ibin_gtr, ibin_eql, ibin_neq, sbin_eql, sbin_neq, aun_not, Bool.not_true, Bool.not_false, decide_true, decide_false, if_true, if_false, Bool.false_eq_true, fldA_ptr, fldA_rop, anil_ptr, lenStr_str, amm_max, amm_min, Nat.zero_add, Nat.add_zero, List.length_cons, List.length_nil, Nat.reduceAdd]
  exact aret_sub (hs.trans (hsχ.trans (hs3.trans hs4))) h
end Go.Proofs.Ytjfdgijgkbojnaa.E
