/- Lists of texts: copied, compared, measured; FirstApart. -/
import Derived.Test.YtjfdgijgkbojnaaE35
import Derived.Test.YtjfdgijgkbojnaaG1
set_option linter.unusedSectionVars false
set_option linter.unusedSimpArgs false
set_option linter.unusedVariables false
namespace Go.Proofs.Ytjfdgijgkbojnaa.E
open Go Go.RowKit
variable [Lam]
variable {σ : AH} {R : AEnd → AH → Prop}
abbrev Ss (σ : AH) (a : AV) (ss : List ByteArray) : Prop := Cs str σ a ss
abbrev roS (ss : List ByteArray) : AV := .ro (ss.map fun s => [str s])
def sizes : List ByteArray → Nat
  | [] => 0
  | s :: ss => s.size + sizes ss
theorem sizes_take (ss : List ByteArray) {i : Nat} (hi : i < ss.length) : sizes (ss.take (i + 1)) = sizes (ss.take i) + ss[i].size := by
  induction ss generalizing i with
  | nil => cases hi
  | cons s ss ih =>
    cases i with
    | zero => simp [sizes]
    | succ i =>
      have := ih (i := i) (by simpa using hi)
      simp only [List.take_succ_cons, sizes, this, List.getElem_cons_succ]; omega
theorem c_laws_szStringS {a : AV} {ss : List ByteArray} {L : Int} (hS : Ss σ a ss) (h0 : 0 ≤ L) (h1 : L ≤ 1048576) (hl : ss.length ≤ maxLen) (hm : ∀ s, s ∈ ss → s.size ≤ maxLen)
    (h : ∀ r : Int, -1 ≤ r → r ≤ L → (0 ≤ r → r + ss.length + sizes ss = L) → R (.ret (iv r)) σ) : acall TP fn_laws_szStringS [a, iv L] σ R := by
  have hM : maxLen = 9223372036854775807 := by decide
  refine s_laws_szStringS_ok ?_
  unfold s_laws_szStringS
  simp only [hS.len, og_some']
  rw [ibin_sub (by omega) (by omega)]
  simp only [og_some', ibin_lss]
  by_cases hc : L - ss.length < 0
  · simp only [hc, decide_true, apick_true]
    exact ret_here (h (-1) (by omega) (by omega) (by omega))
  simp only [hc, decide_false, apick_false]
  refine lp_same ss.length (fun i => (a, iv (L - ss.length - sizes (ss.take i)), iv i, ())) (fun i => (sizes (ss.take i) : Int) ≤ L - ss.length) (by simp [sizes, iv]; rfl) (by simp [sizes]; omega) ?_
  intro i hi hle R' hR'
  simp only [hS.len, og_some', ibin_lss]
  by_cases hlt : i < ss.length
  · have : (i : Int) < ss.length := by omega
    obtain ⟨p, hp, hq, _⟩ := hS.at hlt
    have hb := hm _ (List.getElem_mem hlt)
    have hT := sizes_take ss hlt
    simp only [this, decide_true, apick_true, hp, hq, og_some', lenStr_str]
    rw [ibin_sub (by omega) (by omega)]
    simp only [og_some', ibin_lss]
    by_cases hc : L - ss.length - sizes (ss.take i) - ss[i].size < 0
    · simp only [hc, decide_true, apick_true]
      exact ret_here (h (-1) (by omega) (by omega) (by omega))
    · simp only [hc, decide_false, apick_false]
      rw [ibin_up hlt (by omega)]
      simp only [og_some']
      have e : L - ss.length - sizes (ss.take i) - ss[i].size = L - ss.length - sizes (ss.take (i + 1)) := by omega
      rw [e]
      exact hR' hlt (by omega) _ (.refl _)
  · have : ¬ (i : Int) < ss.length := by omega
    simp only [this, decide_false, apick_false]
    obtain rfl : i = ss.length := by omega
    rw [List.take_length] at hle ⊢
    exact ret_here (h _ (by omega) (by omega) (by omega))
set_option maxRecDepth 100000 in
/-- Texts are copied; who gets them does not write into them. -/
theorem c_laws_toStringS {a : AV} {ss : List ByteArray} (hS : Ss σ a ss) (hl : ss.length ≤ 1099511627776) (h : R (.ret (roS ss)) σ) : acall TP fn_laws_toStringS [a] σ R := by
  refine s_laws_toStringS_ok ?_
  unfold s_laws_toStringS
  simp only [hS.len, og_some']
  refine mk_Ls (by omega) (by omega) (by omega) fun φ hφ => ?_
  simp only [Int.toNat_natCast]
  refine lp_for ss.length (fun i => (a, .own φ 0 0 ss.length, iv i, ())) (fun i σ' => σ' = σ.set φ ⟨0, 1, (ss.map fun s => [str s]).take i ++ List.replicate (ss.length - i) [.val (.string ⟨#[]⟩)]⟩) rfl (by simp) ?_
  rintro i _ hi rfl R' hR'
  have hs : AH.Sub σ (σ.set φ ⟨0, 1, (ss.map fun s => [str s]).take i ++ List.replicate (ss.length - i) [.val (.string ⟨#[]⟩)]⟩) := sub_set (.refl σ) hφ
  have hS' := hS.sub hs
  simp only [hS'.len, og_some', ibin_lss]
  have hml : (ss.map fun s => [str s]).length = ss.length := by simp
  by_cases hlt : i < ss.length
  · have : (i : Int) < ss.length := by omega
    obtain ⟨p, hp, hq, _⟩ := hS'.at hlt
    simp only [this, decide_true, apick_true, hp, hq, og_some']
    rw [idx_own (AH.set_same ..) hlt]
    simp only [og_some', Nat.zero_add]
    refine sto_own (cs := [str ss[i]]) (AH.set_same ..) (by rw [len_rep hml hi]; exact hlt) (by rw [getD_rep hml hlt]; rfl) rfl rfl (by simp [AV.one, Value.oneCell']) ?_
    rw [ibin_up hlt (by omega)]
    simp only [og_some', AH.set_set]
    have e := take_rep_set (z := [AV.val (.string ⟨#[]⟩)]) hml hlt
    simp only [List.getElem_map] at e
    rw [e]
    exact hR' hlt _ _ (.refl _) rfl
  · have : ¬ (i : Int) < ss.length := by omega
    simp only [this, decide_false, apick_false]
    obtain rfl : i = ss.length := by omega
    refine aret_freeze hs (.own (AH.set_same ..) hφ rfl (by simp) (by simp) (fun j hj => ?_) (fun j k hj hk => ?_)) h
    · simp [hj]
    · have hjs : (ss.map fun s => [str s]).getD j [] = [str ss[j]] := by simp [hj]
      simp [List.getD, hj]
      exact .same _
theorem c_laws_eqStringS {a b : AV} {ss ts : List ByteArray} (hS : Ss σ a ss) (hT : Ss σ b ts) (hl : ss.length ≤ 1099511627776) (h : R (.ret (bv (decide (ss = ts)))) σ) : acall TP fn_laws_eqStringS [a, b] σ R := by
  refine s_laws_eqStringS_ok ?_
  unfold s_laws_eqStringS
  simp only [hS.len, hT.len, og_some', ibin_neq]
  by_cases hc : ss.length = ts.length
  · have : ((ss.length : Int) = ts.length) := by omega
    simp only [this, decide_true, Bool.not_true, apick_false]
    refine lp_same ss.length (fun i => (a, b, iv i, ())) (fun i => ss.take i = ts.take i) rfl (by simp) ?_
    intro i hi he R' hR'
    simp only [hS.len, og_some', ibin_lss]
    by_cases hlt : i < ss.length
    · have : (i : Int) < ss.length := by omega
      obtain ⟨p, hp, hq, _⟩ := hS.at hlt
      obtain ⟨p', hp', hq', _⟩ := hT.at (hc ▸ hlt)
      simp only [this, decide_true, apick_true, hp, hq, hp', hq', og_some', sbin_neq]
      by_cases hx : ss[i] = ts[i]'(hc ▸ hlt)
      · simp only [hx, decide_true, Bool.not_true, apick_false]
        rw [ibin_up hlt (by omega)]
        simp only [og_some']
        refine hR' hlt ?_ _ (.refl _)
        rw [List.take_succ_eq_append_getElem hlt, List.take_succ_eq_append_getElem (hc ▸ hlt), he, hx]
      · simp only [hx, decide_false, Bool.not_false, apick_true]
        have : ¬ ss = ts := by rintro rfl; exact hx rfl
        refine ret_here ?_
        simpa [this] using h
    · have : ¬ (i : Int) < ss.length := by omega
      simp only [this, decide_false, apick_false]
      obtain rfl : i = ss.length := by omega
      have : ss = ts := by rw [List.take_length, hc, List.take_length] at he; exact he
      refine ret_here ?_
      simpa [this] using h
  · have : ¬ ((ss.length : Int) = ts.length) := by omega
    simp only [this, decide_false, Bool.not_false, apick_true]
    have : ¬ ss = ts := by rintro rfl; exact hc rfl
    refine ret_here ?_
    simpa [this] using h
abbrev intR (c v : Int) : AV := .agg [iv c, iv v]
theorem c_laws_eqIntResult {c v c' v' : Int} (h : R (.ret (bv (decide (c = c') && decide (v = v')))) σ) : acall TP fn_laws_eqIntResult [intR c v, intR c' v'] σ R := by
  refine s_laws_eqIntResult_ok ?_
  unfold s_laws_eqIntResult
  simp only [abox_agg]
  intro φ hφ ψ hψ
  simp only [AH.set_none] at hψ
  obtain ⟨hne, hψ⟩ := hψ
  have hs : AH.Sub σ ((σ.set φ ⟨0, 2, [[iv c, iv v]]⟩).set ψ ⟨0, 2, [[iv c', iv v']]⟩) := sub_set (sub_set (.refl σ) hφ) hψ
  simp [lod, acellsAt, AH.set_ne', Ne.symm hne]
  by_cases h1 : c = c'
  · subst h1
    by_cases h2 : v = v'
    · subst h2; simp at h ⊢; exact aret_sub hs h
    · simp [h2] at h ⊢; exact aret_sub hs h
  · simp [h1] at h ⊢; exact aret_sub hs h
/-- Where two lists are gap first; none. -/
def gap : List ByteArray → List ByteArray → Option Nat
  | [], [] => none
  | a :: xs, b :: ys => if a = b then (gap xs ys).map (· + 1) else some 0
  | _, _ => some 0
theorem gap_self (ss : List ByteArray) : gap ss ss = none := by
  induction ss with
  | nil => rfl
  | cons s ss ih => simp [gap, ih]
theorem gap_at : ∀ (i : Nat) (ss ts : List ByteArray), i ≤ ss.length → i ≤ ts.length → ss.take i = ts.take i → i < ss.length ∨ i < ts.length → (∀ (h1 : i < ss.length) (h2 : i < ts.length), ss[i] ≠ ts[i]) → gap ss ts = some i := by
  intro i
  induction i with
  | zero =>
    intro ss ts _ _ _ h hne
    match ss, ts with
    | [], [] => simp at h
    | [], _ :: _ => rfl
    | _ :: _, [] => rfl
    | s :: ss, t :: ts =>
      have := hne (by simp) (by simp)
      simp only [List.getElem_cons_zero] at this
      simp [gap, this]
  | succ i ih =>
    intro ss ts h1 h2 he h hne
    match ss, ts, h1, h2 with
    | s :: ss, t :: ts, h1, h2 =>
      simp only [List.take_succ_cons, List.cons.injEq] at he
      have := ih ss ts (by simpa using h1) (by simpa using h2) he.2 (by simpa using h) (fun g1 g2 => by have := hne (by simpa using g1) (by simpa using g2); simpa using this)
      simp [gap, he.1, this]
def apI (ss ts : List ByteArray) : Int := match gap ss ts with | none => -1 | some i => i
theorem c_spec_l16Apart {a b : AV} {ss ts : List ByteArray} (hS : Ss σ a ss) (hT : Ss σ b ts) (hl : ss.length ≤ 1099511627776) (hl2 : ts.length ≤ 1099511627776) (h : R (.ret (iv (apI ss ts))) σ) : acall TP fn_spec_l16Apart [a, b] σ R := by
  refine s_spec_l16Apart_ok ?_
  unfold s_spec_l16Apart
  refine lp_same (max ss.length ts.length) (fun i => (a, b, iv i, ())) (fun i => i ≤ ss.length ∧ i ≤ ts.length ∧ ss.take i = ts.take i) rfl (by simp) ?_
  rintro i hi ⟨hi1, hi2, he⟩ R' hR'
  simp only [hS.len, hT.len, og_some', onr_ret, gval_true, gval_false, pickV_true, pickV_false, apick_true, apick_false, gpick_true, gpick_false, ibin_leq, ibin_geq, ibin_lss, ibin_gtr, ibin_eql, ibin_neq, sbin_eql, sbin_neq, aun_not, Bool.not_true, Bool.not_false, decide_true, decide_false, if_true, if_false, Bool.false_eq_true, fldA_ptr, fldA_rop, anil_ptr, lenStr_str, amm_max, amm_min, Nat.zero_add, Nat.add_zero, List.length_cons, List.length_nil, Nat.reduceAdd]
  have out : (i < ss.length ∨ i < ts.length) → (∀ (h1 : i < ss.length) (h2 : i < ts.length), ss[i] ≠ ts[i]) → aret (iv i) σ R := by
    intro g1 g2
    have := gap_at i ss ts hi1 hi2 he g1 g2
    refine ret_here ?_
    simpa [apI, this] using h
  by_cases h1 : i < ss.length
  · have g1 : (i : Int) < ss.length := by omega
    have g1' : ¬ (ss.length : Int) ≤ i := by omega
    by_cases h2 : i < ts.length
    · have g2 : (i : Int) < ts.length := by omega
      have g2' : ¬ (ts.length : Int) ≤ i := by omega
      obtain ⟨p, hp, hq, _⟩ := hS.at h1
      obtain ⟨p', hp', hq', _⟩ := hT.at h2
      simp only [g1, g1', g2', hp, hq, hp', hq', hT.len, og_some', onr_ret, gval_true, gval_false, pickV_true, pickV_false, apick_true, apick_false, gpick_true, gpick_false, ibin_leq, ibin_geq, ibin_lss, ibin_gtr, ibin_eql, ibin_neq, sbin_eql, sbin_neq, aun_not, Bool.not_true, Bool.not_false, decide_true, decide_false, if_true, if_false, Bool.false_eq_true, fldA_ptr, fldA_rop, anil_ptr, lenStr_str, amm_max, amm_min, Nat.zero_add, Nat.add_zero, List.length_cons, List.length_nil, Nat.reduceAdd]
      by_cases hx : ss[i] = ts[i]
      · simp only [hx, og_some', onr_ret, gval_true, gval_false, pickV_true, pickV_false, apick_true, apick_false, gpick_true, gpick_false, ibin_leq, ibin_geq, ibin_lss, ibin_gtr, ibin_eql, ibin_neq, sbin_eql, sbin_neq, aun_not, Bool.not_true, Bool.not_false, decide_true, decide_false, if_true, if_false, Bool.false_eq_true, fldA_ptr, fldA_rop, anil_ptr, lenStr_str, amm_max, amm_min, Nat.zero_add, Nat.add_zero, List.length_cons, List.length_nil, Nat.reduceAdd]
        rw [ibin_up h1 (by omega)]
        simp only [og_some']
        refine hR' (by omega) ⟨h1, h2, ?_⟩ _ (.refl _)
        rw [List.take_succ_eq_append_getElem h1, List.take_succ_eq_append_getElem h2, he, hx]
      · simp only [hx, og_some', onr_ret, gval_true, gval_false, pickV_true, pickV_false, apick_true, apick_false, gpick_true, gpick_false, ibin_leq, ibin_geq, ibin_lss, ibin_gtr, ibin_eql, ibin_neq, sbin_eql, sbin_neq, aun_not, Bool.not_true, Bool.not_false, decide_true, decide_false, if_true, if_false, Bool.false_eq_true, fldA_ptr, fldA_rop, anil_ptr, lenStr_str, amm_max, amm_min, Nat.zero_add, Nat.add_zero, List.length_cons, List.length_nil, Nat.reduceAdd]
        exact out (.inl h1) (fun _ _ => hx)
    · have g2' : (ts.length : Int) ≤ i := by omega
      simp only [g1, g1', g2', hT.len, og_some', onr_ret, gval_true, gval_false, pickV_true, pickV_false, apick_true, apick_false, gpick_true, gpick_false, ibin_leq, ibin_geq, ibin_lss, ibin_gtr, ibin_eql, ibin_neq, sbin_eql, sbin_neq, aun_not, Bool.not_true, Bool.not_false, decide_true, decide_false, if_true, if_false, Bool.false_eq_true, fldA_ptr, fldA_rop, anil_ptr, lenStr_str, amm_max, amm_min, Nat.zero_add, Nat.add_zero, List.length_cons, List.length_nil, Nat.reduceAdd]
      exact out (.inl h1) (fun _ h => absurd h h2)
  · have g1 : ¬ (i : Int) < ss.length := by omega
    have g1' : (ss.length : Int) ≤ i := by omega
    by_cases h2 : i < ts.length
    · have g2 : (i : Int) < ts.length := by omega
      simp only [g1, g1', g2, hT.len, og_some', onr_ret, gval_true, gval_false, pickV_true, pickV_false, apick_true, apick_false, gpick_true, gpick_false, ibin_leq, ibin_geq, ibin_lss, ibin_gtr, ibin_eql, ibin_neq, sbin_eql, sbin_neq, aun_not, Bool.not_true, Bool.not_false, decide_true, decide_false, if_true, if_false, Bool.false_eq_true, fldA_ptr, fldA_rop, anil_ptr, lenStr_str, amm_max, amm_min, Nat.zero_add, Nat.add_zero, List.length_cons, List.length_nil, Nat.reduceAdd]
      exact out (.inr h2) (fun h _ => absurd h h1)
    · have g2 : ¬ (i : Int) < ts.length := by omega
      simp only [g1, g2, hT.len, og_some', onr_ret, gval_true, gval_false, pickV_true, pickV_false, apick_true, apick_false, gpick_true, gpick_false, ibin_leq, ibin_geq, ibin_lss, ibin_gtr, ibin_eql, ibin_neq, sbin_eql, sbin_neq, aun_not, Bool.not_true, Bool.not_false, decide_true, decide_false, if_true, if_false, Bool.false_eq_true, fldA_ptr, fldA_rop, anil_ptr, lenStr_str, amm_max, amm_min, Nat.zero_add, Nat.add_zero, List.length_cons, List.length_nil, Nat.reduceAdd]
      have e1 : ss.length = i := by omega
      have e2 : ts.length = i := by omega
      have : ss = ts := by rw [← e1, List.take_length, e1, ← e2, List.take_length] at he; exact he
      subst this
      refine ret_here ?_
      simpa [apI, gap_self] using h
def apR (ss ts : List ByteArray) : Int × Int := if 12 < ss.length ∨ 12 < ts.length then (2, 0) else match gap ss ts with | none => (4, 0) | some i => (0, i)
theorem bld2_0 (x : Int) : bld [iv 0, iv 0] [(0, 1), (1, 1)] [(0, iv x)] = some (.agg [iv x, iv 0]) := rfl
theorem bld2_1 (x : Int) : bld [iv 0, iv 0] [(0, 1), (1, 1)] [(1, iv x)] = some (.agg [iv 0, iv x]) := rfl
theorem gap_le : ∀ (ss ts : List ByteArray) (i : Nat), gap ss ts = some i → i ≤ ss.length ∧ i ≤ ts.length := by
  intro ss
  induction ss with
  | nil => intro ts i h; cases ts <;> simp [gap] at h; omega
  | cons s ss ih =>
    intro ts i h
    cases ts with
    | nil => simp [gap] at h; omega
    | cons t ts =>
      unfold gap at h
      split at h
      · obtain ⟨j, h1, rfl⟩ := Option.map_eq_some_iff.1 h
        have := ih _ _ h1
        simp; omega
      · obtain rfl := Option.some.inj h; simp
theorem c_spec_FirstApart {a b : AV} {ss ts : List ByteArray} (hS : Ss σ a ss) (hT : Ss σ b ts) (h : R (.ret (intR (apR ss ts).1 (apR ss ts).2)) σ) : acall TP fn_spec_FirstApart [a, b] σ R := by
  refine s_spec_FirstApart_ok ?_
  unfold s_spec_FirstApart
  simp only [new_eq, og_some', onr_ret, gval_true, gval_false, pickV_true, pickV_false, apick_true, apick_false, gpick_true, gpick_false, ibin_leq, ibin_geq, ibin_lss, ibin_gtr, ibin_eql, ibin_neq, sbin_eql, sbin_neq, aun_not, Bool.not_true, Bool.not_false, decide_true, decide_false, if_true, if_false, Bool.false_eq_true, fldA_ptr, fldA_rop, anil_ptr, lenStr_str, amm_max, amm_min, Nat.zero_add, Nat.add_zero, List.length_cons, List.length_nil, Nat.reduceAdd]
  intro φ hφ
  have hs : AH.Sub σ (σ.set φ ⟨0, 2, [[iv 0, iv 0]]⟩) := sub_set (.refl σ) hφ
  have fin : ∀ c v : Int, (c, v) = apR ss ts → sto 2 (.ptr φ 0 0 0) (.agg [iv c, iv v]) (σ.set φ ⟨0, 2, [[iv 0, iv 0]]⟩) fun σ => og (lodA 2 (.ptr φ 0 0 0) σ) fun r4 => aret r4 σ R := by
    intro c v e
    rw [← e] at h
    refine sto_own (AH.set_same ..) (by simp) (by simp) rfl rfl (by simp [AV.one, Value.oneCell']) ?_
    simp [lodA, acellsAt]
    exact aret_sub (sub_set (.refl σ) hφ) h
  simp only [hS.len, hT.len, og_some', ibin_gtr]
  by_cases h1 : 12 < ss.length
  · have g1 : (12 : Int) < ss.length := by omega
    simp only [g1, bld2_0, og_some', onr_ret, gval_true, gval_false, pickV_true, pickV_false, apick_true, apick_false, gpick_true, gpick_false, ibin_leq, ibin_geq, ibin_lss, ibin_gtr, ibin_eql, ibin_neq, sbin_eql, sbin_neq, aun_not, Bool.not_true, Bool.not_false, decide_true, decide_false, if_true, if_false, Bool.false_eq_true, fldA_ptr, fldA_rop, anil_ptr, lenStr_str, amm_max, amm_min, Nat.zero_add, Nat.add_zero, List.length_cons, List.length_nil, Nat.reduceAdd]
    exact fin 2 0 (by simp [apR, h1])
  have g1 : ¬ (12 : Int) < ss.length := by omega
  by_cases h2 : 12 < ts.length
  · have g2 : (12 : Int) < ts.length := by omega
    simp only [g1, g2, hT.len, bld2_0, og_some', onr_ret, gval_true, gval_false, pickV_true, pickV_false, apick_true, apick_false, gpick_true, gpick_false, ibin_leq, ibin_geq, ibin_lss, ibin_gtr, ibin_eql, ibin_neq, sbin_eql, sbin_neq, aun_not, Bool.not_true, Bool.not_false, decide_true, decide_false, if_true, if_false, Bool.false_eq_true, fldA_ptr, fldA_rop, anil_ptr, lenStr_str, amm_max, amm_min, Nat.zero_add, Nat.add_zero, List.length_cons, List.length_nil, Nat.reduceAdd]
    exact fin 2 0 (by simp [apR, h2])
  have g2 : ¬ (12 : Int) < ts.length := by omega
  simp only [g1, g2, hT.len, og_some', onr_ret, gval_true, gval_false, pickV_true, pickV_false, apick_true, apick_false, gpick_true, gpick_false, ibin_leq, ibin_geq, ibin_lss, ibin_gtr, ibin_eql, ibin_neq, sbin_eql, sbin_neq, aun_not, Bool.not_true, Bool.not_false, decide_true, decide_false, if_true, if_false, Bool.false_eq_true, fldA_ptr, fldA_rop, anil_ptr, lenStr_str, amm_max, amm_min, Nat.zero_add, Nat.add_zero, List.length_cons, List.length_nil, Nat.reduceAdd]
  refine c_spec_l16Apart (hS.sub hs) (hT.sub hs) (by omega) (by omega) ?_
  simp only [onr_ret, ibin_lss, og_some']
  unfold apR at fin
  simp only [h1, h2, or_self, if_false] at fin
  unfold apI
  cases ha : gap ss ts with
  | none =>
    rw [ha] at fin
    simp only [show ((-1 : Int) < 0) from by omega, bld2_0, og_some', onr_ret, gval_true, gval_false, pickV_true, pickV_false, apick_true, apick_false, gpick_true, gpick_false, ibin_leq, ibin_geq, ibin_lss, ibin_gtr, ibin_eql, ibin_neq, sbin_eql, sbin_neq, aun_not, Bool.not_true, Bool.not_false, decide_true, decide_false, if_true, if_false, Bool.false_eq_true, fldA_ptr, fldA_rop, anil_ptr, lenStr_str, amm_max, amm_min, Nat.zero_add, Nat.add_zero, List.length_cons, List.length_nil, Nat.reduceAdd]
    exact fin 4 0 rfl
  | some i =>
    rw [ha] at fin
    have : ¬ (i : Int) < 0 := by omega
    simp only [this, bld2_1, og_some', onr_ret, gval_true, gval_false, pickV_true, pickV_false, apick_true, apick_false, gpick_true, gpick_false, ibin_leq, ibin_geq, ibin_lss, ibin_gtr, ibin_eql, ibin_neq, sbin_eql, sbin_neq, aun_not, Bool.not_true, Bool.not_false, decide_true, decide_false, if_true, if_false, Bool.false_eq_true, fldA_ptr, fldA_rop, anil_ptr, lenStr_str, amm_max, amm_min, Nat.zero_add, Nat.add_zero, List.length_cons, List.length_nil, Nat.reduceAdd]
    exact fin 0 i rfl
theorem c_impl_FirstApart {a b : AV} {ss ts : List ByteArray} (hS : Ss σ a ss) (hT : Ss σ b ts) (h : R (.ret (intR (apR ss ts).1 (apR ss ts).2)) σ) : acall TP fn_impl_FirstApart [a, b] σ R := by
  refine s_impl_FirstApart_ok ?_
  unfold s_impl_FirstApart
  simp only [new_eq, og_some', onr_ret, gval_true, gval_false, pickV_true, pickV_false, apick_true, apick_false, gpick_true, gpick_false, ibin_leq, ibin_geq, ibin_lss, ibin_gtr, ibin_eql, ibin_neq, sbin_eql, sbin_neq, aun_not, Bool.not_true, Bool.not_false, decide_true, decide_false, if_true, if_false, Bool.false_eq_true, fldA_ptr, fldA_rop, anil_ptr, lenStr_str, amm_max, amm_min, Nat.zero_add, Nat.add_zero, List.length_cons, List.length_nil, Nat.reduceAdd]
  intro φ hφ
  have hs : AH.Sub σ (σ.set φ ⟨0, 2, [[iv 0, iv 0]]⟩) := sub_set (.refl σ) hφ
  have fin : ∀ c v : Int, (c, v) = apR ss ts → sto 2 (.ptr φ 0 0 0) (.agg [iv c, iv v]) (σ.set φ ⟨0, 2, [[iv 0, iv 0]]⟩) fun σ => og (lodA 2 (.ptr φ 0 0 0) σ) fun r4 => aret r4 σ R := by
    intro c v e
    rw [← e] at h
    refine sto_own (AH.set_same ..) (by simp) (by simp) rfl rfl (by simp [AV.one, Value.oneCell']) ?_
    simp [lodA, acellsAt]
    exact aret_sub (sub_set (.refl σ) hφ) h
  simp only [hS.len, hT.len, og_some', onr_ret, gval_true, gval_false, pickV_true, pickV_false, apick_true, apick_false, gpick_true, gpick_false, ibin_leq, ibin_geq, ibin_lss, ibin_gtr, ibin_eql, ibin_neq, sbin_eql, sbin_neq, aun_not, Bool.not_true, Bool.not_false, decide_true, decide_false, if_true, if_false, Bool.false_eq_true, fldA_ptr, fldA_rop, anil_ptr, lenStr_str, amm_max, amm_min, Nat.zero_add, Nat.add_zero, List.length_cons, List.length_nil, Nat.reduceAdd]
  by_cases h1 : 12 < ss.length
  · have g1 : (12 : Int) < ss.length := by omega
    simp only [g1, bld2_0, og_some', onr_ret, gval_true, gval_false, pickV_true, pickV_false, apick_true, apick_false, gpick_true, gpick_false, ibin_leq, ibin_geq, ibin_lss, ibin_gtr, ibin_eql, ibin_neq, sbin_eql, sbin_neq, aun_not, Bool.not_true, Bool.not_false, decide_true, decide_false, if_true, if_false, Bool.false_eq_true, fldA_ptr, fldA_rop, anil_ptr, lenStr_str, amm_max, amm_min, Nat.zero_add, Nat.add_zero, List.length_cons, List.length_nil, Nat.reduceAdd]
    exact fin 2 0 (by simp [apR, h1])
  have g1 : ¬ (12 : Int) < ss.length := by omega
  by_cases h2 : 12 < ts.length
  · have g2 : (12 : Int) < ts.length := by omega
    simp only [g1, g2, hT.len, bld2_0, og_some', onr_ret, gval_true, gval_false, pickV_true, pickV_false, apick_true, apick_false, gpick_true, gpick_false, ibin_leq, ibin_geq, ibin_lss, ibin_gtr, ibin_eql, ibin_neq, sbin_eql, sbin_neq, aun_not, Bool.not_true, Bool.not_false, decide_true, decide_false, if_true, if_false, Bool.false_eq_true, fldA_ptr, fldA_rop, anil_ptr, lenStr_str, amm_max, amm_min, Nat.zero_add, Nat.add_zero, List.length_cons, List.length_nil, Nat.reduceAdd]
    exact fin 2 0 (by simp [apR, h2])
  have g2 : ¬ (12 : Int) < ts.length := by omega
  simp only [g1, g2, hT.len, og_some', onr_ret, gval_true, gval_false, pickV_true, pickV_false, apick_true, apick_false, gpick_true, gpick_false, ibin_leq, ibin_geq, ibin_lss, ibin_gtr, ibin_eql, ibin_neq, sbin_eql, sbin_neq, aun_not, Bool.not_true, Bool.not_false, decide_true, decide_false, if_true, if_false, Bool.false_eq_true, fldA_ptr, fldA_rop, anil_ptr, lenStr_str, amm_max, amm_min, Nat.zero_add, Nat.add_zero, List.length_cons, List.length_nil, Nat.reduceAdd]
  unfold apR at fin
  simp only [h1, h2, or_self, if_false] at fin
  have hmax : (if (ts.length : Int) > ss.length then (ts.length : Int) else ss.length) = ((max ss.length ts.length : Nat) : Int) := by split <;> omega
  rw [hmax]
  refine lp_same (max ss.length ts.length) (fun i => (a, b, .ptr φ 0 0 0, iv (max ss.length ts.length : Nat), iv i, ())) (fun i => i ≤ ss.length ∧ i ≤ ts.length ∧ ss.take i = ts.take i) rfl (by simp) ?_
  rintro i hi ⟨hi1, hi2, he⟩ R' hR'
  have hS' := hS.sub hs
  have hT' := hT.sub hs
  simp only [hS.len, hT.len, og_some', onr_ret, gval_true, gval_false, pickV_true, pickV_false, apick_true, apick_false, gpick_true, gpick_false, ibin_leq, ibin_geq, ibin_lss, ibin_gtr, ibin_eql, ibin_neq, sbin_eql, sbin_neq, aun_not, Bool.not_true, Bool.not_false, decide_true, decide_false, if_true, if_false, Bool.false_eq_true, fldA_ptr, fldA_rop, anil_ptr, lenStr_str, amm_max, amm_min, Nat.zero_add, Nat.add_zero, List.length_cons, List.length_nil, Nat.reduceAdd]
  have out : (i < ss.length ∨ i < ts.length) → (∀ (h1 : i < ss.length) (h2 : i < ts.length), ss[i] ≠ ts[i]) → sto 2 (.ptr φ 0 0 0) (.agg [iv 0, iv i]) (σ.set φ ⟨0, 2, [[iv 0, iv 0]]⟩) fun σ => og (lodA 2 (.ptr φ 0 0 0) σ) fun r4 => aret r4 σ R := by
    intro k1 k2
    have := gap_at i ss ts hi1 hi2 he k1 k2
    rw [this] at fin
    exact fin 0 i rfl
  by_cases hlt : i < max ss.length ts.length
  · have hlt' : (i : Int) < (max ss.length ts.length : Nat) := by omega
    simp only [hlt', og_some', onr_ret, gval_true, gval_false, pickV_true, pickV_false, apick_true, apick_false, gpick_true, gpick_false, ibin_leq, ibin_geq, ibin_lss, ibin_gtr, ibin_eql, ibin_neq, sbin_eql, sbin_neq, aun_not, Bool.not_true, Bool.not_false, decide_true, decide_false, if_true, if_false, Bool.false_eq_true, fldA_ptr, fldA_rop, anil_ptr, lenStr_str, amm_max, amm_min, Nat.zero_add, Nat.add_zero, List.length_cons, List.length_nil, Nat.reduceAdd]
    by_cases k1 : i < ss.length
    · have l1 : ¬ (ss.length : Int) ≤ i := by omega
      by_cases k2 : i < ts.length
      · have l2 : ¬ (ts.length : Int) ≤ i := by omega
        obtain ⟨p, hp, hq, _⟩ := hS'.at k1
        obtain ⟨p', hp', hq', _⟩ := hT'.at k2
        simp only [l1, l2, hp, hq, hp', hq', hT.len, og_some', onr_ret, gval_true, gval_false, pickV_true, pickV_false, apick_true, apick_false, gpick_true, gpick_false, ibin_leq, ibin_geq, ibin_lss, ibin_gtr, ibin_eql, ibin_neq, sbin_eql, sbin_neq, aun_not, Bool.not_true, Bool.not_false, decide_true, decide_false, if_true, if_false, Bool.false_eq_true, fldA_ptr, fldA_rop, anil_ptr, lenStr_str, amm_max, amm_min, Nat.zero_add, Nat.add_zero, List.length_cons, List.length_nil, Nat.reduceAdd]
        by_cases hx : ss[i] = ts[i]
        · simp only [hx, og_some', onr_ret, gval_true, gval_false, pickV_true, pickV_false, apick_true, apick_false, gpick_true, gpick_false, ibin_leq, ibin_geq, ibin_lss, ibin_gtr, ibin_eql, ibin_neq, sbin_eql, sbin_neq, aun_not, Bool.not_true, Bool.not_false, decide_true, decide_false, if_true, if_false, Bool.false_eq_true, fldA_ptr, fldA_rop, anil_ptr, lenStr_str, amm_max, amm_min, Nat.zero_add, Nat.add_zero, List.length_cons, List.length_nil, Nat.reduceAdd]
          rw [ibin_up hlt (by omega)]
          simp only [og_some']
          refine hR' hlt ⟨k1, k2, ?_⟩ _ (.refl _)
          rw [List.take_succ_eq_append_getElem k1, List.take_succ_eq_append_getElem k2, he, hx]
        · simp only [hx, bld2_1, og_some', onr_ret, gval_true, gval_false, pickV_true, pickV_false, apick_true, apick_false, gpick_true, gpick_false, ibin_leq, ibin_geq, ibin_lss, ibin_gtr, ibin_eql, ibin_neq, sbin_eql, sbin_neq, aun_not, Bool.not_true, Bool.not_false, decide_true, decide_false, if_true, if_false, Bool.false_eq_true, fldA_ptr, fldA_rop, anil_ptr, lenStr_str, amm_max, amm_min, Nat.zero_add, Nat.add_zero, List.length_cons, List.length_nil, Nat.reduceAdd]
          exact out (.inl k1) (fun _ _ => hx)
      · have l2 : (ts.length : Int) ≤ i := by omega
        simp only [l1, l2, hT.len, bld2_1, og_some', onr_ret, gval_true, gval_false, pickV_true, pickV_false, apick_true, apick_false, gpick_true, gpick_false, ibin_leq, ibin_geq, ibin_lss, ibin_gtr, ibin_eql, ibin_neq, sbin_eql, sbin_neq, aun_not, Bool.not_true, Bool.not_false, decide_true, decide_false, if_true, if_false, Bool.false_eq_true, fldA_ptr, fldA_rop, anil_ptr, lenStr_str, amm_max, amm_min, Nat.zero_add, Nat.add_zero, List.length_cons, List.length_nil, Nat.reduceAdd]
        exact out (.inl k1) (fun _ h => absurd h k2)
    · have l1 : (ss.length : Int) ≤ i := by omega
      simp only [l1, bld2_1, og_some', onr_ret, gval_true, gval_false, pickV_true, pickV_false, apick_true, apick_false, gpick_true, gpick_false, ibin_leq, ibin_geq, ibin_lss, ibin_gtr, ibin_eql, ibin_neq, sbin_eql, sbin_neq, aun_not, Bool.not_true, Bool.not_false, decide_true, decide_false, if_true, if_false, Bool.false_eq_true, fldA_ptr, fldA_rop, anil_ptr, lenStr_str, amm_max, amm_min, Nat.zero_add, Nat.add_zero, List.length_cons, List.length_nil, Nat.reduceAdd]
      exact out (.inr (by clear out; omega)) (fun h _ => absurd h k1)
  · have hlt' : ¬ (i : Int) < (max ss.length ts.length : Nat) := by clear out; omega
    simp only [hlt', bld2_0, og_some', onr_ret, gval_true, gval_false, pickV_true, pickV_false, apick_true, apick_false, gpick_true, gpick_false, ibin_leq, ibin_geq, ibin_lss, ibin_gtr, ibin_eql, ibin_neq, sbin_eql, sbin_neq, aun_not, Bool.not_true, Bool.not_false, decide_true, decide_false, if_true, if_false, Bool.false_eq_true, fldA_ptr, fldA_rop, anil_ptr, lenStr_str, amm_max, amm_min, Nat.zero_add, Nat.add_zero, List.length_cons, List.length_nil, Nat.reduceAdd]
    have e1 : ss.length = i := by clear out; omega
    have e2 : ts.length = i := by clear out; omega
    have : ss = ts := by rw [← e1, List.take_length, e1, ← e2, List.take_length] at he; exact he
    subst this
    rw [gap_self] at fin
    exact fin 4 0 rfl
theorem c_laws_FnExactFirstApart {ss ts : List ByteArray} (hl : ss.length ≤ maxLen) (hm : ∀ s, s ∈ ss → s.size ≤ maxLen) (hl2 : ts.length ≤ maxLen) (hm2 : ∀ s, s ∈ ts → s.size ≤ maxLen)
    (h : R (.ret (bv true)) σ) : acall TP fn_laws_FnExactFirstApart [roS ss, roS ts] σ R := by
  refine s_laws_FnExactFirstApart_ok ?_
  unfold s_laws_FnExactFirstApart
  refine c_laws_szStringS (Cs.ro ..) (by omega) (by omega) hl hm fun r r0 r1 r2 => ?_
  simp only [og_some', onr_ret, gval_true, gval_false, pickV_true, pickV_false, apick_true, apick_false, gpick_true, gpick_false, ibin_leq, ibin_geq, ibin_lss, ibin_gtr, ibin_eql, ibin_neq, sbin_eql, sbin_neq, aun_not, Bool.not_true, Bool.not_false, decide_true, decide_false, if_true, if_false, Bool.false_eq_true, fldA_ptr, fldA_rop, anil_ptr, lenStr_str, amm_max, amm_min, Nat.zero_add, Nat.add_zero, List.length_cons, List.length_nil, Nat.reduceAdd]
  by_cases c1 : r < 0
  · simp only [c1, og_some', onr_ret, gval_true, gval_false, pickV_true, pickV_false, apick_true, apick_false, gpick_true, gpick_false, ibin_leq, ibin_geq, ibin_lss, ibin_gtr, ibin_eql, ibin_neq, sbin_eql, sbin_neq, aun_not, Bool.not_true, Bool.not_false, decide_true, decide_false, if_true, if_false, Bool.false_eq_true, fldA_ptr, fldA_rop, anil_ptr, lenStr_str, amm_max, amm_min, Nat.zero_add, Nat.add_zero, List.length_cons, List.length_nil, Nat.reduceAdd]; exact ret_here h
  simp only [c1, og_some', onr_ret, gval_true, gval_false, pickV_true, pickV_false, apick_true, apick_false, gpick_true, gpick_false, ibin_leq, ibin_geq, ibin_lss, ibin_gtr, ibin_eql, ibin_neq, sbin_eql, sbin_neq, aun_not, Bool.not_true, Bool.not_false, decide_true, decide_false, if_true, if_false, Bool.false_eq_true, fldA_ptr, fldA_rop, anil_ptr, lenStr_str, amm_max, amm_min, Nat.zero_add, Nat.add_zero, List.length_cons, List.length_nil, Nat.reduceAdd]
  refine c_laws_szStringS (Cs.ro ..) (by omega) (by omega) hl2 hm2 fun q q0 q1 q2 => ?_
  simp only [og_some', onr_ret, gval_true, gval_false, pickV_true, pickV_false, apick_true, apick_false, gpick_true, gpick_false, ibin_leq, ibin_geq, ibin_lss, ibin_gtr, ibin_eql, ibin_neq, sbin_eql, sbin_neq, aun_not, Bool.not_true, Bool.not_false, decide_true, decide_false, if_true, if_false, Bool.false_eq_true, fldA_ptr, fldA_rop, anil_ptr, lenStr_str, amm_max, amm_min, Nat.zero_add, Nat.add_zero, List.length_cons, List.length_nil, Nat.reduceAdd]
  by_cases c2 : q < 0
  · simp only [c2, og_some', onr_ret, gval_true, gval_false, pickV_true, pickV_false, apick_true, apick_false, gpick_true, gpick_false, ibin_leq, ibin_geq, ibin_lss, ibin_gtr, ibin_eql, ibin_neq, sbin_eql, sbin_neq, aun_not, Bool.not_true, Bool.not_false, decide_true, decide_false, if_true, if_false, Bool.false_eq_true, fldA_ptr, fldA_rop, anil_ptr, lenStr_str, amm_max, amm_min, Nat.zero_add, Nat.add_zero, List.length_cons, List.length_nil, Nat.reduceAdd]; exact ret_here h
  simp only [c2, og_some', onr_ret, gval_true, gval_false, pickV_true, pickV_false, apick_true, apick_false, gpick_true, gpick_false, ibin_leq, ibin_geq, ibin_lss, ibin_gtr, ibin_eql, ibin_neq, sbin_eql, sbin_neq, aun_not, Bool.not_true, Bool.not_false, decide_true, decide_false, if_true, if_false, Bool.false_eq_true, fldA_ptr, fldA_rop, anil_ptr, lenStr_str, amm_max, amm_min, Nat.zero_add, Nat.add_zero, List.length_cons, List.length_nil, Nat.reduceAdd]
  have b1 : ss.length ≤ 1099511627776 := by omega
  have b2 : ts.length ≤ 1099511627776 := by omega
  refine c_laws_toStringS (Cs.ro ..) b1 ?_
  simp only [og_some', onr_ret, gval_true, gval_false, pickV_true, pickV_false, apick_true, apick_false, gpick_true, gpick_false, ibin_leq, ibin_geq, ibin_lss, ibin_gtr, ibin_eql, ibin_neq, sbin_eql, sbin_neq, aun_not, Bool.not_true, Bool.not_false, decide_true, decide_false, if_true, if_false, Bool.false_eq_true, fldA_ptr, fldA_rop, anil_ptr, lenStr_str, amm_max, amm_min, Nat.zero_add, Nat.add_zero, List.length_cons, List.length_nil, Nat.reduceAdd]
  refine c_laws_toStringS (Cs.ro ..) b2 ?_
  simp only [og_some', onr_ret, gval_true, gval_false, pickV_true, pickV_false, apick_true, apick_false, gpick_true, gpick_false, ibin_leq, ibin_geq, ibin_lss, ibin_gtr, ibin_eql, ibin_neq, sbin_eql, sbin_neq, aun_not, Bool.not_true, Bool.not_false, decide_true, decide_false, if_true, if_false, Bool.false_eq_true, fldA_ptr, fldA_rop, anil_ptr, lenStr_str, amm_max, amm_min, Nat.zero_add, Nat.add_zero, List.length_cons, List.length_nil, Nat.reduceAdd]
  refine c_spec_FirstApart (Cs.ro ..) (Cs.ro ..) ?_
  simp only [og_some', onr_ret, gval_true, gval_false, pickV_true, pickV_false, apick_true, apick_false, gpick_true, gpick_false, ibin_leq, ibin_geq, ibin_lss, ibin_gtr, ibin_eql, ibin_neq, sbin_eql, sbin_neq, aun_not, Bool.not_true, Bool.not_false, decide_true, decide_false, if_true, if_false, Bool.false_eq_true, fldA_ptr, fldA_rop, anil_ptr, lenStr_str, amm_max, amm_min, Nat.zero_add, Nat.add_zero, List.length_cons, List.length_nil, Nat.reduceAdd, new_eq]
  intro φ hφ
  refine sto_own (AH.set_same ..) (by simp) (by simp) rfl rfl (by simp [AV.one, Value.oneCell']) ?_
  refine c_laws_toStringS (Cs.ro ..) b1 ?_
  simp only [og_some', onr_ret, gval_true, gval_false, pickV_true, pickV_false, apick_true, apick_false, gpick_true, gpick_false, ibin_leq, ibin_geq, ibin_lss, ibin_gtr, ibin_eql, ibin_neq, sbin_eql, sbin_neq, aun_not, Bool.not_true, Bool.not_false, decide_true, decide_false, if_true, if_false, Bool.false_eq_true, fldA_ptr, fldA_rop, anil_ptr, lenStr_str, amm_max, amm_min, Nat.zero_add, Nat.add_zero, List.length_cons, List.length_nil, Nat.reduceAdd]
  refine c_laws_toStringS (Cs.ro ..) b2 ?_
  simp only [og_some', onr_ret, gval_true, gval_false, pickV_true, pickV_false, apick_true, apick_false, gpick_true, gpick_false, ibin_leq, ibin_geq, ibin_lss, ibin_gtr, ibin_eql, ibin_neq, sbin_eql, sbin_neq, aun_not, Bool.not_true, Bool.not_false, decide_true, decide_false, if_true, if_false, Bool.false_eq_true, fldA_ptr, fldA_rop, anil_ptr, lenStr_str, amm_max, amm_min, Nat.zero_add, Nat.add_zero, List.length_cons, List.length_nil, Nat.reduceAdd]
  refine c_impl_FirstApart (Cs.ro ..) (Cs.ro ..) ?_
  simp only [og_some', onr_ret, gval_true, gval_false, pickV_true, pickV_false, apick_true, apick_false, gpick_true, gpick_false, ibin_leq, ibin_geq, ibin_lss, ibin_gtr, ibin_eql, ibin_neq, sbin_eql, sbin_neq, aun_not, Bool.not_true, Bool.not_false, decide_true, decide_false, if_true, if_false, Bool.false_eq_true, fldA_ptr, fldA_rop, anil_ptr, lenStr_str, amm_max, amm_min, Nat.zero_add, Nat.add_zero, List.length_cons, List.length_nil, Nat.reduceAdd, AH.set_set]
  intro ψ hψ
  simp only [AH.set_none] at hψ
  obtain ⟨hne, hψ⟩ := hψ
  refine sto_own (AH.set_same ..) (by simp) (by simp) rfl rfl (by simp [AV.one, Value.oneCell']) ?_
  simp [lodA, acellsAt, AH.set_ne', Ne.symm hne]
  refine c_laws_eqIntResult ?_
  simp only [og_some', onr_ret, gval_true, gval_false, pickV_true, pickV_false, apick_true, apick_false, gpick_true, gpick_false, ibin_leq, ibin_geq, ibin_lss, ibin_gtr, ibin_eql, ibin_neq, sbin_eql, sbin_neq, aun_not, Bool.not_true, Bool.not_false, decide_true, decide_false, if_true, if_false, Bool.false_eq_true, fldA_ptr, fldA_rop, anil_ptr, lenStr_str, amm_max, amm_min, Nat.zero_add, Nat.add_zero, List.length_cons, List.length_nil, Nat.reduceAdd]
  refine c_laws_toStringS (Cs.ro ..) b1 ?_
  simp only [og_some', onr_ret, gval_true, gval_false, pickV_true, pickV_false, apick_true, apick_false, gpick_true, gpick_false, ibin_leq, ibin_geq, ibin_lss, ibin_gtr, ibin_eql, ibin_neq, sbin_eql, sbin_neq, aun_not, Bool.not_true, Bool.not_false, decide_true, decide_false, if_true, if_false, Bool.false_eq_true, fldA_ptr, fldA_rop, anil_ptr, lenStr_str, amm_max, amm_min, Nat.zero_add, Nat.add_zero, List.length_cons, List.length_nil, Nat.reduceAdd]
  refine c_laws_eqStringS (Cs.ro ..) (Cs.ro ..) b1 ?_
  simp only [og_some', onr_ret, gval_true, gval_false, pickV_true, pickV_false, apick_true, apick_false, gpick_true, gpick_false, ibin_leq, ibin_geq, ibin_lss, ibin_gtr, ibin_eql, ibin_neq, sbin_eql, sbin_neq, aun_not, Bool.not_true, Bool.not_false, decide_true, decide_false, if_true, if_false, Bool.false_eq_true, fldA_ptr, fldA_rop, anil_ptr, lenStr_str, amm_max, amm_min, Nat.zero_add, Nat.add_zero, List.length_cons, List.length_nil, Nat.reduceAdd]
  refine c_laws_toStringS (Cs.ro ..) b2 ?_
  simp only [og_some', onr_ret, gval_true, gval_false, pickV_true, pickV_false, apick_true, apick_false, gpick_true, gpick_false, ibin_leq, ibin_geq, ibin_lss, ibin_gtr, ibin_eql, ibin_neq, sbin_eql, sbin_neq, aun_not, Bool.not_true, Bool.not_false, decide_true, decide_false, if_true, if_false, Bool.false_eq_true, fldA_ptr, fldA_rop, anil_ptr, lenStr_str, amm_max, amm_min, Nat.zero_add, Nat.add_zero, List.length_cons, List.length_nil, Nat.reduceAdd]
  refine c_laws_eqStringS (Cs.ro ..) (Cs.ro ..) b2 ?_
  simp only [og_some', onr_ret, gval_true, gval_false, pickV_true, pickV_false, apick_true, apick_false, gpick_true, gpick_false, ibin_leq, ibin_geq, ibin_lss, ibin_gtr, ibin_eql, ibin_neq, sbin_eql, sbin_neq, aun_not, Bool.not_true, Bool.not_false, decide_true, decide_false, if_true, if_false, Bool.false_eq_true, fldA_ptr, fldA_rop, anil_ptr, lenStr_str, amm_max, amm_min, Nat.zero_add, Nat.add_zero, List.length_cons, List.length_nil, Nat.reduceAdd]
  exact aret_sub (sub_set (sub_set (.refl σ) hφ) hψ) h
end Go.Proofs.Ytjfdgijgkbojnaa.E
