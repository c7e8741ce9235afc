/- Stacks of pieces: compared, at fault, their depth. -/
import Derived.Test.YtjfdgijgkbojnaaH4
set_option linter.unusedSectionVars false
set_option linter.unusedSimpArgs false
set_option linter.unusedVariables false
namespace Go.Proofs.Ytjfdgijgkbojnaa.E
open Go Go.RowKit
variable [Lam]
variable {σ : AH} {R : AEnd → AH → Prop}
theorem c_laws_eqInt64S {a b : AV} {ss ts : List Int} (hS : Ns σ a ss) (hT : Ns σ b ts) (hl : ss.length ≤ 1099511627776) (h : R (.ret (bv (decide (ss = ts)))) σ) : acall TP fn_laws_eqInt64S [a, b] σ R := by
  refine s_laws_eqInt64S_ok ?_
  unfold s_laws_eqInt64S
  simp only [hS.len, hT.len, og_some', onr_ret, gval_true, gval_false, pickV_true, pickV_false, apick_true, apick_false, gpick_true, gpick_false, ibin_leq, ibin_geq, ibin_lss, ibin_gtr, ibin_eql, ibin_neq, sbin_eql, sbin_neq, aun_not, Bool.not_true, Bool.not_false, decide_true, decide_false, if_true, if_false, Bool.false_eq_true, fldA_ptr, fldA_rop, anil_ptr, lenStr_str, amm_max, amm_min, Nat.zero_add, Nat.add_zero, List.length_cons, List.length_nil, Nat.reduceAdd]
  by_cases hc : ss.length = ts.length
  · have : ((ss.length : Int) = ts.length) := by omega
    simp only [this, og_some', onr_ret, gval_true, gval_false, pickV_true, pickV_false, apick_true, apick_false, gpick_true, gpick_false, ibin_leq, ibin_geq, ibin_lss, ibin_gtr, ibin_eql, ibin_neq, sbin_eql, sbin_neq, aun_not, Bool.not_true, Bool.not_false, decide_true, decide_false, if_true, if_false, Bool.false_eq_true, fldA_ptr, fldA_rop, anil_ptr, lenStr_str, amm_max, amm_min, Nat.zero_add, Nat.add_zero, List.length_cons, List.length_nil, Nat.reduceAdd]
    refine lp_same ss.length (fun i => (a, b, iv i, ())) (fun i => ss.take i = ts.take i) rfl (by simp) ?_
    intro i hi he R' hR'
    simp only [hS.len, og_some', onr_ret, gval_true, gval_false, pickV_true, pickV_false, apick_true, apick_false, gpick_true, gpick_false, ibin_leq, ibin_geq, ibin_lss, ibin_gtr, ibin_eql, ibin_neq, sbin_eql, sbin_neq, aun_not, Bool.not_true, Bool.not_false, decide_true, decide_false, if_true, if_false, Bool.false_eq_true, fldA_ptr, fldA_rop, anil_ptr, lenStr_str, amm_max, amm_min, Nat.zero_add, Nat.add_zero, List.length_cons, List.length_nil, Nat.reduceAdd]
    by_cases hlt : i < ss.length
    · have : (i : Int) < ss.length := by omega
      obtain ⟨p, hp, hq, _⟩ := hS.at hlt
      obtain ⟨p', hp', hq', _⟩ := hT.at (hc ▸ hlt)
      simp only [this, hp, hq, hp', hq', og_some', onr_ret, gval_true, gval_false, pickV_true, pickV_false, apick_true, apick_false, gpick_true, gpick_false, ibin_leq, ibin_geq, ibin_lss, ibin_gtr, ibin_eql, ibin_neq, sbin_eql, sbin_neq, aun_not, Bool.not_true, Bool.not_false, decide_true, decide_false, if_true, if_false, Bool.false_eq_true, fldA_ptr, fldA_rop, anil_ptr, lenStr_str, amm_max, amm_min, Nat.zero_add, Nat.add_zero, List.length_cons, List.length_nil, Nat.reduceAdd]
      by_cases hx : ss[i] = ts[i]'(hc ▸ hlt)
      · simp only [hx, ibin_up hlt (by omega), og_some', onr_ret, gval_true, gval_false, pickV_true, pickV_false, apick_true, apick_false, gpick_true, gpick_false, ibin_leq, ibin_geq, ibin_lss, ibin_gtr, ibin_eql, ibin_neq, sbin_eql, sbin_neq, aun_not, Bool.not_true, Bool.not_false, decide_true, decide_false, if_true, if_false, Bool.false_eq_true, fldA_ptr, fldA_rop, anil_ptr, lenStr_str, amm_max, amm_min, Nat.zero_add, Nat.add_zero, List.length_cons, List.length_nil, Nat.reduceAdd]
        refine hR' hlt ?_ _ (.refl _)
        rw [List.take_succ_eq_append_getElem hlt, List.take_succ_eq_append_getElem (hc ▸ hlt), he, hx]
      · simp only [hx, og_some', onr_ret, gval_true, gval_false, pickV_true, pickV_false, apick_true, apick_false, gpick_true, gpick_false, ibin_leq, ibin_geq, ibin_lss, ibin_gtr, ibin_eql, ibin_neq, sbin_eql, sbin_neq, aun_not, Bool.not_true, Bool.not_false, decide_true, decide_false, if_true, if_false, Bool.false_eq_true, fldA_ptr, fldA_rop, anil_ptr, lenStr_str, amm_max, amm_min, Nat.zero_add, Nat.add_zero, List.length_cons, List.length_nil, Nat.reduceAdd]
        have : ¬ ss = ts := by rintro rfl; exact hx rfl
        refine ret_here ?_
        simpa [this] using h
    · have : ¬ (i : Int) < ss.length := by omega
      simp only [this, og_some', onr_ret, gval_true, gval_false, pickV_true, pickV_false, apick_true, apick_false, gpick_true, gpick_false, ibin_leq, ibin_geq, ibin_lss, ibin_gtr, ibin_eql, ibin_neq, sbin_eql, sbin_neq, aun_not, Bool.not_true, Bool.not_false, decide_true, decide_false, if_true, if_false, Bool.false_eq_true, fldA_ptr, fldA_rop, anil_ptr, lenStr_str, amm_max, amm_min, Nat.zero_add, Nat.add_zero, List.length_cons, List.length_nil, Nat.reduceAdd]
      obtain rfl : i = ss.length := by omega
      have : ss = ts := by rw [List.take_length, hc, List.take_length] at he; exact he
      refine ret_here ?_
      simpa [this] using h
  · have : ¬ ((ss.length : Int) = ts.length) := by omega
    simp only [this, og_some', onr_ret, gval_true, gval_false, pickV_true, pickV_false, apick_true, apick_false, gpick_true, gpick_false, ibin_leq, ibin_geq, ibin_lss, ibin_gtr, ibin_eql, ibin_neq, sbin_eql, sbin_neq, aun_not, Bool.not_true, Bool.not_false, decide_true, decide_false, if_true, if_false, Bool.false_eq_true, fldA_ptr, fldA_rop, anil_ptr, lenStr_str, amm_max, amm_min, Nat.zero_add, Nat.add_zero, List.length_cons, List.length_nil, Nat.reduceAdd]
    have : ¬ ss = ts := by rintro rfl; exact hc rfl
    refine ret_here ?_
    simpa [this] using h
theorem c_laws_eqSegPart {p q : AV} {xs ys : List Int} (hS : Ns σ p xs) (hT : Ns σ q ys) (hl : xs.length ≤ 1099511627776) (h : R (.ret (bv (decide (xs = ys)))) σ) : acall TP fn_laws_eqSegPart [.agg [p], .agg [q]] σ R := by
  refine s_laws_eqSegPart_ok ?_
  unfold s_laws_eqSegPart
  simp only [abox_agg, og_some', onr_ret, gval_true, gval_false, pickV_true, pickV_false, apick_true, apick_false, gpick_true, gpick_false, ibin_leq, ibin_geq, ibin_lss, ibin_gtr, ibin_eql, ibin_neq, sbin_eql, sbin_neq, aun_not, Bool.not_true, Bool.not_false, decide_true, decide_false, if_true, if_false, Bool.false_eq_true, fldA_ptr, fldA_rop, anil_ptr, lenStr_str, amm_max, amm_min, Nat.zero_add, Nat.add_zero, List.length_cons, List.length_nil, Nat.reduceAdd]
  intro φ hφ ψ hψ
  simp only [AH.set_none] at hψ
  obtain ⟨hne, hψ⟩ := hψ
  have hs : AH.Sub σ ((σ.set φ ⟨0, 1, [[p]]⟩).set ψ ⟨0, 1, [[q]]⟩) := sub_set (sub_set (.refl σ) hφ) hψ
  have e1 : lod (.ptr φ 0 0 0) ((σ.set φ ⟨0, 1, [[p]]⟩).set ψ ⟨0, 1, [[q]]⟩) = some p := lod_at (F := ⟨0, 1, [[p]]⟩) (by rw [AH.set_ne' (Ne.symm hne), AH.set_same]) rfl rfl
  have e2 : lod (.ptr ψ 0 0 0) ((σ.set φ ⟨0, 1, [[p]]⟩).set ψ ⟨0, 1, [[q]]⟩) = some q := lod_at (F := ⟨0, 1, [[q]]⟩) (AH.set_same ..) rfl rfl
  simp only [e1, e2, og_some', onr_ret, gval_true, gval_false, pickV_true, pickV_false, apick_true, apick_false, gpick_true, gpick_false, ibin_leq, ibin_geq, ibin_lss, ibin_gtr, ibin_eql, ibin_neq, sbin_eql, sbin_neq, aun_not, Bool.not_true, Bool.not_false, decide_true, decide_false, if_true, if_false, Bool.false_eq_true, fldA_ptr, fldA_rop, anil_ptr, lenStr_str, amm_max, amm_min, Nat.zero_add, Nat.add_zero, List.length_cons, List.length_nil, Nat.reduceAdd]
  refine c_laws_eqInt64S (hS.sub hs) (hT.sub hs) hl ?_
  simp only [og_some', onr_ret, gval_true, gval_false, pickV_true, pickV_false, apick_true, apick_false, gpick_true, gpick_false, ibin_leq, ibin_geq, ibin_lss, ibin_gtr, ibin_eql, ibin_neq, sbin_eql, sbin_neq, aun_not, Bool.not_true, Bool.not_false, decide_true, decide_false, if_true, if_false, Bool.false_eq_true, fldA_ptr, fldA_rop, anil_ptr, lenStr_str, amm_max, amm_min, Nat.zero_add, Nat.add_zero, List.length_cons, List.length_nil, Nat.reduceAdd]
  by_cases hx : xs = ys
  · simp only [hx, og_some', onr_ret, gval_true, gval_false, pickV_true, pickV_false, apick_true, apick_false, gpick_true, gpick_false, ibin_leq, ibin_geq, ibin_lss, ibin_gtr, ibin_eql, ibin_neq, sbin_eql, sbin_neq, aun_not, Bool.not_true, Bool.not_false, decide_true, decide_false, if_true, if_false, Bool.false_eq_true, fldA_ptr, fldA_rop, anil_ptr, lenStr_str, amm_max, amm_min, Nat.zero_add, Nat.add_zero, List.length_cons, List.length_nil, Nat.reduceAdd] at h ⊢; exact aret_sub hs h
  · simp only [hx, og_some', onr_ret, gval_true, gval_false, pickV_true, pickV_false, apick_true, apick_false, gpick_true, gpick_false, ibin_leq, ibin_geq, ibin_lss, ibin_gtr, ibin_eql, ibin_neq, sbin_eql, sbin_neq, aun_not, Bool.not_true, Bool.not_false, decide_true, decide_false, if_true, if_false, Bool.false_eq_true, fldA_ptr, fldA_rop, anil_ptr, lenStr_str, amm_max, amm_min, Nat.zero_add, Nat.add_zero, List.length_cons, List.length_nil, Nat.reduceAdd] at h ⊢; exact aret_sub hs h
theorem c_laws_eqSegPartS {a b : AV} {ss ts : List (List Int)} (hS : Ps σ a ss) (hT : Ps σ b ts) (hl : ss.length ≤ 1099511627776) (hm : ∀ p, p ∈ ss → p.length ≤ 1099511627776) (h : R (.ret (bv (decide (ss = ts)))) σ) : acall TP fn_laws_eqSegPartS [a, b] σ R := by
  refine s_laws_eqSegPartS_ok ?_
  unfold s_laws_eqSegPartS
  simp only [hS.len, hT.len, og_some', onr_ret, gval_true, gval_false, pickV_true, pickV_false, apick_true, apick_false, gpick_true, gpick_false, ibin_leq, ibin_geq, ibin_lss, ibin_gtr, ibin_eql, ibin_neq, sbin_eql, sbin_neq, aun_not, Bool.not_true, Bool.not_false, decide_true, decide_false, if_true, if_false, Bool.false_eq_true, fldA_ptr, fldA_rop, anil_ptr, lenStr_str, amm_max, amm_min, Nat.zero_add, Nat.add_zero, List.length_cons, List.length_nil, Nat.reduceAdd]
  by_cases hc : ss.length = ts.length
  · have : ((ss.length : Int) = ts.length) := by omega
    simp only [this, og_some', onr_ret, gval_true, gval_false, pickV_true, pickV_false, apick_true, apick_false, gpick_true, gpick_false, ibin_leq, ibin_geq, ibin_lss, ibin_gtr, ibin_eql, ibin_neq, sbin_eql, sbin_neq, aun_not, Bool.not_true, Bool.not_false, decide_true, decide_false, if_true, if_false, Bool.false_eq_true, fldA_ptr, fldA_rop, anil_ptr, lenStr_str, amm_max, amm_min, Nat.zero_add, Nat.add_zero, List.length_cons, List.length_nil, Nat.reduceAdd]
    refine lp_same ss.length (fun i => (a, b, iv i, ())) (fun i => ss.take i = ts.take i) rfl (by simp) ?_
    intro i hi he R' hR'
    simp only [hS.len, og_some', onr_ret, gval_true, gval_false, pickV_true, pickV_false, apick_true, apick_false, gpick_true, gpick_false, ibin_leq, ibin_geq, ibin_lss, ibin_gtr, ibin_eql, ibin_neq, sbin_eql, sbin_neq, aun_not, Bool.not_true, Bool.not_false, decide_true, decide_false, if_true, if_false, Bool.false_eq_true, fldA_ptr, fldA_rop, anil_ptr, lenStr_str, amm_max, amm_min, Nat.zero_add, Nat.add_zero, List.length_cons, List.length_nil, Nat.reduceAdd]
    by_cases hlt : i < ss.length
    · have : (i : Int) < ss.length := by omega
      obtain ⟨p, q, _, hp, hq, _, _, hN⟩ := hS.at hlt
      obtain ⟨p', q', _, hp', hq', _, _, hN'⟩ := hT.at (hc ▸ hlt)
      simp only [this, hp, hq, hp', hq', og_some', onr_ret, gval_true, gval_false, pickV_true, pickV_false, apick_true, apick_false, gpick_true, gpick_false, ibin_leq, ibin_geq, ibin_lss, ibin_gtr, ibin_eql, ibin_neq, sbin_eql, sbin_neq, aun_not, Bool.not_true, Bool.not_false, decide_true, decide_false, if_true, if_false, Bool.false_eq_true, fldA_ptr, fldA_rop, anil_ptr, lenStr_str, amm_max, amm_min, Nat.zero_add, Nat.add_zero, List.length_cons, List.length_nil, Nat.reduceAdd]
      refine c_laws_eqSegPart hN hN' (hm _ (List.getElem_mem hlt)) ?_
      simp only [true_and, og_some', onr_ret, gval_true, gval_false, pickV_true, pickV_false, apick_true, apick_false, gpick_true, gpick_false, ibin_leq, ibin_geq, ibin_lss, ibin_gtr, ibin_eql, ibin_neq, sbin_eql, sbin_neq, aun_not, Bool.not_true, Bool.not_false, decide_true, decide_false, if_true, if_false, Bool.false_eq_true, fldA_ptr, fldA_rop, anil_ptr, lenStr_str, amm_max, amm_min, Nat.zero_add, Nat.add_zero, List.length_cons, List.length_nil, Nat.reduceAdd]
      by_cases hx : ss[i] = ts[i]'(hc ▸ hlt)
      · simp only [hx, ibin_up hlt (by omega), og_some', onr_ret, gval_true, gval_false, pickV_true, pickV_false, apick_true, apick_false, gpick_true, gpick_false, ibin_leq, ibin_geq, ibin_lss, ibin_gtr, ibin_eql, ibin_neq, sbin_eql, sbin_neq, aun_not, Bool.not_true, Bool.not_false, decide_true, decide_false, if_true, if_false, Bool.false_eq_true, fldA_ptr, fldA_rop, anil_ptr, lenStr_str, amm_max, amm_min, Nat.zero_add, Nat.add_zero, List.length_cons, List.length_nil, Nat.reduceAdd]
        refine hR' hlt ?_ _ (.refl _)
        rw [List.take_succ_eq_append_getElem hlt, List.take_succ_eq_append_getElem (hc ▸ hlt), he, hx]
      · simp only [hx, og_some', onr_ret, gval_true, gval_false, pickV_true, pickV_false, apick_true, apick_false, gpick_true, gpick_false, ibin_leq, ibin_geq, ibin_lss, ibin_gtr, ibin_eql, ibin_neq, sbin_eql, sbin_neq, aun_not, Bool.not_true, Bool.not_false, decide_true, decide_false, if_true, if_false, Bool.false_eq_true, fldA_ptr, fldA_rop, anil_ptr, lenStr_str, amm_max, amm_min, Nat.zero_add, Nat.add_zero, List.length_cons, List.length_nil, Nat.reduceAdd]
        have : ¬ ss = ts := by rintro rfl; exact hx rfl
        refine ret_here ?_
        simpa [this] using h
    · have : ¬ (i : Int) < ss.length := by omega
      simp only [this, og_some', onr_ret, gval_true, gval_false, pickV_true, pickV_false, apick_true, apick_false, gpick_true, gpick_false, ibin_leq, ibin_geq, ibin_lss, ibin_gtr, ibin_eql, ibin_neq, sbin_eql, sbin_neq, aun_not, Bool.not_true, Bool.not_false, decide_true, decide_false, if_true, if_false, Bool.false_eq_true, fldA_ptr, fldA_rop, anil_ptr, lenStr_str, amm_max, amm_min, Nat.zero_add, Nat.add_zero, List.length_cons, List.length_nil, Nat.reduceAdd]
      obtain rfl : i = ss.length := by omega
      have : ss = ts := by rw [List.take_length, hc, List.take_length] at he; exact he
      refine ret_here ?_
      simpa [this] using h
  · have : ¬ ((ss.length : Int) = ts.length) := by omega
    simp only [this, og_some', onr_ret, gval_true, gval_false, pickV_true, pickV_false, apick_true, apick_false, gpick_true, gpick_false, ibin_leq, ibin_geq, ibin_lss, ibin_gtr, ibin_eql, ibin_neq, sbin_eql, sbin_neq, aun_not, Bool.not_true, Bool.not_false, decide_true, decide_false, if_true, if_false, Bool.false_eq_true, fldA_ptr, fldA_rop, anil_ptr, lenStr_str, amm_max, amm_min, Nat.zero_add, Nat.add_zero, List.length_cons, List.length_nil, Nat.reduceAdd]
    have : ¬ ss = ts := by rintro rfl; exact hc rfl
    refine ret_here ?_
    simpa [this] using h
theorem c_laws_eqSegs {p q : AV} {n m : Int} {ss ts : List (List Int)} (hS : Ps σ p ss) (hT : Ps σ q ts) (hl : ss.length ≤ 1099511627776) (hm : ∀ p, p ∈ ss → p.length ≤ 1099511627776) (h : R (.ret (bv (decide (n = m) && decide (ss = ts)))) σ) :
    acall TP fn_laws_eqSegs [.agg [iv n, p], .agg [iv m, q]] σ R := by
  refine s_laws_eqSegs_ok ?_
  unfold s_laws_eqSegs
  simp only [abox_agg, og_some', onr_ret, gval_true, gval_false, pickV_true, pickV_false, apick_true, apick_false, gpick_true, gpick_false, ibin_leq, ibin_geq, ibin_lss, ibin_gtr, ibin_eql, ibin_neq, sbin_eql, sbin_neq, aun_not, Bool.not_true, Bool.not_false, decide_true, decide_false, if_true, if_false, Bool.false_eq_true, fldA_ptr, fldA_rop, anil_ptr, lenStr_str, amm_max, amm_min, Nat.zero_add, Nat.add_zero, List.length_cons, List.length_nil, Nat.reduceAdd]
  intro φ hφ ψ hψ
  simp only [AH.set_none] at hψ
  obtain ⟨hne, hψ⟩ := hψ
  have hs : AH.Sub σ ((σ.set φ ⟨0, 2, [[iv n, p]]⟩).set ψ ⟨0, 2, [[iv m, q]]⟩) := sub_set (sub_set (.refl σ) hφ) hψ
  have g1 : ((σ.set φ ⟨0, 2, [[iv n, p]]⟩).set ψ ⟨0, 2, [[iv m, q]]⟩) φ = some ⟨0, 2, [[iv n, p]]⟩ := by rw [AH.set_ne' (Ne.symm hne), AH.set_same]
  have g2 : ((σ.set φ ⟨0, 2, [[iv n, p]]⟩).set ψ ⟨0, 2, [[iv m, q]]⟩) ψ = some ⟨0, 2, [[iv m, q]]⟩ := AH.set_same ..
  simp only [lod_at (st := 0) (i := 0) (off := 0) (c := iv n) g1 rfl rfl, lod_at (st := 0) (i := 0) (off := 1) (c := p) g1 rfl rfl, lod_at (st := 0) (i := 0) (off := 0) (c := iv m) g2 rfl rfl, lod_at (st := 0) (i := 0) (off := 1) (c := q) g2 rfl rfl, og_some', onr_ret, gval_true, gval_false, pickV_true, pickV_false, apick_true, apick_false, gpick_true, gpick_false, ibin_leq, ibin_geq, ibin_lss, ibin_gtr, ibin_eql, ibin_neq, sbin_eql, sbin_neq, aun_not, Bool.not_true, Bool.not_false, decide_true, decide_false, if_true, if_false, Bool.false_eq_true, fldA_ptr, fldA_rop, anil_ptr, lenStr_str, amm_max, amm_min, Nat.zero_add, Nat.add_zero, List.length_cons, List.length_nil, Nat.reduceAdd]
  by_cases hn : n = m
  · simp only [hn, Bool.true_and, og_some', onr_ret, gval_true, gval_false, pickV_true, pickV_false, apick_true, apick_false, gpick_true, gpick_false, ibin_leq, ibin_geq, ibin_lss, ibin_gtr, ibin_eql, ibin_neq, sbin_eql, sbin_neq, aun_not, Bool.not_true, Bool.not_false, decide_true, decide_false, if_true, if_false, Bool.false_eq_true, fldA_ptr, fldA_rop, anil_ptr, lenStr_str, amm_max, amm_min, Nat.zero_add, Nat.add_zero, List.length_cons, List.length_nil, Nat.reduceAdd] at h ⊢
    refine c_laws_eqSegPartS (hS.sub (hn ▸ hs)) (hT.sub (hn ▸ hs)) hl hm ?_
    simp only [og_some', onr_ret, gval_true, gval_false, pickV_true, pickV_false, apick_true, apick_false, gpick_true, gpick_false, ibin_leq, ibin_geq, ibin_lss, ibin_gtr, ibin_eql, ibin_neq, sbin_eql, sbin_neq, aun_not, Bool.not_true, Bool.not_false, decide_true, decide_false, if_true, if_false, Bool.false_eq_true, fldA_ptr, fldA_rop, anil_ptr, lenStr_str, amm_max, amm_min, Nat.zero_add, Nat.add_zero, List.length_cons, List.length_nil, Nat.reduceAdd]
    by_cases hx : ss = ts
    · simp only [hx, og_some', onr_ret, gval_true, gval_false, pickV_true, pickV_false, apick_true, apick_false, gpick_true, gpick_false, ibin_leq, ibin_geq, ibin_lss, ibin_gtr, ibin_eql, ibin_neq, sbin_eql, sbin_neq, aun_not, Bool.not_true, Bool.not_false, decide_true, decide_false, if_true, if_false, Bool.false_eq_true, fldA_ptr, fldA_rop, anil_ptr, lenStr_str, amm_max, amm_min, Nat.zero_add, Nat.add_zero, List.length_cons, List.length_nil, Nat.reduceAdd] at h ⊢; exact aret_sub (hn ▸ hs) h
    · simp only [hx, og_some', onr_ret, gval_true, gval_false, pickV_true, pickV_false, apick_true, apick_false, gpick_true, gpick_false, ibin_leq, ibin_geq, ibin_lss, ibin_gtr, ibin_eql, ibin_neq, sbin_eql, sbin_neq, aun_not, Bool.not_true, Bool.not_false, decide_true, decide_false, if_true, if_false, Bool.false_eq_true, fldA_ptr, fldA_rop, anil_ptr, lenStr_str, amm_max, amm_min, Nat.zero_add, Nat.add_zero, List.length_cons, List.length_nil, Nat.reduceAdd] at h ⊢; exact aret_sub (hn ▸ hs) h
  · simp only [hn, Bool.false_and, og_some', onr_ret, gval_true, gval_false, pickV_true, pickV_false, apick_true, apick_false, gpick_true, gpick_false, ibin_leq, ibin_geq, ibin_lss, ibin_gtr, ibin_eql, ibin_neq, sbin_eql, sbin_neq, aun_not, Bool.not_true, Bool.not_false, decide_true, decide_false, if_true, if_false, Bool.false_eq_true, fldA_ptr, fldA_rop, anil_ptr, lenStr_str, amm_max, amm_min, Nat.zero_add, Nat.add_zero, List.length_cons, List.length_nil, Nat.reduceAdd] at h ⊢
    exact aret_sub hs h

/-! ### at fault -/
/-- What a piece of a stack has to be. -/
def okAt (size : Int) (ps : List (List Int)) (i : Nat) : Prop := ∀ h : i < ps.length, 1 ≤ (ps[i].length : Int) ∧ (ps[i].length : Int) ≤ size ∧ (i + 1 < ps.length → (ps[i].length : Int) = size)
def OkP (size : Int) (ps : List (List Int)) : Prop := ∀ i, okAt size ps i
open Classical in
noncomputable def segF (size : Int) (ps : List (List Int)) : Int := if 1 ≤ size ∧ size ≤ 64 then if OkP size ps then if tot ps > 4000 then 2 else 0 else 1 else 3
theorem c_spec_l12Fault {φ : Nat} {size : Int} {p : AV} {ps : List (List Int)} (hF : σ φ = some ⟨0, 2, [[iv size, p]]⟩) (hP : Ps σ p ps) (hb : ps.length + tot ps ≤ 1099511627776)
    (h : R (.ret (iv (segF size ps))) σ) : acall TP fn_spec_l12Fault [.ptr φ 0 0 0] σ R := by
  refine s_spec_l12Fault_ok ?_
  unfold s_spec_l12Fault
  have e0 := lod_at (st := 0) (i := 0) (off := 0) (c := iv size) hF rfl rfl
  have e1 := lod_at (st := 0) (i := 0) (off := 1) (c := p) hF rfl rfl
  simp only [e0, og_some', onr_ret, gval_true, gval_false, pickV_true, pickV_false, apick_true, apick_false, gpick_true, gpick_false, ibin_leq, ibin_geq, ibin_lss, ibin_gtr, ibin_eql, ibin_neq, sbin_eql, sbin_neq, aun_not, Bool.not_true, Bool.not_false, decide_true, decide_false, if_true, if_false, Bool.false_eq_true, fldA_ptr, fldA_rop, anil_ptr, lenStr_str, amm_max, amm_min, Nat.zero_add, Nat.add_zero, List.length_cons, List.length_nil, Nat.reduceAdd]
  refine c_spec_l12Size ?_
  simp only [og_some', onr_ret, gval_true, gval_false, pickV_true, pickV_false, apick_true, apick_false, gpick_true, gpick_false, ibin_leq, ibin_geq, ibin_lss, ibin_gtr, ibin_eql, ibin_neq, sbin_eql, sbin_neq, aun_not, Bool.not_true, Bool.not_false, decide_true, decide_false, if_true, if_false, Bool.false_eq_true, fldA_ptr, fldA_rop, anil_ptr, lenStr_str, amm_max, amm_min, Nat.zero_add, Nat.add_zero, List.length_cons, List.length_nil, Nat.reduceAdd]
  unfold segF at h
  by_cases hsz : 1 ≤ size ∧ size ≤ 64
  case neg =>
    have : (decide (1 ≤ size) && decide (size ≤ 64)) = false := by simpa using hsz
    simp only [this, og_some', onr_ret, gval_true, gval_false, pickV_true, pickV_false, apick_true, apick_false, gpick_true, gpick_false, ibin_leq, ibin_geq, ibin_lss, ibin_gtr, ibin_eql, ibin_neq, sbin_eql, sbin_neq, aun_not, Bool.not_true, Bool.not_false, decide_true, decide_false, if_true, if_false, Bool.false_eq_true, fldA_ptr, fldA_rop, anil_ptr, lenStr_str, amm_max, amm_min, Nat.zero_add, Nat.add_zero, List.length_cons, List.length_nil, Nat.reduceAdd]
    rw [if_neg hsz] at h
    exact ret_here h
  have : (decide (1 ≤ size) && decide (size ≤ 64)) = true := by simpa using hsz
  simp only [this, og_some', onr_ret, gval_true, gval_false, pickV_true, pickV_false, apick_true, apick_false, gpick_true, gpick_false, ibin_leq, ibin_geq, ibin_lss, ibin_gtr, ibin_eql, ibin_neq, sbin_eql, sbin_neq, aun_not, Bool.not_true, Bool.not_false, decide_true, decide_false, if_true, if_false, Bool.false_eq_true, fldA_ptr, fldA_rop, anil_ptr, lenStr_str, amm_max, amm_min, Nat.zero_add, Nat.add_zero, List.length_cons, List.length_nil, Nat.reduceAdd]
  rw [if_pos hsz] at h
  refine lp_same ps.length (fun i => (.ptr φ 0 0 0, iv (tot (ps.take i)), iv i, ())) (fun i => ∀ j, j < i → okAt size ps j) rfl (fun j hj => by omega) ?_
  intro i hi hok R' hR'
  simp only [e0, e1, hP.len, og_some', onr_ret, gval_true, gval_false, pickV_true, pickV_false, apick_true, apick_false, gpick_true, gpick_false, ibin_leq, ibin_geq, ibin_lss, ibin_gtr, ibin_eql, ibin_neq, sbin_eql, sbin_neq, aun_not, Bool.not_true, Bool.not_false, decide_true, decide_false, if_true, if_false, Bool.false_eq_true, fldA_ptr, fldA_rop, anil_ptr, lenStr_str, amm_max, amm_min, Nat.zero_add, Nat.add_zero, List.length_cons, List.length_nil, Nat.reduceAdd]
  by_cases hlt : i < ps.length
  · have g0 : (i : Int) < ps.length := by omega
    obtain ⟨v, q, v', hp, hq, hf, hl, hN⟩ := hP.at hlt
    have hT := tot_take ps hlt
    have hT2 := tot_at ps hlt
    have hu := ibin_up hlt (by omega : ps.length ≤ 9223372036854775807)
    have ha : ibin .add (.val (.int .i64 (tot (ps.take i) : Nat))) (.val (.int .i64 (ps[i].length : Nat))) = some (.val (.int .i64 (tot (ps.take (i + 1)) : Nat))) := by rw [ibin_add (by omega) (by omega), hT]; rfl
    simp only [g0, hp, hf, hl, hN.len, og_some', onr_ret, gval_true, gval_false, pickV_true, pickV_false, apick_true, apick_false, gpick_true, gpick_false, ibin_leq, ibin_geq, ibin_lss, ibin_gtr, ibin_eql, ibin_neq, sbin_eql, sbin_neq, aun_not, Bool.not_true, Bool.not_false, decide_true, decide_false, if_true, if_false, Bool.false_eq_true, fldA_ptr, fldA_rop, anil_ptr, lenStr_str, amm_max, amm_min, Nat.zero_add, Nat.add_zero, List.length_cons, List.length_nil, Nat.reduceAdd]
    have bad : ¬ okAt size ps i → aret (iv 1) σ R := by
      intro hb
      rw [if_neg (fun hO => hb (hO i))] at h
      exact ret_here h
    by_cases c1 : (ps[i].length : Int) < 1
    · simp only [c1, og_some', onr_ret, gval_true, gval_false, pickV_true, pickV_false, apick_true, apick_false, gpick_true, gpick_false, ibin_leq, ibin_geq, ibin_lss, ibin_gtr, ibin_eql, ibin_neq, sbin_eql, sbin_neq, aun_not, Bool.not_true, Bool.not_false, decide_true, decide_false, if_true, if_false, Bool.false_eq_true, fldA_ptr, fldA_rop, anil_ptr, lenStr_str, amm_max, amm_min, Nat.zero_add, Nat.add_zero, List.length_cons, List.length_nil, Nat.reduceAdd]
      exact bad (fun hO => by have := (hO hlt).1; omega)
    by_cases c2 : size < (ps[i].length : Int)
    · simp only [c1, c2, e0, og_some', onr_ret, gval_true, gval_false, pickV_true, pickV_false, apick_true, apick_false, gpick_true, gpick_false, ibin_leq, ibin_geq, ibin_lss, ibin_gtr, ibin_eql, ibin_neq, sbin_eql, sbin_neq, aun_not, Bool.not_true, Bool.not_false, decide_true, decide_false, if_true, if_false, Bool.false_eq_true, fldA_ptr, fldA_rop, anil_ptr, lenStr_str, amm_max, amm_min, Nat.zero_add, Nat.add_zero, List.length_cons, List.length_nil, Nat.reduceAdd]
      exact bad (fun hO => by have := (hO hlt).2.1; omega)
    have good : okAt size ps i → R' (.ptr φ 0 0 0, .val (.int .i64 (tot (ps.take (i + 1)) : Nat)), .val (.int .i64 ((i + 1 : Nat) : Int)), ()) σ := by
      intro hO
      refine hR' hlt (fun j hj => ?_) _ (.refl _)
      by_cases h : j < i
      · exact hok j h
      · have e : j = i := Nat.le_antisymm (Nat.le_of_lt_succ hj) (Nat.le_of_not_lt h)
        rw [e]; exact hO
    by_cases c3 : i + 1 < ps.length
    · have c3' : ((i + 1 : Nat) : Int) < (ps.length : Int) := by omega
      by_cases c4 : (ps[i].length : Int) = size
      · simp only [c1, c2, c3', decide_eq_true c4, hu, ha, e0, e1, hP.len, hp, hf, hl, hN.len, og_some', onr_ret, gval_true, gval_false, pickV_true, pickV_false, apick_true, apick_false, gpick_true, gpick_false, ibin_leq, ibin_geq, ibin_lss, ibin_gtr, ibin_eql, ibin_neq, sbin_eql, sbin_neq, aun_not, Bool.not_true, Bool.not_false, decide_true, decide_false, if_true, if_false, Bool.false_eq_true, fldA_ptr, fldA_rop, anil_ptr, lenStr_str, amm_max, amm_min, Nat.zero_add, Nat.add_zero, List.length_cons, List.length_nil, Nat.reduceAdd]
        exact good (fun _ => ⟨by omega, by omega, fun _ => c4⟩)
      · simp only [c1, c2, c3', decide_eq_false c4, hu, ha, e0, e1, hP.len, hp, hf, hl, hN.len, og_some', onr_ret, gval_true, gval_false, pickV_true, pickV_false, apick_true, apick_false, gpick_true, gpick_false, ibin_leq, ibin_geq, ibin_lss, ibin_gtr, ibin_eql, ibin_neq, sbin_eql, sbin_neq, aun_not, Bool.not_true, Bool.not_false, decide_true, decide_false, if_true, if_false, Bool.false_eq_true, fldA_ptr, fldA_rop, anil_ptr, lenStr_str, amm_max, amm_min, Nat.zero_add, Nat.add_zero, List.length_cons, List.length_nil, Nat.reduceAdd]
        exact bad (fun hO => c4 ((hO hlt).2.2 c3))
    · have c3' : ¬ ((i + 1 : Nat) : Int) < (ps.length : Int) := by omega
      simp only [c1, c2, c3', hu, ha, e0, e1, hP.len, hp, hf, hl, hN.len, og_some', onr_ret, gval_true, gval_false, pickV_true, pickV_false, apick_true, apick_false, gpick_true, gpick_false, ibin_leq, ibin_geq, ibin_lss, ibin_gtr, ibin_eql, ibin_neq, sbin_eql, sbin_neq, aun_not, Bool.not_true, Bool.not_false, decide_true, decide_false, if_true, if_false, Bool.false_eq_true, fldA_ptr, fldA_rop, anil_ptr, lenStr_str, amm_max, amm_min, Nat.zero_add, Nat.add_zero, List.length_cons, List.length_nil, Nat.reduceAdd]
      exact good (fun _ => ⟨by omega, by omega, fun h => absurd h c3⟩)
  · have g0 : ¬ (i : Int) < ps.length := by omega
    obtain rfl : i = ps.length := by omega
    simp only [g0, og_some', onr_ret, gval_true, gval_false, pickV_true, pickV_false, apick_true, apick_false, gpick_true, gpick_false, ibin_leq, ibin_geq, ibin_lss, ibin_gtr, ibin_eql, ibin_neq, sbin_eql, sbin_neq, aun_not, Bool.not_true, Bool.not_false, decide_true, decide_false, if_true, if_false, Bool.false_eq_true, fldA_ptr, fldA_rop, anil_ptr, lenStr_str, amm_max, amm_min, Nat.zero_add, Nat.add_zero, List.length_cons, List.length_nil, Nat.reduceAdd]
    have hO : OkP size ps := fun j hj => hok j hj hj
    rw [if_pos hO] at h
    rw [List.take_length]
    by_cases c : 4000 < tot ps
    · have c' : (4000 : Int) < tot ps := by omega
      simp only [c', og_some', onr_ret, gval_true, gval_false, pickV_true, pickV_false, apick_true, apick_false, gpick_true, gpick_false, ibin_leq, ibin_geq, ibin_lss, ibin_gtr, ibin_eql, ibin_neq, sbin_eql, sbin_neq, aun_not, Bool.not_true, Bool.not_false, decide_true, decide_false, if_true, if_false, Bool.false_eq_true, fldA_ptr, fldA_rop, anil_ptr, lenStr_str, amm_max, amm_min, Nat.zero_add, Nat.add_zero, List.length_cons, List.length_nil, Nat.reduceAdd]
      rw [if_pos (by omega)] at h; exact ret_here h
    · have c' : ¬ (4000 : Int) < tot ps := by omega
      simp only [c', og_some', onr_ret, gval_true, gval_false, pickV_true, pickV_false, apick_true, apick_false, gpick_true, gpick_false, ibin_leq, ibin_geq, ibin_lss, ibin_gtr, ibin_eql, ibin_neq, sbin_eql, sbin_neq, aun_not, Bool.not_true, Bool.not_false, decide_true, decide_false, if_true, if_false, Bool.false_eq_true, fldA_ptr, fldA_rop, anil_ptr, lenStr_str, amm_max, amm_min, Nat.zero_add, Nat.add_zero, List.length_cons, List.length_nil, Nat.reduceAdd]
      rw [if_neg (by omega)] at h; exact ret_here h
theorem c_spec_SegsFault {size : Int} {p : AV} {ps : List (List Int)} (hP : Ps σ p ps) (hb : ps.length + tot ps ≤ 1099511627776)
    (h : R (.ret (iv (segF size ps))) σ) : acall TP fn_spec_SegsFault [.agg [iv size, p]] σ R := by
  refine s_spec_SegsFault_ok ?_
  unfold s_spec_SegsFault
  simp only [abox_agg, og_some', onr_ret, gval_true, gval_false, pickV_true, pickV_false, apick_true, apick_false, gpick_true, gpick_false, ibin_leq, ibin_geq, ibin_lss, ibin_gtr, ibin_eql, ibin_neq, sbin_eql, sbin_neq, aun_not, Bool.not_true, Bool.not_false, decide_true, decide_false, if_true, if_false, Bool.false_eq_true, fldA_ptr, fldA_rop, anil_ptr, lenStr_str, amm_max, amm_min, Nat.zero_add, Nat.add_zero, List.length_cons, List.length_nil, Nat.reduceAdd]
  intro φ hφ
  have hs : AH.Sub σ (σ.set φ ⟨0, 2, [[iv size, p]]⟩) := sub_set (.refl σ) hφ
  refine c_spec_l12Fault (AH.set_same ..) (hP.sub hs) hb ?_
  simp only [og_some', onr_ret, gval_true, gval_false, pickV_true, pickV_false, apick_true, apick_false, gpick_true, gpick_false, ibin_leq, ibin_geq, ibin_lss, ibin_gtr, ibin_eql, ibin_neq, sbin_eql, sbin_neq, aun_not, Bool.not_true, Bool.not_false, decide_true, decide_false, if_true, if_false, Bool.false_eq_true, fldA_ptr, fldA_rop, anil_ptr, lenStr_str, amm_max, amm_min, Nat.zero_add, Nat.add_zero, List.length_cons, List.length_nil, Nat.reduceAdd]
  exact aret_sub hs h
theorem c_impl_SegsFault {size : Int} {p : AV} {ps : List (List Int)} (hP : Ps σ p ps) (hb : ps.length + tot ps ≤ 1099511627776)
    (h : R (.ret (iv (segF size ps))) σ) : acall TP fn_impl_SegsFault [.agg [iv size, p]] σ R := by
  refine s_impl_SegsFault_ok ?_
  unfold s_impl_SegsFault
  simp only [abox_agg, og_some', onr_ret, gval_true, gval_false, pickV_true, pickV_false, apick_true, apick_false, gpick_true, gpick_false, ibin_leq, ibin_geq, ibin_lss, ibin_gtr, ibin_eql, ibin_neq, sbin_eql, sbin_neq, aun_not, Bool.not_true, Bool.not_false, decide_true, decide_false, if_true, if_false, Bool.false_eq_true, fldA_ptr, fldA_rop, anil_ptr, lenStr_str, amm_max, amm_min, Nat.zero_add, Nat.add_zero, List.length_cons, List.length_nil, Nat.reduceAdd]
  intro φ hφ
  have hs : AH.Sub σ (σ.set φ ⟨0, 2, [[iv size, p]]⟩) := sub_set (.refl σ) hφ
  have hF : (σ.set φ ⟨0, 2, [[iv size, p]]⟩) φ = some ⟨0, 2, [[iv size, p]]⟩ := AH.set_same ..
  generalize hσ1 : σ.set φ ⟨0, 2, [[iv size, p]]⟩ = σ1 at hs hF ⊢
  have hP1 := hP.sub hs
  have e0 := lod_at (st := 0) (i := 0) (off := 0) (c := iv size) hF rfl rfl
  have e1 := lod_at (st := 0) (i := 0) (off := 1) (c := p) hF rfl rfl
  simp only [e0, og_some', onr_ret, gval_true, gval_false, pickV_true, pickV_false, apick_true, apick_false, gpick_true, gpick_false, ibin_leq, ibin_geq, ibin_lss, ibin_gtr, ibin_eql, ibin_neq, sbin_eql, sbin_neq, aun_not, Bool.not_true, Bool.not_false, decide_true, decide_false, if_true, if_false, Bool.false_eq_true, fldA_ptr, fldA_rop, anil_ptr, lenStr_str, amm_max, amm_min, Nat.zero_add, Nat.add_zero, List.length_cons, List.length_nil, Nat.reduceAdd]
  refine c_impl_isSize ?_
  simp only [og_some', onr_ret, gval_true, gval_false, pickV_true, pickV_false, apick_true, apick_false, gpick_true, gpick_false, ibin_leq, ibin_geq, ibin_lss, ibin_gtr, ibin_eql, ibin_neq, sbin_eql, sbin_neq, aun_not, Bool.not_true, Bool.not_false, decide_true, decide_false, if_true, if_false, Bool.false_eq_true, fldA_ptr, fldA_rop, anil_ptr, lenStr_str, amm_max, amm_min, Nat.zero_add, Nat.add_zero, List.length_cons, List.length_nil, Nat.reduceAdd]
  unfold segF at h
  by_cases hsz : 1 ≤ size ∧ size ≤ 64
  case neg =>
    have : (decide (1 ≤ size) && decide (size ≤ 64)) = false := by simpa using hsz
    simp only [this, og_some', onr_ret, gval_true, gval_false, pickV_true, pickV_false, apick_true, apick_false, gpick_true, gpick_false, ibin_leq, ibin_geq, ibin_lss, ibin_gtr, ibin_eql, ibin_neq, sbin_eql, sbin_neq, aun_not, Bool.not_true, Bool.not_false, decide_true, decide_false, if_true, if_false, Bool.false_eq_true, fldA_ptr, fldA_rop, anil_ptr, lenStr_str, amm_max, amm_min, Nat.zero_add, Nat.add_zero, List.length_cons, List.length_nil, Nat.reduceAdd]
    rw [if_neg hsz] at h
    exact aret_sub hs h
  have : (decide (1 ≤ size) && decide (size ≤ 64)) = true := by simpa using hsz
  simp only [this, og_some', onr_ret, gval_true, gval_false, pickV_true, pickV_false, apick_true, apick_false, gpick_true, gpick_false, ibin_leq, ibin_geq, ibin_lss, ibin_gtr, ibin_eql, ibin_neq, sbin_eql, sbin_neq, aun_not, Bool.not_true, Bool.not_false, decide_true, decide_false, if_true, if_false, Bool.false_eq_true, fldA_ptr, fldA_rop, anil_ptr, lenStr_str, amm_max, amm_min, Nat.zero_add, Nat.add_zero, List.length_cons, List.length_nil, Nat.reduceAdd]
  rw [if_pos hsz] at h
  simp only [e1, hP.len, ibin_sub (a := ps.length) (b := 1) (by omega) (by omega), og_some', onr_ret, gval_true, gval_false, pickV_true, pickV_false, apick_true, apick_false, gpick_true, gpick_false, ibin_leq, ibin_geq, ibin_lss, ibin_gtr, ibin_eql, ibin_neq, sbin_eql, sbin_neq, aun_not, Bool.not_true, Bool.not_false, decide_true, decide_false, if_true, if_false, Bool.false_eq_true, fldA_ptr, fldA_rop, anil_ptr, lenStr_str, amm_max, amm_min, Nat.zero_add, Nat.add_zero, List.length_cons, List.length_nil, Nat.reduceAdd]
  refine lp_same ps.length (fun i => (.ptr φ 0 0 0, iv (tot (ps.take i)), iv (ps.length - 1), p, iv ps.length, iv i, ())) (fun i => ∀ j, j < i → okAt size ps j) rfl (fun j hj => by omega) ?_
  intro i hi hok R' hR'
  by_cases hlt : i < ps.length
  · have g0 : (i : Int) < ps.length := by omega
    obtain ⟨v, q, v', hp, hq, hf, hl, hN⟩ := hP1.at hlt
    have hT := tot_take ps hlt
    have hT2 := tot_at ps hlt
    have hu := ibin_up hlt (by omega : ps.length ≤ 9223372036854775807)
    have ha : ibin .add (.val (.int .i64 (tot (ps.take i) : Nat))) (.val (.int .i64 (ps[i].length : Nat))) = some (.val (.int .i64 (tot (ps.take (i + 1)) : Nat))) := by rw [ibin_add (by omega) (by omega), hT]; rfl
    simp only [g0, hp, hq, new_eq, og_some', onr_ret, gval_true, gval_false, pickV_true, pickV_false, apick_true, apick_false, gpick_true, gpick_false, ibin_leq, ibin_geq, ibin_lss, ibin_gtr, ibin_eql, ibin_neq, sbin_eql, sbin_neq, aun_not, Bool.not_true, Bool.not_false, decide_true, decide_false, if_true, if_false, Bool.false_eq_true, fldA_ptr, fldA_rop, anil_ptr, lenStr_str, amm_max, amm_min, Nat.zero_add, Nat.add_zero, List.length_cons, List.length_nil, Nat.reduceAdd]
    intro ψ hψ
    have hne : ψ ≠ φ := by rintro rfl; rw [hF] at hψ; cases hψ
    have hN1 := hN.one
    refine sto_own (es := [[nilS]]) (cs := [q]) (AH.set_same ..) (by simp) (by simp) rfl rfl (by simpa using hN1.2) ?_
    simp only [List.set_cons_zero, AH.set_set]
    have hs2 : AH.Sub σ1 (σ1.set ψ ⟨0, 1, [[q]]⟩) := sub_set (.refl σ1) hψ
    have hF2 := hs2.at hF
    have e0' := lod_at (st := 0) (i := 0) (off := 0) (c := iv size) hF2 rfl rfl
    have eq := lod_at (σ := σ1.set ψ ⟨0, 1, [[q]]⟩) (φ := ψ) (st := 0) (i := 0) (off := 0) (c := q) (AH.set_same ..) rfl rfl
    simp only [e0', eq, hN.len, og_some', onr_ret, gval_true, gval_false, pickV_true, pickV_false, apick_true, apick_false, gpick_true, gpick_false, ibin_leq, ibin_geq, ibin_lss, ibin_gtr, ibin_eql, ibin_neq, sbin_eql, sbin_neq, aun_not, Bool.not_true, Bool.not_false, decide_true, decide_false, if_true, if_false, Bool.false_eq_true, fldA_ptr, fldA_rop, anil_ptr, lenStr_str, amm_max, amm_min, Nat.zero_add, Nat.add_zero, List.length_cons, List.length_nil, Nat.reduceAdd]
    have bad : ¬ okAt size ps i → aret (iv 1) (σ1.set ψ ⟨0, 1, [[q]]⟩) R := by
      intro hb
      rw [if_neg (fun hO => hb (hO i))] at h
      exact aret_sub (hs.trans hs2) h
    have good : okAt size ps i → R' (.ptr φ 0 0 0, .val (.int .i64 (tot (ps.take (i + 1)) : Nat)), iv (ps.length - 1), p, iv ps.length, .val (.int .i64 ((i + 1 : Nat) : Int)), ()) (σ1.set ψ ⟨0, 1, [[q]]⟩) := by
      intro hO
      refine hR' hlt (fun j hj => ?_) _ hs2
      by_cases h : j < i
      · exact hok j h
      · have e : j = i := Nat.le_antisymm (Nat.le_of_lt_succ hj) (Nat.le_of_not_lt h)
        rw [e]; exact hO
    refine c_impl_in ?_
    simp only [og_some', onr_ret, gval_true, gval_false, pickV_true, pickV_false, apick_true, apick_false, gpick_true, gpick_false, ibin_leq, ibin_geq, ibin_lss, ibin_gtr, ibin_eql, ibin_neq, sbin_eql, sbin_neq, aun_not, Bool.not_true, Bool.not_false, decide_true, decide_false, if_true, if_false, Bool.false_eq_true, fldA_ptr, fldA_rop, anil_ptr, lenStr_str, amm_max, amm_min, Nat.zero_add, Nat.add_zero, List.length_cons, List.length_nil, Nat.reduceAdd]
    by_cases c1 : 1 ≤ (ps[i].length : Int) ∧ (ps[i].length : Int) ≤ size
    · have c1' : (decide (1 ≤ (ps[i].length : Int)) && decide ((ps[i].length : Int) ≤ size)) = true := by simpa using c1
      by_cases c3 : i + 1 < ps.length
      · have c3' : (i : Int) < (ps.length : Int) - 1 := by clear bad good; omega
        by_cases c4 : (ps[i].length : Int) = size
        · simp only [c1', c3', decide_eq_true c4, hu, ha, e0', eq, hN.len, og_some', onr_ret, gval_true, gval_false, pickV_true, pickV_false, apick_true, apick_false, gpick_true, gpick_false, ibin_leq, ibin_geq, ibin_lss, ibin_gtr, ibin_eql, ibin_neq, sbin_eql, sbin_neq, aun_not, Bool.not_true, Bool.not_false, decide_true, decide_false, if_true, if_false, Bool.false_eq_true, fldA_ptr, fldA_rop, anil_ptr, lenStr_str, amm_max, amm_min, Nat.zero_add, Nat.add_zero, List.length_cons, List.length_nil, Nat.reduceAdd]
          exact good (fun _ => ⟨c1.1, c1.2, fun _ => c4⟩)
        · simp only [c1', c3', decide_eq_false c4, hu, ha, e0', eq, hN.len, og_some', onr_ret, gval_true, gval_false, pickV_true, pickV_false, apick_true, apick_false, gpick_true, gpick_false, ibin_leq, ibin_geq, ibin_lss, ibin_gtr, ibin_eql, ibin_neq, sbin_eql, sbin_neq, aun_not, Bool.not_true, Bool.not_false, decide_true, decide_false, if_true, if_false, Bool.false_eq_true, fldA_ptr, fldA_rop, anil_ptr, lenStr_str, amm_max, amm_min, Nat.zero_add, Nat.add_zero, List.length_cons, List.length_nil, Nat.reduceAdd]
          exact bad (fun hO => c4 ((hO hlt).2.2 c3))
      · have c3' : ¬ (i : Int) < (ps.length : Int) - 1 := by clear bad good; omega
        simp only [c1', c3', hu, ha, e0', eq, hN.len, og_some', onr_ret, gval_true, gval_false, pickV_true, pickV_false, apick_true, apick_false, gpick_true, gpick_false, ibin_leq, ibin_geq, ibin_lss, ibin_gtr, ibin_eql, ibin_neq, sbin_eql, sbin_neq, aun_not, Bool.not_true, Bool.not_false, decide_true, decide_false, if_true, if_false, Bool.false_eq_true, fldA_ptr, fldA_rop, anil_ptr, lenStr_str, amm_max, amm_min, Nat.zero_add, Nat.add_zero, List.length_cons, List.length_nil, Nat.reduceAdd]
        exact good (fun _ => ⟨c1.1, c1.2, fun h => absurd h c3⟩)
    · have c1' : (decide (1 ≤ (ps[i].length : Int)) && decide ((ps[i].length : Int) ≤ size)) = false := by simpa using c1
      simp only [c1', og_some', onr_ret, gval_true, gval_false, pickV_true, pickV_false, apick_true, apick_false, gpick_true, gpick_false, ibin_leq, ibin_geq, ibin_lss, ibin_gtr, ibin_eql, ibin_neq, sbin_eql, sbin_neq, aun_not, Bool.not_true, Bool.not_false, decide_true, decide_false, if_true, if_false, Bool.false_eq_true, fldA_ptr, fldA_rop, anil_ptr, lenStr_str, amm_max, amm_min, Nat.zero_add, Nat.add_zero, List.length_cons, List.length_nil, Nat.reduceAdd]
      exact bad (fun hO => c1 ⟨(hO hlt).1, (hO hlt).2.1⟩)
  · have g0 : ¬ (i : Int) < ps.length := by omega
    obtain rfl : i = ps.length := by omega
    simp only [g0, og_some', onr_ret, gval_true, gval_false, pickV_true, pickV_false, apick_true, apick_false, gpick_true, gpick_false, ibin_leq, ibin_geq, ibin_lss, ibin_gtr, ibin_eql, ibin_neq, sbin_eql, sbin_neq, aun_not, Bool.not_true, Bool.not_false, decide_true, decide_false, if_true, if_false, Bool.false_eq_true, fldA_ptr, fldA_rop, anil_ptr, lenStr_str, amm_max, amm_min, Nat.zero_add, Nat.add_zero, List.length_cons, List.length_nil, Nat.reduceAdd]
    have hO : OkP size ps := fun j hj => hok j hj hj
    rw [if_pos hO] at h
    rw [List.take_length]
    by_cases c : 4000 < tot ps
    · have c' : (4000 : Int) < tot ps := by omega
      simp only [c', og_some', onr_ret, gval_true, gval_false, pickV_true, pickV_false, apick_true, apick_false, gpick_true, gpick_false, ibin_leq, ibin_geq, ibin_lss, ibin_gtr, ibin_eql, ibin_neq, sbin_eql, sbin_neq, aun_not, Bool.not_true, Bool.not_false, decide_true, decide_false, if_true, if_false, Bool.false_eq_true, fldA_ptr, fldA_rop, anil_ptr, lenStr_str, amm_max, amm_min, Nat.zero_add, Nat.add_zero, List.length_cons, List.length_nil, Nat.reduceAdd]
      rw [if_pos (by omega)] at h; exact aret_sub hs h
    · have c' : ¬ (4000 : Int) < tot ps := by omega
      simp only [c', og_some', onr_ret, gval_true, gval_false, pickV_true, pickV_false, apick_true, apick_false, gpick_true, gpick_false, ibin_leq, ibin_geq, ibin_lss, ibin_gtr, ibin_eql, ibin_neq, sbin_eql, sbin_neq, aun_not, Bool.not_true, Bool.not_false, decide_true, decide_false, if_true, if_false, Bool.false_eq_true, fldA_ptr, fldA_rop, anil_ptr, lenStr_str, amm_max, amm_min, Nat.zero_add, Nat.add_zero, List.length_cons, List.length_nil, Nat.reduceAdd]
      rw [if_neg (by omega)] at h; exact aret_sub hs h
end Go.Proofs.Ytjfdgijgkbojnaa.E
