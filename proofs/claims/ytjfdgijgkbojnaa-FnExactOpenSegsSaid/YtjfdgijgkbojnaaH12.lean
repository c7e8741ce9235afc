/- OpenSegs. -/
import Derived.Test.YtjfdgijgkbojnaaH11
set_option linter.unusedSectionVars false
set_option linter.unusedSimpArgs false
set_option linter.unusedVariables false
namespace Go.Proofs.Ytjfdgijgkbojnaa.E
open Go Go.RowKit
variable [L : Lam]
variable {σ : AH} {R : AEnd → AH → Prop}
set_option maxRecDepth 100000 in
theorem c_spec_l12Open {size : Int} {a : AV} {xs : List Int} (hS : Ns σ a xs) (h1 : 1 ≤ size) (hl : xs.length ≤ 4000)
    (h : ∀ σ' p qs, AH.Sub σ σ' → PB (dif σ σ') p qs → OkP size (qs.map Prod.snd) → (qs.map Prod.snd).flatten = xs → R (.ret (.agg [iv size, p])) σ') : acall TP fn_spec_l12Open [iv size, a] σ R := by
  refine s_spec_l12Open_ok ?_
  unfold s_spec_l12Open
  simp only [new_eq, bldI_0, og_some', onr_ret, gval_true, gval_false, pickV_true, pickV_false, apick_true, apick_false, gpick_true, gpick_false, ibin_leq, ibin_geq, ibin_lss, ibin_gtr, ibin_eql, ibin_neq, sbin_eql, sbin_neq, aun_not, Bool.not_true, Bool.not_false, decide_true, decide_false, if_true, if_false, Bool.false_eq_true, fldA_ptr, fldA_rop, anil_ptr, lenStr_str, amm_max, amm_min, Nat.zero_add, Nat.add_zero, List.length_cons, List.length_nil, Nat.reduceAdd]
  intro φ4 h4 φ5 h5
  simp only [AH.set_none] at h5
  obtain ⟨n54, h5⟩ := h5
  have hs4 : AH.Sub σ (σ.set φ4 ⟨0, 2, [[iv 0, nilS]]⟩) := sub_set (.refl σ) h4
  refine put_new (by rw [AH.set_ne' n54]; exact h5) rfl rfl (by simp [AV.one, Value.oneCell']) fun σ1 s1 f5 k1 => ?_
  have f4 : σ1 φ4 = some ⟨0, 2, [[iv 0, nilS]]⟩ := by rw [k1 φ4 (Ne.symm n54)]; exact AH.set_same ..
  have hs1 := hs4.trans s1
  refine lp_for xs.length (fun i => (a, .ptr φ4 0 0 0, .ptr φ5 0 0 0, iv i, ())) (fun i σi => ∃ p qs, σi φ5 = some ⟨0, 2, [[iv size, p]]⟩ ∧ PB σi p qs ∧ (∀ ψ, Foot p qs ψ → σ1 ψ = none) ∧ OkP size (qs.map Prod.snd) ∧ (qs.map Prod.snd).flatten = xs.take i ∧ qs.length + tot (qs.map Prod.snd) ≤ 2 * i ∧ ∀ χ F, χ ≠ φ5 → σ1 χ = some F → σi χ = some F)
    rfl ⟨nilS, [], f5, PB.nil, (by rintro ψ (hf | ⟨q, hq, _⟩); exact absurd hf (nofam_nil ψ); cases hq), (fun i hi => by simp at hi), by simp, by simp [tot], fun χ F _ hF => hF⟩ ?_
  rintro i σi hi ⟨p, qs, i1, i2, i3, i4, i5, i6, i7⟩ R' hR'
  have hsi : AH.Sub σ σi := fun χ F hF => by
    have hne : χ ≠ φ5 := by rintro rfl; rw [h5] at hF; cases hF
    exact i7 χ F hne (hs1.at hF)
  have hSi := hS.sub hsi
  simp only [hSi.len, og_some', onr_ret, gval_true, gval_false, pickV_true, pickV_false, apick_true, apick_false, gpick_true, gpick_false, ibin_leq, ibin_geq, ibin_lss, ibin_gtr, ibin_eql, ibin_neq, sbin_eql, sbin_neq, aun_not, Bool.not_true, Bool.not_false, decide_true, decide_false, if_true, if_false, Bool.false_eq_true, fldA_ptr, fldA_rop, anil_ptr, lenStr_str, amm_max, amm_min, Nat.zero_add, Nat.add_zero, List.length_cons, List.length_nil, Nat.reduceAdd]
  by_cases hlt : i < xs.length
  · have g0 : (i : Int) < xs.length := by omega
    obtain ⟨v, e1, e2, _⟩ := hSi.at hlt
    simp only [g0, e1, e2, og_some', onr_ret, gval_true, gval_false, pickV_true, pickV_false, apick_true, apick_false, gpick_true, gpick_false, ibin_leq, ibin_geq, ibin_lss, ibin_gtr, ibin_eql, ibin_neq, sbin_eql, sbin_neq, aun_not, Bool.not_true, Bool.not_false, decide_true, decide_false, if_true, if_false, Bool.false_eq_true, fldA_ptr, fldA_rop, anil_ptr, lenStr_str, amm_max, amm_min, Nat.zero_add, Nat.add_zero, List.length_cons, List.length_nil, Nat.reduceAdd]
    refine c_spec_l12Push i1 i2 i4 h1 (by omega) ?_
    intro σ2 p2 qs2 k1 k2 k3 k4 k5 k6 k7
    simp only [ibin_up hlt (by omega), og_some', onr_ret, gval_true, gval_false, pickV_true, pickV_false, apick_true, apick_false, gpick_true, gpick_false, ibin_leq, ibin_geq, ibin_lss, ibin_gtr, ibin_eql, ibin_neq, sbin_eql, sbin_neq, aun_not, Bool.not_true, Bool.not_false, decide_true, decide_false, if_true, if_false, Bool.false_eq_true, fldA_ptr, fldA_rop, anil_ptr, lenStr_str, amm_max, amm_min, Nat.zero_add, Nat.add_zero, List.length_cons, List.length_nil, Nat.reduceAdd]
    refine hR' hlt _ _ (.refl _) ⟨p2, qs2, k1, k2, ?_, k3, ?_, by omega, ?_⟩
    · intro ψ hf
      rcases k7 ψ hf with hf' | hf'
      · exact i3 ψ hf'
      · by_cases c : ψ = φ5
        · rw [c, i1] at hf'; cases hf'
        · cases e : σ1 ψ with
          | none => rfl
          | some F => rw [i7 ψ F c e] at hf'; cases hf'
    · rw [k4, i5, List.take_succ_eq_append_getElem hlt]
    · intro χ F hne hF
      exact k6 χ F hne (fun hf => by rw [i3 χ hf] at hF; cases hF) (i7 χ F hne hF)
  · have g0 : ¬ (i : Int) < xs.length := by omega
    obtain rfl : i = xs.length := by omega
    rw [List.take_length] at i5
    have e5 := lodA_at (σ := σi) (φ := φ5) (st := 0) (i := 0) (n := 2) (cs := [iv size, p]) i1 rfl rfl rfl
    simp only [g0, e5, og_some', onr_ret, gval_true, gval_false, pickV_true, pickV_false, apick_true, apick_false, gpick_true, gpick_false, ibin_leq, ibin_geq, ibin_lss, ibin_gtr, ibin_eql, ibin_neq, sbin_eql, sbin_neq, aun_not, Bool.not_true, Bool.not_false, decide_true, decide_false, if_true, if_false, Bool.false_eq_true, fldA_ptr, fldA_rop, anil_ptr, lenStr_str, amm_max, amm_min, Nat.zero_add, Nat.add_zero, List.length_cons, List.length_nil, Nat.reduceAdd]
    refine sto_own (es := [[iv 0, nilS]]) (cs := [iv size, p]) (i7 φ4 _ (Ne.symm n54) f4) (by simp) (by simp) rfl rfl (one2 i2.out.one.2) ?_
    simp [lodA, acellsAt]
    refine ret_here (h _ p qs (sub_set hsi h4) ?_ i4 i5)
    have hk : ∀ ψ, Foot p qs ψ → (σi.set φ4 ⟨0, 2, [[iv size, p]]⟩) ψ = σi ψ := fun ψ hf => AH.set_ne' (by rintro rfl; have := i3 _ hf; rw [f4] at this; cases this)
    exact (i2.keep hk).dif ⟨fun ψ hψ => hs1.none (i3 ψ (.inl hψ)), fun q hq ψ hψ => hs1.none (i3 ψ (.inr ⟨q, hq, hψ⟩))⟩
/-- What OpenSegs answers. -/
def OpenR (size : Int) (xs : List Int) (c s : Int) (ps : List (List Int)) : Prop :=
  if 1 ≤ size ∧ size ≤ 64 then if xs.length ≤ 4000 then c = 0 ∧ s = size ∧ OkP size ps ∧ ps.flatten = xs else c = 2 ∧ s = 0 ∧ ps = [] else c = 3 ∧ s = 0 ∧ ps = []
theorem OpenR.unique {size : Int} {xs : List Int} {c s c' s' : Int} {ps ps' : List (List Int)} (h : OpenR size xs c s ps) (h' : OpenR size xs c' s' ps') : c = c' ∧ s = s' ∧ ps = ps' := by
  unfold OpenR at h h'
  split at h
  · rename_i c1
    rw [if_pos c1] at h'
    split at h
    · rename_i c2
      rw [if_pos c2] at h'
      obtain ⟨rfl, rfl, o1, e1⟩ := h
      obtain ⟨rfl, rfl, o2, e2⟩ := h'
      exact ⟨rfl, rfl, okp_unique o1 o2 (by rw [e1, e2])⟩
    · rename_i c2
      rw [if_neg c2] at h'
      obtain ⟨rfl, rfl, rfl⟩ := h
      obtain ⟨rfl, rfl, rfl⟩ := h'
      exact ⟨rfl, rfl, rfl⟩
  · rename_i c1
    rw [if_neg c1] at h'
    obtain ⟨rfl, rfl, rfl⟩ := h
    obtain ⟨rfl, rfl, rfl⟩ := h'
    exact ⟨rfl, rfl, rfl⟩
theorem one_le_flat {size : Int} : ∀ {ps : List (List Int)}, OkP size ps → ps.length ≤ ps.flatten.length := by
  intro ps
  induction ps with
  | nil => intro _; simp
  | cons p ps ih =>
    intro h
    have h1 := (h 0 (by simp)).1
    have h2 := ih (okAt_tail h)
    simp only [List.getElem_cons_zero] at h1
    simp only [List.flatten_cons, List.length_append, List.length_cons]
    omega
theorem OpenR.small {size : Int} {xs : List Int} {c s : Int} {ps : List (List Int)} (h : OpenR size xs c s ps) : ps.length + tot ps ≤ 8000 := by
  unfold OpenR at h
  split at h
  · split at h
    · obtain ⟨_, _, h1, h2⟩ := h
      have := one_le_flat h1
      rw [← tot_flatten]
      rw [h2] at this ⊢; omega
    · obtain ⟨_, _, rfl⟩ := h; simp [tot]
  · obtain ⟨_, _, rfl⟩ := h; simp [tot]
theorem bldS_0 (x : Int) : bld [iv 0, iv 0, iv 0, nilS] [(0, 1), (1, 1), (2, 2)] [(0, iv x)] = some (.agg [iv x, iv 0, iv 0, nilS]) := rfl
theorem bldS_2 (s : Int) (v : AV) : bld [iv 0, iv 0, iv 0, nilS] [(0, 1), (1, 1), (2, 2)] [(2, .agg [iv s, v])] = some (.agg [iv 0, iv 0, iv s, v]) := by simp [bld, afill, acells, spl]
theorem one4 {a b c : Int} {v : AV} (hv : v.one = true) : ∀ x, x ∈ [iv a, iv b, iv c, v] → x.one = true := by
  intro x hx
  simp only [List.mem_cons, List.not_mem_nil, or_false] at hx
  rcases hx with rfl | rfl | rfl | rfl
  · rfl
  · rfl
  · rfl
  · exact hv
theorem c_impl_OpenSegs {size : Int} {a : AV} {xs : List Int} (hS : Ns σ a xs) (hl : xs.length ≤ 1099511627776)
    (h : ∀ σ' c s p qs, AH.Sub σ σ' → PB (dif σ σ') p qs → OpenR size xs c s (qs.map Prod.snd) → R (.ret (.agg [iv c, iv 0, iv s, p])) σ') : acall TP fn_impl_OpenSegs [iv size, a] σ R := by
  refine s_impl_OpenSegs_ok ?_
  unfold s_impl_OpenSegs
  simp only [new_eq, og_some', onr_ret, gval_true, gval_false, pickV_true, pickV_false, apick_true, apick_false, gpick_true, gpick_false, ibin_leq, ibin_geq, ibin_lss, ibin_gtr, ibin_eql, ibin_neq, sbin_eql, sbin_neq, aun_not, Bool.not_true, Bool.not_false, decide_true, decide_false, if_true, if_false, Bool.false_eq_true, fldA_ptr, fldA_rop, anil_ptr, lenStr_str, amm_max, amm_min, Nat.zero_add, Nat.add_zero, List.length_cons, List.length_nil, Nat.reduceAdd]
  intro φ hφ
  have hs : AH.Sub σ (σ.set φ ⟨0, 4, [[iv 0, iv 0, iv 0, nilS]]⟩) := sub_set (.refl σ) hφ
  have hG : (σ.set φ ⟨0, 4, [[iv 0, iv 0, iv 0, nilS]]⟩) φ = some ⟨0, 4, [[iv 0, iv 0, iv 0, nilS]]⟩ := AH.set_same ..
  generalize hσ1 : σ.set φ ⟨0, 4, [[iv 0, iv 0, iv 0, nilS]]⟩ = σ1 at hs hG ⊢
  refine c_impl_isSize ?_
  simp only [og_some', onr_ret, gval_true, gval_false, pickV_true, pickV_false, apick_true, apick_false, gpick_true, gpick_false, ibin_leq, ibin_geq, ibin_lss, ibin_gtr, ibin_eql, ibin_neq, sbin_eql, sbin_neq, aun_not, Bool.not_true, Bool.not_false, decide_true, decide_false, if_true, if_false, Bool.false_eq_true, fldA_ptr, fldA_rop, anil_ptr, lenStr_str, amm_max, amm_min, Nat.zero_add, Nat.add_zero, List.length_cons, List.length_nil, Nat.reduceAdd]
  have fin : ∀ (c s : Int) (p : AV) (qs : List (AV × List Int)) (σ2 : AH), AH.Sub σ1 σ2 → PB (dif σ1 σ2) p qs → OpenR size xs c s (qs.map Prod.snd) →
      sto 4 (.ptr φ 0 0 0) (.agg [iv c, iv 0, iv s, p]) σ2 fun σ => og (lodA 4 (.ptr φ 0 0 0) σ) fun r4 => aret r4 σ R := by
    intro c s p qs σ2 s2 hB hO
    refine sto_own (cs := [iv c, iv 0, iv s, p]) (s2.at hG) (by simp) (by simp) rfl rfl (one4 hB.out.one.2) ?_
    simp [lodA, acellsAt]
    exact ret_here (h _ c s p qs (sub_set (hs.trans s2) hφ) (hB.sub (dif_keep' hs fun χ h1 _ => AH.set_ne' (by rintro rfl; rw [hG] at h1; cases h1))) hO)
  by_cases hsz : 1 ≤ size ∧ size ≤ 64
  case neg =>
    have : (decide (1 ≤ size) && decide (size ≤ 64)) = false := by simpa using hsz
    simp only [this, bldS_0, og_some', onr_ret, gval_true, gval_false, pickV_true, pickV_false, apick_true, apick_false, gpick_true, gpick_false, ibin_leq, ibin_geq, ibin_lss, ibin_gtr, ibin_eql, ibin_neq, sbin_eql, sbin_neq, aun_not, Bool.not_true, Bool.not_false, decide_true, decide_false, if_true, if_false, Bool.false_eq_true, fldA_ptr, fldA_rop, anil_ptr, lenStr_str, amm_max, amm_min, Nat.zero_add, Nat.add_zero, List.length_cons, List.length_nil, Nat.reduceAdd]
    exact fin 3 0 nilS [] σ1 (.refl _) PB.nil (by unfold OpenR; rw [if_neg hsz]; exact ⟨rfl, rfl, rfl⟩)
  have : (decide (1 ≤ size) && decide (size ≤ 64)) = true := by simpa using hsz
  simp only [this, hS.len, og_some', onr_ret, gval_true, gval_false, pickV_true, pickV_false, apick_true, apick_false, gpick_true, gpick_false, ibin_leq, ibin_geq, ibin_lss, ibin_gtr, ibin_eql, ibin_neq, sbin_eql, sbin_neq, aun_not, Bool.not_true, Bool.not_false, decide_true, decide_false, if_true, if_false, Bool.false_eq_true, fldA_ptr, fldA_rop, anil_ptr, lenStr_str, amm_max, amm_min, Nat.zero_add, Nat.add_zero, List.length_cons, List.length_nil, Nat.reduceAdd]
  by_cases hc : (4000 : Int) < xs.length
  · simp only [hc, bldS_0, og_some', onr_ret, gval_true, gval_false, pickV_true, pickV_false, apick_true, apick_false, gpick_true, gpick_false, ibin_leq, ibin_geq, ibin_lss, ibin_gtr, ibin_eql, ibin_neq, sbin_eql, sbin_neq, aun_not, Bool.not_true, Bool.not_false, decide_true, decide_false, if_true, if_false, Bool.false_eq_true, fldA_ptr, fldA_rop, anil_ptr, lenStr_str, amm_max, amm_min, Nat.zero_add, Nat.add_zero, List.length_cons, List.length_nil, Nat.reduceAdd]
    exact fin 2 0 nilS [] σ1 (.refl _) PB.nil (by unfold OpenR; rw [if_pos hsz, if_neg (by omega)]; exact ⟨rfl, rfl, rfl⟩)
  simp only [hc, og_some', onr_ret, gval_true, gval_false, pickV_true, pickV_false, apick_true, apick_false, gpick_true, gpick_false, ibin_leq, ibin_geq, ibin_lss, ibin_gtr, ibin_eql, ibin_neq, sbin_eql, sbin_neq, aun_not, Bool.not_true, Bool.not_false, decide_true, decide_false, if_true, if_false, Bool.false_eq_true, fldA_ptr, fldA_rop, anil_ptr, lenStr_str, amm_max, amm_min, Nat.zero_add, Nat.add_zero, List.length_cons, List.length_nil, Nat.reduceAdd]
  refine c_impl_segsOf (hS.sub hs) hsz.1 hsz.2 (by omega) fun p σ2 qs k1 k2 k3 k4 => ?_
  simp only [bldS_2, og_some', onr_ret, gval_true, gval_false, pickV_true, pickV_false, apick_true, apick_false, gpick_true, gpick_false, ibin_leq, ibin_geq, ibin_lss, ibin_gtr, ibin_eql, ibin_neq, sbin_eql, sbin_neq, aun_not, Bool.not_true, Bool.not_false, decide_true, decide_false, if_true, if_false, Bool.false_eq_true, fldA_ptr, fldA_rop, anil_ptr, lenStr_str, amm_max, amm_min, Nat.zero_add, Nat.add_zero, List.length_cons, List.length_nil, Nat.reduceAdd]
  exact fin 0 size p qs σ2 k1 k2 (by unfold OpenR; rw [if_pos hsz, if_pos (by omega)]; exact ⟨rfl, rfl, k3, k4⟩)
theorem c_spec_OpenSegs_own {size : Int} {a : AV} {xs : List Int} (hS : Ns σ a xs) (hl : xs.length ≤ 1099511627776)
    (h : ∀ σ' c s p qs, AH.Sub σ σ' → PB (dif σ σ') p qs → OpenR size xs c s (qs.map Prod.snd) → R (.ret (.agg [iv c, iv 0, iv s, p])) σ') : acall TP fn_spec_OpenSegs [iv size, a] σ R := by
  refine s_spec_OpenSegs_ok ?_
  unfold s_spec_OpenSegs
  simp only [new_eq, og_some', onr_ret, gval_true, gval_false, pickV_true, pickV_false, apick_true, apick_false, gpick_true, gpick_false, ibin_leq, ibin_geq, ibin_lss, ibin_gtr, ibin_eql, ibin_neq, sbin_eql, sbin_neq, aun_not, Bool.not_true, Bool.not_false, decide_true, decide_false, if_true, if_false, Bool.false_eq_true, fldA_ptr, fldA_rop, anil_ptr, lenStr_str, amm_max, amm_min, Nat.zero_add, Nat.add_zero, List.length_cons, List.length_nil, Nat.reduceAdd]
  intro φ hφ
  have hs : AH.Sub σ (σ.set φ ⟨0, 4, [[iv 0, iv 0, iv 0, nilS]]⟩) := sub_set (.refl σ) hφ
  have hG : (σ.set φ ⟨0, 4, [[iv 0, iv 0, iv 0, nilS]]⟩) φ = some ⟨0, 4, [[iv 0, iv 0, iv 0, nilS]]⟩ := AH.set_same ..
  generalize hσ1 : σ.set φ ⟨0, 4, [[iv 0, iv 0, iv 0, nilS]]⟩ = σ1 at hs hG ⊢
  refine c_spec_l12Size ?_
  simp only [og_some', onr_ret, gval_true, gval_false, pickV_true, pickV_false, apick_true, apick_false, gpick_true, gpick_false, ibin_leq, ibin_geq, ibin_lss, ibin_gtr, ibin_eql, ibin_neq, sbin_eql, sbin_neq, aun_not, Bool.not_true, Bool.not_false, decide_true, decide_false, if_true, if_false, Bool.false_eq_true, fldA_ptr, fldA_rop, anil_ptr, lenStr_str, amm_max, amm_min, Nat.zero_add, Nat.add_zero, List.length_cons, List.length_nil, Nat.reduceAdd]
  have fin : ∀ (c s : Int) (p : AV) (qs : List (AV × List Int)) (σ2 : AH), AH.Sub σ1 σ2 → PB (dif σ1 σ2) p qs → OpenR size xs c s (qs.map Prod.snd) →
      sto 4 (.ptr φ 0 0 0) (.agg [iv c, iv 0, iv s, p]) σ2 fun σ => og (lodA 4 (.ptr φ 0 0 0) σ) fun r4 => aret r4 σ R := by
    intro c s p qs σ2 s2 hB hO
    refine sto_own (cs := [iv c, iv 0, iv s, p]) (s2.at hG) (by simp) (by simp) rfl rfl (one4 hB.out.one.2) ?_
    simp [lodA, acellsAt]
    exact ret_here (h _ c s p qs (sub_set (hs.trans s2) hφ) (hB.sub (dif_keep' hs fun χ h1 _ => AH.set_ne' (by rintro rfl; rw [hG] at h1; cases h1))) hO)
  by_cases hsz : 1 ≤ size ∧ size ≤ 64
  case neg =>
    have : (decide (1 ≤ size) && decide (size ≤ 64)) = false := by simpa using hsz
    simp only [this, bldS_0, og_some', onr_ret, gval_true, gval_false, pickV_true, pickV_false, apick_true, apick_false, gpick_true, gpick_false, ibin_leq, ibin_geq, ibin_lss, ibin_gtr, ibin_eql, ibin_neq, sbin_eql, sbin_neq, aun_not, Bool.not_true, Bool.not_false, decide_true, decide_false, if_true, if_false, Bool.false_eq_true, fldA_ptr, fldA_rop, anil_ptr, lenStr_str, amm_max, amm_min, Nat.zero_add, Nat.add_zero, List.length_cons, List.length_nil, Nat.reduceAdd]
    exact fin 3 0 nilS [] σ1 (.refl _) PB.nil (by unfold OpenR; rw [if_neg hsz]; exact ⟨rfl, rfl, rfl⟩)
  have : (decide (1 ≤ size) && decide (size ≤ 64)) = true := by simpa using hsz
  simp only [this, hS.len, og_some', onr_ret, gval_true, gval_false, pickV_true, pickV_false, apick_true, apick_false, gpick_true, gpick_false, ibin_leq, ibin_geq, ibin_lss, ibin_gtr, ibin_eql, ibin_neq, sbin_eql, sbin_neq, aun_not, Bool.not_true, Bool.not_false, decide_true, decide_false, if_true, if_false, Bool.false_eq_true, fldA_ptr, fldA_rop, anil_ptr, lenStr_str, amm_max, amm_min, Nat.zero_add, Nat.add_zero, List.length_cons, List.length_nil, Nat.reduceAdd]
  by_cases hc : (4000 : Int) < xs.length
  · simp only [hc, bldS_0, og_some', onr_ret, gval_true, gval_false, pickV_true, pickV_false, apick_true, apick_false, gpick_true, gpick_false, ibin_leq, ibin_geq, ibin_lss, ibin_gtr, ibin_eql, ibin_neq, sbin_eql, sbin_neq, aun_not, Bool.not_true, Bool.not_false, decide_true, decide_false, if_true, if_false, Bool.false_eq_true, fldA_ptr, fldA_rop, anil_ptr, lenStr_str, amm_max, amm_min, Nat.zero_add, Nat.add_zero, List.length_cons, List.length_nil, Nat.reduceAdd]
    exact fin 2 0 nilS [] σ1 (.refl _) PB.nil (by unfold OpenR; rw [if_pos hsz, if_neg (by omega)]; exact ⟨rfl, rfl, rfl⟩)
  simp only [hc, og_some', onr_ret, gval_true, gval_false, pickV_true, pickV_false, apick_true, apick_false, gpick_true, gpick_false, ibin_leq, ibin_geq, ibin_lss, ibin_gtr, ibin_eql, ibin_neq, sbin_eql, sbin_neq, aun_not, Bool.not_true, Bool.not_false, decide_true, decide_false, if_true, if_false, Bool.false_eq_true, fldA_ptr, fldA_rop, anil_ptr, lenStr_str, amm_max, amm_min, Nat.zero_add, Nat.add_zero, List.length_cons, List.length_nil, Nat.reduceAdd]
  refine c_spec_l12Open (hS.sub hs) hsz.1 (by omega) fun σ2 p qs k1 k2 k3 k4 => ?_
  simp only [bldS_2, og_some', onr_ret, gval_true, gval_false, pickV_true, pickV_false, apick_true, apick_false, gpick_true, gpick_false, ibin_leq, ibin_geq, ibin_lss, ibin_gtr, ibin_eql, ibin_neq, sbin_eql, sbin_neq, aun_not, Bool.not_true, Bool.not_false, decide_true, decide_false, if_true, if_false, Bool.false_eq_true, fldA_ptr, fldA_rop, anil_ptr, lenStr_str, amm_max, amm_min, Nat.zero_add, Nat.add_zero, List.length_cons, List.length_nil, Nat.reduceAdd]
  exact fin 0 size p qs σ2 k1 k2 (by unfold OpenR; rw [if_pos hsz, if_pos (by omega)]; exact ⟨rfl, rfl, k3, k4⟩)
theorem c_spec_OpenSegs {size : Int} {a : AV} {xs : List Int} (hS : Ns σ a xs) (hl : xs.length ≤ 1099511627776)
    (h : ∀ c s ps, OpenR size xs c s ps → R (.ret (.agg [iv c, iv 0, iv s, roP ps])) σ) : acall TP fn_spec_OpenSegs [iv size, a] σ R := by
  refine acall_imp (Q := fun e σ' => ∃ c s p ps, e = .ret (.agg [iv c, iv 0, iv s, p]) ∧ AH.Sub σ σ' ∧ Ps (dif σ σ') p ps ∧ OpenR size xs c s ps) (c_spec_OpenSegs_own hS hl fun σ' c s p qs h1 hB hO => ⟨c, s, p, _, rfl, h1, hB.ps, hO⟩) ?_
  rintro e σ' ⟨c, s, p, ps, rfl, h1, h2, h3⟩
  exact ⟨_, rfl, _, σ, imp_freeze h1 (.agg4 (.same _) (.same _) (.same _) h2.fz), h c s ps h3⟩

/-! ### answers looked at, marked, held -/
theorem c_laws_eqSegsResult {p q : AV} {c v n c' v' m : Int} {ss ts : List (List Int)} (hS : Ps σ p ss) (hT : Ps σ q ts) (hl : ss.length ≤ 1099511627776) (hm : ∀ p, p ∈ ss → p.length ≤ 1099511627776)
    (h : R (.ret (bv (decide (c = c') && (decide (v = v') && (decide (n = m) && decide (ss = ts)))))) σ) : acall TP fn_laws_eqSegsResult [.agg [iv c, iv v, iv n, p], .agg [iv c', iv v', iv m, q]] σ R := by
  refine s_laws_eqSegsResult_ok ?_
  unfold s_laws_eqSegsResult
  simp only [abox_agg, og_some', onr_ret, gval_true, gval_false, pickV_true, pickV_false, apick_true, apick_false, gpick_true, gpick_false, ibin_leq, ibin_geq, ibin_lss, ibin_gtr, ibin_eql, ibin_neq, sbin_eql, sbin_neq, aun_not, Bool.not_true, Bool.not_false, decide_true, decide_false, if_true, if_false, Bool.false_eq_true, fldA_ptr, fldA_rop, anil_ptr, lenStr_str, amm_max, amm_min, Nat.zero_add, Nat.add_zero, List.length_cons, List.length_nil, Nat.reduceAdd]
  intro φ hφ ψ hψ
  simp only [AH.set_none] at hψ
  obtain ⟨hne, hψ⟩ := hψ
  have hs : AH.Sub σ ((σ.set φ ⟨0, 4, [[iv c, iv v, iv n, p]]⟩).set ψ ⟨0, 4, [[iv c', iv v', iv m, q]]⟩) := sub_set (sub_set (.refl σ) hφ) hψ
  have g1 : ((σ.set φ ⟨0, 4, [[iv c, iv v, iv n, p]]⟩).set ψ ⟨0, 4, [[iv c', iv v', iv m, q]]⟩) φ = some ⟨0, 4, [[iv c, iv v, iv n, p]]⟩ := by rw [AH.set_ne' (Ne.symm hne), AH.set_same]
  have g2 : ((σ.set φ ⟨0, 4, [[iv c, iv v, iv n, p]]⟩).set ψ ⟨0, 4, [[iv c', iv v', iv m, q]]⟩) ψ = some ⟨0, 4, [[iv c', iv v', iv m, q]]⟩ := AH.set_same ..
  generalize (σ.set φ ⟨0, 4, [[iv c, iv v, iv n, p]]⟩).set ψ ⟨0, 4, [[iv c', iv v', iv m, q]]⟩ = σ1 at hs g1 g2 ⊢
  have a0 := lod_at (st := 0) (i := 0) (off := 0) (c := iv c) g1 rfl rfl
  have a1 := lod_at (st := 0) (i := 0) (off := 1) (c := iv v) g1 rfl rfl
  have b0 := lod_at (st := 0) (i := 0) (off := 0) (c := iv c') g2 rfl rfl
  have b1 := lod_at (st := 0) (i := 0) (off := 1) (c := iv v') g2 rfl rfl
  have a2 : lodA 2 (.ptr φ 0 0 2) σ1 = some (.agg [iv n, p]) := by simp [lodA, acellsAt, g1]
  have b2 : lodA 2 (.ptr ψ 0 0 2) σ1 = some (.agg [iv m, q]) := by simp [lodA, acellsAt, g2]
  simp only [a0, b0, og_some', onr_ret, gval_true, gval_false, pickV_true, pickV_false, apick_true, apick_false, gpick_true, gpick_false, ibin_leq, ibin_geq, ibin_lss, ibin_gtr, ibin_eql, ibin_neq, sbin_eql, sbin_neq, aun_not, Bool.not_true, Bool.not_false, decide_true, decide_false, if_true, if_false, Bool.false_eq_true, fldA_ptr, fldA_rop, anil_ptr, lenStr_str, amm_max, amm_min, Nat.zero_add, Nat.add_zero, List.length_cons, List.length_nil, Nat.reduceAdd]
  by_cases h1 : c = c'
  case neg => simp only [decide_eq_false h1, Bool.false_and, og_some', onr_ret, gval_true, gval_false, pickV_true, pickV_false, apick_true, apick_false, gpick_true, gpick_false, ibin_leq, ibin_geq, ibin_lss, ibin_gtr, ibin_eql, ibin_neq, sbin_eql, sbin_neq, aun_not, Bool.not_true, Bool.not_false, decide_true, decide_false, if_true, if_false, Bool.false_eq_true, fldA_ptr, fldA_rop, anil_ptr, lenStr_str, amm_max, amm_min, Nat.zero_add, Nat.add_zero, List.length_cons, List.length_nil, Nat.reduceAdd] at h ⊢; exact aret_sub hs h
  simp only [decide_eq_true h1, Bool.true_and, a1, b1, og_some', onr_ret, gval_true, gval_false, pickV_true, pickV_false, apick_true, apick_false, gpick_true, gpick_false, ibin_leq, ibin_geq, ibin_lss, ibin_gtr, ibin_eql, ibin_neq, sbin_eql, sbin_neq, aun_not, Bool.not_true, Bool.not_false, decide_true, decide_false, if_true, if_false, Bool.false_eq_true, fldA_ptr, fldA_rop, anil_ptr, lenStr_str, amm_max, amm_min, Nat.zero_add, Nat.add_zero, List.length_cons, List.length_nil, Nat.reduceAdd] at h ⊢
  by_cases h2 : v = v'
  case neg => simp only [decide_eq_false h2, Bool.false_and, og_some', onr_ret, gval_true, gval_false, pickV_true, pickV_false, apick_true, apick_false, gpick_true, gpick_false, ibin_leq, ibin_geq, ibin_lss, ibin_gtr, ibin_eql, ibin_neq, sbin_eql, sbin_neq, aun_not, Bool.not_true, Bool.not_false, decide_true, decide_false, if_true, if_false, Bool.false_eq_true, fldA_ptr, fldA_rop, anil_ptr, lenStr_str, amm_max, amm_min, Nat.zero_add, Nat.add_zero, List.length_cons, List.length_nil, Nat.reduceAdd] at h ⊢; exact aret_sub hs h
  simp only [decide_eq_true h2, Bool.true_and, a2, b2, og_some', onr_ret, gval_true, gval_false, pickV_true, pickV_false, apick_true, apick_false, gpick_true, gpick_false, ibin_leq, ibin_geq, ibin_lss, ibin_gtr, ibin_eql, ibin_neq, sbin_eql, sbin_neq, aun_not, Bool.not_true, Bool.not_false, decide_true, decide_false, if_true, if_false, Bool.false_eq_true, fldA_ptr, fldA_rop, anil_ptr, lenStr_str, amm_max, amm_min, Nat.zero_add, Nat.add_zero, List.length_cons, List.length_nil, Nat.reduceAdd] at h ⊢
  refine c_laws_eqSegs (hS.sub hs) (hT.sub hs) hl hm ?_
  simp only [og_some', onr_ret, gval_true, gval_false, pickV_true, pickV_false, apick_true, apick_false, gpick_true, gpick_false, ibin_leq, ibin_geq, ibin_lss, ibin_gtr, ibin_eql, ibin_neq, sbin_eql, sbin_neq, aun_not, Bool.not_true, Bool.not_false, decide_true, decide_false, if_true, if_false, Bool.false_eq_true, fldA_ptr, fldA_rop, anil_ptr, lenStr_str, amm_max, amm_min, Nat.zero_add, Nat.add_zero, List.length_cons, List.length_nil, Nat.reduceAdd]
  generalize (decide (n = m) && decide (ss = ts)) = b at h ⊢
  cases b
  · simp only [og_some', onr_ret, gval_true, gval_false, pickV_true, pickV_false, apick_true, apick_false, gpick_true, gpick_false, ibin_leq, ibin_geq, ibin_lss, ibin_gtr, ibin_eql, ibin_neq, sbin_eql, sbin_neq, aun_not, Bool.not_true, Bool.not_false, decide_true, decide_false, if_true, if_false, Bool.false_eq_true, fldA_ptr, fldA_rop, anil_ptr, lenStr_str, amm_max, amm_min, Nat.zero_add, Nat.add_zero, List.length_cons, List.length_nil, Nat.reduceAdd]; exact aret_sub hs h
  · simp only [og_some', onr_ret, gval_true, gval_false, pickV_true, pickV_false, apick_true, apick_false, gpick_true, gpick_false, ibin_leq, ibin_geq, ibin_lss, ibin_gtr, ibin_eql, ibin_neq, sbin_eql, sbin_neq, aun_not, Bool.not_true, Bool.not_false, decide_true, decide_false, if_true, if_false, Bool.false_eq_true, fldA_ptr, fldA_rop, anil_ptr, lenStr_str, amm_max, amm_min, Nat.zero_add, Nat.add_zero, List.length_cons, List.length_nil, Nat.reduceAdd]; exact aret_sub hs h
theorem c_laws_markSegsResult {a : AV} {c v size : Int} {qs : List (AV × List Int)} {k : Int} (hB : PB σ a qs) (h0 : 0 ≤ k) (hl : qs.length ≤ 1099511627776) (hb : k + tot (qs.map Prod.snd) ≤ 1099511627776)
    (h : ∀ σ', PB σ' a (marks k qs) → (∀ ψ, ¬ Foot a qs ψ → σ ψ ≠ none → σ' ψ = σ ψ) → R (.ret (iv (k + tot (qs.map Prod.snd)))) σ') : acall TP fn_laws_markSegsResult [.agg [iv c, iv v, iv size, a], iv k] σ R := by
  refine s_laws_markSegsResult_ok ?_
  unfold s_laws_markSegsResult
  simp only [abox_agg, og_some', onr_ret, gval_true, gval_false, pickV_true, pickV_false, apick_true, apick_false, gpick_true, gpick_false, ibin_leq, ibin_geq, ibin_lss, ibin_gtr, ibin_eql, ibin_neq, sbin_eql, sbin_neq, aun_not, Bool.not_true, Bool.not_false, decide_true, decide_false, if_true, if_false, Bool.false_eq_true, fldA_ptr, fldA_rop, anil_ptr, lenStr_str, amm_max, amm_min, Nat.zero_add, Nat.add_zero, List.length_cons, List.length_nil, Nat.reduceAdd]
  intro φ hφ
  have hs : AH.Sub σ (σ.set φ ⟨0, 4, [[iv c, iv v, iv size, a]]⟩) := sub_set (.refl σ) hφ
  have e : lodA 2 (.ptr φ 0 0 2) (σ.set φ ⟨0, 4, [[iv c, iv v, iv size, a]]⟩) = some (.agg [iv size, a]) := by simp [lodA, acellsAt]
  simp only [e, og_some', onr_ret, gval_true, gval_false, pickV_true, pickV_false, apick_true, apick_false, gpick_true, gpick_false, ibin_leq, ibin_geq, ibin_lss, ibin_gtr, ibin_eql, ibin_neq, sbin_eql, sbin_neq, aun_not, Bool.not_true, Bool.not_false, decide_true, decide_false, if_true, if_false, Bool.false_eq_true, fldA_ptr, fldA_rop, anil_ptr, lenStr_str, amm_max, amm_min, Nat.zero_add, Nat.add_zero, List.length_cons, List.length_nil, Nat.reduceAdd]
  refine c_laws_markSegs (hB.sub hs) h0 hl hb fun σ' k1 k2 => ?_
  simp only [og_some', onr_ret, gval_true, gval_false, pickV_true, pickV_false, apick_true, apick_false, gpick_true, gpick_false, ibin_leq, ibin_geq, ibin_lss, ibin_gtr, ibin_eql, ibin_neq, sbin_eql, sbin_neq, aun_not, Bool.not_true, Bool.not_false, decide_true, decide_false, if_true, if_false, Bool.false_eq_true, fldA_ptr, fldA_rop, anil_ptr, lenStr_str, amm_max, amm_min, Nat.zero_add, Nat.add_zero, List.length_cons, List.length_nil, Nat.reduceAdd]
  refine ret_here (h σ' k1 fun ψ h1 h2 => ?_)
  have hne : ψ ≠ φ := by rintro rfl; exact h2 hφ
  rw [k2 ψ (fun q hq hf => h1 (.inr ⟨q, hq, hf⟩)) (by rw [AH.set_ne' hne]; exact h2), AH.set_ne' hne]
/-- The lists that marking from k on leaves. -/
def mkl : Int → List Nat → List (List Int)
  | _, [] => []
  | k, n :: ns => mk k n :: mkl (k + n) ns
theorem marks_mkl : ∀ (qs : List (AV × List Int)) (k : Int), (marks k qs).map Prod.snd = mkl k (qs.map fun q => q.2.length) := by
  intro qs
  induction qs with
  | nil => intro k; rfl
  | cons q qs ih => intro k; simp only [marks, List.map_cons, mkl, ih]
theorem mkl_length : ∀ (ns : List Nat) (k : Int), (mkl k ns).length = ns.length := by
  intro ns
  induction ns with
  | nil => intro k; rfl
  | cons n ns ih => intro k; simp [mkl, ih]
def sum : List Nat → Nat
  | [] => 0
  | n :: ns => n + sum ns
theorem mkl_get : ∀ (ns : List Nat) (k : Int) (i : Nat) (h : i < (mkl k ns).length) (h' : i < ns.length), (mkl k ns)[i] = mk (k + sum (ns.take i)) ns[i] := by
  intro ns
  induction ns with
  | nil => intro k i h h'; cases h'
  | cons n ns ih =>
    intro k i h h'
    cases i with
    | zero => simp [mkl, sum]
    | succ i =>
      have := ih (k + n) i (by simpa [mkl] using h) (by simpa using h')
      simp only [mkl, List.getElem_cons_succ, this, List.take_succ_cons, sum]
      congr 1; omega
theorem sum_take (ns : List Nat) {i : Nat} (h : i < ns.length) : sum (ns.take (i + 1)) = sum (ns.take i) + ns[i] := by
  induction ns generalizing i with
  | nil => cases h
  | cons n ns ih =>
    cases i with
    | zero => simp [sum]
    | succ i =>
      have := ih (i := i) (by simpa using h)
      simp only [List.take_succ_cons, sum, this, List.getElem_cons_succ]; omega
theorem sum_take_le (ns : List Nat) (i : Nat) : sum (ns.take i) ≤ sum ns := by
  induction ns generalizing i with
  | nil => simp
  | cons n ns ih =>
    cases i with
    | zero => simp [sum]
    | succ i => have := ih i; simp only [List.take_succ_cons, sum]; omega
theorem sum_tot (qs : List (AV × List Int)) : sum (qs.map fun q => q.2.length) = tot (qs.map Prod.snd) := by
  induction qs with
  | nil => rfl
  | cons q qs ih => simp [sum, tot, ih]
theorem c_laws_heldSegPartS {a : AV} {ns : List Nat} {k : Int} (hS : Ps σ a (mkl k ns)) (h0 : 0 ≤ k) (hb : k + ns.length + sum ns ≤ 1099511627776)
    (h : R (.ret (iv (k + sum ns))) σ) : acall TP fn_laws_heldSegPartS [a, iv k] σ R := by
  refine s_laws_heldSegPartS_ok ?_
  unfold s_laws_heldSegPartS
  refine lp_read ns.length (fun i => (a, iv (k + sum (ns.take i)), iv i, ())) (by simp [iv, sum]; rfl) ?_
  intro i hi R' hR'
  have hl := hS.len
  rw [mkl_length] at hl
  simp only [hl, og_some', onr_ret, gval_true, gval_false, pickV_true, pickV_false, apick_true, apick_false, gpick_true, gpick_false, ibin_leq, ibin_geq, ibin_lss, ibin_gtr, ibin_eql, ibin_neq, sbin_eql, sbin_neq, aun_not, Bool.not_true, Bool.not_false, decide_true, decide_false, if_true, if_false, Bool.false_eq_true, fldA_ptr, fldA_rop, anil_ptr, lenStr_str, amm_max, amm_min, Nat.zero_add, Nat.add_zero, List.length_cons, List.length_nil, Nat.reduceAdd]
  by_cases hlt : i < ns.length
  · have g0 : (i : Int) < ns.length := by omega
    have hlt' : i < (mkl k ns).length := by rw [mkl_length]; exact hlt
    obtain ⟨p, q, p', hp, hq, hf, hl', hN⟩ := hS.at hlt'
    rw [mkl_get ns k i hlt' hlt] at hN
    have hT := sum_take ns hlt
    have hT2 := sum_take_le ns (i + 1)
    simp only [g0, hp, hf, hl', og_some', onr_ret, gval_true, gval_false, pickV_true, pickV_false, apick_true, apick_false, gpick_true, gpick_false, ibin_leq, ibin_geq, ibin_lss, ibin_gtr, ibin_eql, ibin_neq, sbin_eql, sbin_neq, aun_not, Bool.not_true, Bool.not_false, decide_true, decide_false, if_true, if_false, Bool.false_eq_true, fldA_ptr, fldA_rop, anil_ptr, lenStr_str, amm_max, amm_min, Nat.zero_add, Nat.add_zero, List.length_cons, List.length_nil, Nat.reduceAdd]
    refine c_laws_heldInt64S hN (by omega) (by omega) ?_
    have g1 : ¬ k + (sum (ns.take i) : Int) + (ns[i] : Nat) < 0 := by omega
    simp only [g1, ibin_up hlt (by omega), og_some', onr_ret, gval_true, gval_false, pickV_true, pickV_false, apick_true, apick_false, gpick_true, gpick_false, ibin_leq, ibin_geq, ibin_lss, ibin_gtr, ibin_eql, ibin_neq, sbin_eql, sbin_neq, aun_not, Bool.not_true, Bool.not_false, decide_true, decide_false, if_true, if_false, Bool.false_eq_true, fldA_ptr, fldA_rop, anil_ptr, lenStr_str, amm_max, amm_min, Nat.zero_add, Nat.add_zero, List.length_cons, List.length_nil, Nat.reduceAdd]
    have e : k + (sum (ns.take i) : Int) + (ns[i] : Nat) = k + (sum (ns.take (i + 1)) : Nat) := by omega
    rw [e]
    exact hR' hlt _ (.refl _)
  · have g0 : ¬ (i : Int) < ns.length := by omega
    obtain rfl : i = ns.length := by omega
    simp only [g0, List.take_length, og_some', onr_ret, gval_true, gval_false, pickV_true, pickV_false, apick_true, apick_false, gpick_true, gpick_false, ibin_leq, ibin_geq, ibin_lss, ibin_gtr, ibin_eql, ibin_neq, sbin_eql, sbin_neq, aun_not, Bool.not_true, Bool.not_false, decide_true, decide_false, if_true, if_false, Bool.false_eq_true, fldA_ptr, fldA_rop, anil_ptr, lenStr_str, amm_max, amm_min, Nat.zero_add, Nat.add_zero, List.length_cons, List.length_nil, Nat.reduceAdd]
    exact ret_here h
theorem c_laws_heldSegs {a : AV} {size : Int} {ns : List Nat} {k : Int} (hS : Ps σ a (mkl k ns)) (h0 : 0 ≤ k) (hb : k + ns.length + sum ns ≤ 1099511627776)
    (h : R (.ret (iv (k + sum ns))) σ) : acall TP fn_laws_heldSegs [.agg [iv size, a], iv k] σ R := by
  refine s_laws_heldSegs_ok ?_
  unfold s_laws_heldSegs
  simp only [abox_agg, og_some', onr_ret, gval_true, gval_false, pickV_true, pickV_false, apick_true, apick_false, gpick_true, gpick_false, ibin_leq, ibin_geq, ibin_lss, ibin_gtr, ibin_eql, ibin_neq, sbin_eql, sbin_neq, aun_not, Bool.not_true, Bool.not_false, decide_true, decide_false, if_true, if_false, Bool.false_eq_true, fldA_ptr, fldA_rop, anil_ptr, lenStr_str, amm_max, amm_min, Nat.zero_add, Nat.add_zero, List.length_cons, List.length_nil, Nat.reduceAdd]
  intro φ hφ
  have hs : AH.Sub σ (σ.set φ ⟨0, 2, [[iv size, a]]⟩) := sub_set (.refl σ) hφ
  have e := lod_at (σ := σ.set φ ⟨0, 2, [[iv size, a]]⟩) (φ := φ) (st := 0) (i := 0) (off := 1) (c := a) (AH.set_same ..) rfl rfl
  simp only [e, og_some', onr_ret, gval_true, gval_false, pickV_true, pickV_false, apick_true, apick_false, gpick_true, gpick_false, ibin_leq, ibin_geq, ibin_lss, ibin_gtr, ibin_eql, ibin_neq, sbin_eql, sbin_neq, aun_not, Bool.not_true, Bool.not_false, decide_true, decide_false, if_true, if_false, Bool.false_eq_true, fldA_ptr, fldA_rop, anil_ptr, lenStr_str, amm_max, amm_min, Nat.zero_add, Nat.add_zero, List.length_cons, List.length_nil, Nat.reduceAdd]
  refine c_laws_heldSegPartS (hS.sub hs) h0 hb ?_
  have g : ¬ k + (sum ns : Int) < 0 := by omega
  simp only [g, og_some', onr_ret, gval_true, gval_false, pickV_true, pickV_false, apick_true, apick_false, gpick_true, gpick_false, ibin_leq, ibin_geq, ibin_lss, ibin_gtr, ibin_eql, ibin_neq, sbin_eql, sbin_neq, aun_not, Bool.not_true, Bool.not_false, decide_true, decide_false, if_true, if_false, Bool.false_eq_true, fldA_ptr, fldA_rop, anil_ptr, lenStr_str, amm_max, amm_min, Nat.zero_add, Nat.add_zero, List.length_cons, List.length_nil, Nat.reduceAdd]
  exact aret_sub hs h
theorem c_laws_heldSegsResult {a : AV} {c v size : Int} {ns : List Nat} {k : Int} (hS : Ps σ a (mkl k ns)) (h0 : 0 ≤ k) (hb : k + ns.length + sum ns ≤ 1099511627776)
    (h : R (.ret (iv (k + sum ns))) σ) : acall TP fn_laws_heldSegsResult [.agg [iv c, iv v, iv size, a], iv k] σ R := by
  refine s_laws_heldSegsResult_ok ?_
  unfold s_laws_heldSegsResult
  simp only [abox_agg, og_some', onr_ret, gval_true, gval_false, pickV_true, pickV_false, apick_true, apick_false, gpick_true, gpick_false, ibin_leq, ibin_geq, ibin_lss, ibin_gtr, ibin_eql, ibin_neq, sbin_eql, sbin_neq, aun_not, Bool.not_true, Bool.not_false, decide_true, decide_false, if_true, if_false, Bool.false_eq_true, fldA_ptr, fldA_rop, anil_ptr, lenStr_str, amm_max, amm_min, Nat.zero_add, Nat.add_zero, List.length_cons, List.length_nil, Nat.reduceAdd]
  intro φ hφ
  have hs : AH.Sub σ (σ.set φ ⟨0, 4, [[iv c, iv v, iv size, a]]⟩) := sub_set (.refl σ) hφ
  have e : lodA 2 (.ptr φ 0 0 2) (σ.set φ ⟨0, 4, [[iv c, iv v, iv size, a]]⟩) = some (.agg [iv size, a]) := by simp [lodA, acellsAt]
  simp only [e, og_some', onr_ret, gval_true, gval_false, pickV_true, pickV_false, apick_true, apick_false, gpick_true, gpick_false, ibin_leq, ibin_geq, ibin_lss, ibin_gtr, ibin_eql, ibin_neq, sbin_eql, sbin_neq, aun_not, Bool.not_true, Bool.not_false, decide_true, decide_false, if_true, if_false, Bool.false_eq_true, fldA_ptr, fldA_rop, anil_ptr, lenStr_str, amm_max, amm_min, Nat.zero_add, Nat.add_zero, List.length_cons, List.length_nil, Nat.reduceAdd]
  refine c_laws_heldSegs (hS.sub hs) h0 hb ?_
  have g : ¬ k + (sum ns : Int) < 0 := by omega
  simp only [g, og_some', onr_ret, gval_true, gval_false, pickV_true, pickV_false, apick_true, apick_false, gpick_true, gpick_false, ibin_leq, ibin_geq, ibin_lss, ibin_gtr, ibin_eql, ibin_neq, sbin_eql, sbin_neq, aun_not, Bool.not_true, Bool.not_false, decide_true, decide_false, if_true, if_false, Bool.false_eq_true, fldA_ptr, fldA_rop, anil_ptr, lenStr_str, amm_max, amm_min, Nat.zero_add, Nat.add_zero, List.length_cons, List.length_nil, Nat.reduceAdd]
  exact aret_sub hs h
end Go.Proofs.Ytjfdgijgkbojnaa.E
