import Derived.Test.YtoccfncmphipbaaHA5

/- PushSegs, PopSegs, ResizeSegs. -/
set_option linter.unusedSectionVars false
set_option linter.unusedSimpArgs false
set_option linter.unusedVariables false
namespace Go.Proofs.Ytoccfncmphipbaa.E
open Go Go.RowKit
variable [L : Lam]
variable {σ : AH} {R : AEnd → AH → Prop}
/-- An answer with a stack. -/
structure SgR where
  c : Int
  v : Int
  s : Int
  ps : List (List Int)
def SgR.small (r : SgR) : Prop := r.ps.length + tot r.ps ≤ 8000
/-- What PushSegs answers. -/
def PushR (size : Int) (ps : List (List Int)) (x : Int) (r : SgR) : Prop := r.v = 0 ∧ if segF size ps = 0 then OpenR size (ps.flatten ++ [x]) r.c r.s r.ps else r.c = segF size ps ∧ r.s = 0 ∧ r.ps = []
def ResizeR (size : Int) (ps : List (List Int)) (n : Int) (r : SgR) : Prop := r.v = 0 ∧ if segF size ps = 0 then OpenR n ps.flatten r.c r.s r.ps else r.c = segF size ps ∧ r.s = 0 ∧ r.ps = []
def PopR (size : Int) (ps : List (List Int)) (r : SgR) : Prop :=
  if segF size ps = 0 then
    if ps = [] then r = ⟨4, 0, 0, []⟩ else r.c = 0 ∧ r.s = size ∧ OkP size r.ps ∧ r.ps.flatten ++ [r.v] = ps.flatten
  else r = ⟨segF size ps, 0, 0, []⟩
theorem SgR.ext' {r r' : SgR} (h1 : r.c = r'.c) (h2 : r.v = r'.v) (h3 : r.s = r'.s) (h4 : r.ps = r'.ps) : r = r' := by cases r; cases r'; simp_all
theorem PushR.unique {size : Int} {ps : List (List Int)} {x : Int} {r r' : SgR} (h : PushR size ps x r) (h' : PushR size ps x r') : r = r' := by
  obtain ⟨v, h⟩ := h
  obtain ⟨v', h'⟩ := h'
  by_cases c : segF size ps = 0
  · rw [if_pos c] at h h'
    obtain ⟨a, b, e⟩ := h.unique h'
    exact SgR.ext' a (v.trans v'.symm) b e
  · rw [if_neg c] at h h'
    exact SgR.ext' (h.1.trans h'.1.symm) (v.trans v'.symm) (h.2.1.trans h'.2.1.symm) (h.2.2.trans h'.2.2.symm)
theorem ResizeR.unique {size : Int} {ps : List (List Int)} {x : Int} {r r' : SgR} (h : ResizeR size ps x r) (h' : ResizeR size ps x r') : r = r' := by
  obtain ⟨v, h⟩ := h
  obtain ⟨v', h'⟩ := h'
  by_cases c : segF size ps = 0
  · rw [if_pos c] at h h'
    obtain ⟨a, b, e⟩ := h.unique h'
    exact SgR.ext' a (v.trans v'.symm) b e
  · rw [if_neg c] at h h'
    exact SgR.ext' (h.1.trans h'.1.symm) (v.trans v'.symm) (h.2.1.trans h'.2.1.symm) (h.2.2.trans h'.2.2.symm)
theorem PopR.unique {size : Int} {ps : List (List Int)} {r r' : SgR} (h : PopR size ps r) (h' : PopR size ps r') : r = r' := by
  unfold PopR at h h'
  by_cases c : segF size ps = 0
  · rw [if_pos c] at h h'
    by_cases d : ps = []
    · rw [if_pos d] at h h'; rw [h, h']
    · rw [if_neg d] at h h'
      obtain ⟨a1, a2, a3, a4⟩ := h
      obtain ⟨b1, b2, b3, b4⟩ := h'
      have e := a4.trans b4.symm
      have e1 := List.append_inj_left' e rfl
      have e2 := List.append_inj_right' e rfl
      exact SgR.ext' (a1.trans b1.symm) (by simpa using e2) (a2.trans b2.symm) (okp_unique a3 b3 e1)
  · rw [if_neg c] at h h'; rw [h, h']
theorem PushR.small {size : Int} {ps : List (List Int)} {x : Int} {r : SgR} (h : PushR size ps x r) : r.small := by
  obtain ⟨v, h⟩ := h
  by_cases c : segF size ps = 0
  · rw [if_pos c] at h; exact h.small
  · rw [if_neg c] at h; unfold SgR.small; rw [h.2.2]; simp [tot]
theorem ResizeR.small {size : Int} {ps : List (List Int)} {x : Int} {r : SgR} (h : ResizeR size ps x r) : r.small := by
  obtain ⟨v, h⟩ := h
  by_cases c : segF size ps = 0
  · rw [if_pos c] at h; exact h.small
  · rw [if_neg c] at h; unfold SgR.small; rw [h.2.2]; simp [tot]
theorem PopR.small {size : Int} {ps : List (List Int)} {r : SgR} (h : PopR size ps r) : r.small := by
  unfold PopR at h
  unfold SgR.small
  by_cases c : segF size ps = 0
  · rw [if_pos c] at h
    by_cases d : ps = []
    · rw [if_pos d] at h; rw [h]; simp [tot]
    · rw [if_neg d] at h
      obtain ⟨a1, a2, a3, a4⟩ := h
      have := one_le_flat a3
      obtain ⟨_, _, o3⟩ := seg_ok c
      have e := congrArg List.length a4
      rw [tot_flatten, List.length_append, tot_flatten] at e
      rw [tot_flatten] at this
      simp at e
      omega
  · rw [if_neg c] at h; rw [h]; simp [tot]
theorem bldS_12 (x s : Int) (v : AV) : bld [iv 0, iv 0, iv 0, nilS] [(0, 1), (1, 1), (2, 2)] [(1, iv x), (2, .agg [iv s, v])] = some (.agg [iv 0, iv x, iv s, v]) := by simp [bld, afill, acells, spl, Value.cells]
/-- The frame that these functions share: the argument in a cell, the answer in a cell. -/
theorem two_cells {σ : AH} {size : Int} {p : AV} {φ ψ : Nat} (hφ : σ φ = none) (hψ : (σ.set φ ⟨0, 2, [[iv size, p]]⟩) ψ = none) :
    AH.Sub σ ((σ.set φ ⟨0, 2, [[iv size, p]]⟩).set ψ ⟨0, 4, [[iv 0, iv 0, iv 0, nilS]]⟩) ∧ σ ψ = none ∧ φ ≠ ψ ∧
    ((σ.set φ ⟨0, 2, [[iv size, p]]⟩).set ψ ⟨0, 4, [[iv 0, iv 0, iv 0, nilS]]⟩) φ = some ⟨0, 2, [[iv size, p]]⟩ ∧ ((σ.set φ ⟨0, 2, [[iv size, p]]⟩).set ψ ⟨0, 4, [[iv 0, iv 0, iv 0, nilS]]⟩) ψ = some ⟨0, 4, [[iv 0, iv 0, iv 0, nilS]]⟩ := by
  simp only [AH.set_none] at hψ
  refine ⟨sub_set (sub_set (.refl σ) hφ) hψ.2, hψ.2, Ne.symm hψ.1, ?_, AH.set_same ..⟩
  rw [AH.set_ne' (Ne.symm hψ.1), AH.set_same]
/-- An answer laid into its cell and returned. -/
theorem fin4 {σ σ1 σ2 : AH} {ψ : Nat} {c v s : Int} {p : AV} {zs : List AV} {qs : List (AV × List Int)} (hs : AH.Sub σ σ1) (hψ : σ ψ = none) (hG : σ1 ψ = some ⟨0, 4, [zs]⟩) (hz : zs.length = 4) (s2 : AH.Sub σ1 σ2) (hB : PB (dif σ1 σ2) p qs)
    (h : ∀ σ', AH.Sub σ σ' → PB (dif σ σ') p qs → R (.ret (.agg [iv c, iv v, iv s, p])) σ') :
    sto 4 (.ptr ψ 0 0 0) (.agg [iv c, iv v, iv s, p]) σ2 fun σ => og (lodA 4 (.ptr ψ 0 0 0) σ) fun r4 => aret r4 σ R := by
  refine sto_own (cs := [iv c, iv v, iv s, p]) (s2.at hG) (by simp) (by simpa using hz) rfl rfl (one4 hB.out.one.2) ?_
  simp [lodA, acellsAt]
  exact ret_here (h _ (sub_set (hs.trans s2) hψ) (hB.sub (dif_keep' hs fun χ h1 _ => AH.set_ne' (by rintro rfl; rw [hG] at h1; cases h1))))
theorem fin4P {σ σ1 σ2 : AH} {ψ : Nat} {c v s : Int} {p : AV} {zs : List AV} {ps : List (List Int)} (hs : AH.Sub σ σ1) (hψ : σ ψ = none) (hG : σ2 ψ = some ⟨0, 4, [zs]⟩) (hg : σ1 ψ ≠ none) (hz : zs.length = 4) (s2 : AH.Sub σ σ2) (hB : Ps (dif σ1 σ2) p ps) (h1 : p.one = true)
    (h : ∀ σ', AH.Sub σ σ' → Ps (dif σ σ') p ps → R (.ret (.agg [iv c, iv v, iv s, p])) σ') :
    sto 4 (.ptr ψ 0 0 0) (.agg [iv c, iv v, iv s, p]) σ2 fun σ => og (lodA 4 (.ptr ψ 0 0 0) σ) fun r4 => aret r4 σ R := by
  refine sto_own (cs := [iv c, iv v, iv s, p]) hG (by simp) (by simpa using hz) rfl rfl (one4 h1) ?_
  simp [lodA, acellsAt]
  exact ret_here (h _ (sub_set s2 hψ) (hB.sub (dif_keep' hs fun χ h1 _ => AH.set_ne' (by rintro rfl; exact hg h1))))
theorem flat_len {ps : List (List Int)} {n : Nat} (h : tot ps ≤ n) : ps.flatten.length ≤ n := by rw [tot_flatten]; exact h
theorem c_impl_PushSegs {size x : Int} {p : AV} {ps : List (List Int)} (hP : Ps σ p ps) (hb : ps.length + tot ps ≤ 1099511627776)
    (h : ∀ σ' r p' qs, AH.Sub σ σ' → PB (dif σ σ') p' qs → qs.map Prod.snd = r.ps → PushR size ps x r → R (.ret (.agg [iv r.c, iv r.v, iv r.s, p'])) σ') : acall TP fn_impl_PushSegs [.agg [iv size, p], iv x] σ R := by
  refine s_impl_PushSegs_ok ?_
  unfold s_impl_PushSegs
  simp only [abox_agg, new_eq, og_some', onr_ret, gval_true, gval_false, pickV_true, pickV_false, apick_true, apick_false, gpick_true, gpick_false, ibin_leq, ibin_geq, ibin_lss, ibin_gtr, ibin_eql, ibin_neq, sbin_eql, sbin_neq, aun_not, Bool.not_true, Bool.not_false, decide_true, decide_false, if_true, if_false, Bool.false_eq_true, fldA_ptr, fldA_rop, anil_ptr, lenStr_str, amm_max, amm_min, Nat.zero_add, Nat.add_zero, List.length_cons, List.length_nil, Nat.reduceAdd]
  intro φ hφ ψ hψ0
  obtain ⟨hs, hψ, hne, hF, hG⟩ := two_cells hφ hψ0
  generalize (σ.set φ ⟨0, 2, [[iv size, p]]⟩).set ψ ⟨0, 4, [[iv 0, iv 0, iv 0, nilS]]⟩ = σ1 at hs hF hG ⊢
  have e := lodA_at (st := 0) (i := 0) (n := 2) (cs := [iv size, p]) hF rfl rfl rfl
  simp only [e, og_some', onr_ret, gval_true, gval_false, pickV_true, pickV_false, apick_true, apick_false, gpick_true, gpick_false, ibin_leq, ibin_geq, ibin_lss, ibin_gtr, ibin_eql, ibin_neq, sbin_eql, sbin_neq, aun_not, Bool.not_true, Bool.not_false, decide_true, decide_false, if_true, if_false, Bool.false_eq_true, fldA_ptr, fldA_rop, anil_ptr, lenStr_str, amm_max, amm_min, Nat.zero_add, Nat.add_zero, List.length_cons, List.length_nil, Nat.reduceAdd]
  refine c_impl_SegsFault (hP.sub hs) hb ?_
  simp only [og_some', onr_ret, gval_true, gval_false, pickV_true, pickV_false, apick_true, apick_false, gpick_true, gpick_false, ibin_leq, ibin_geq, ibin_lss, ibin_gtr, ibin_eql, ibin_neq, sbin_eql, sbin_neq, aun_not, Bool.not_true, Bool.not_false, decide_true, decide_false, if_true, if_false, Bool.false_eq_true, fldA_ptr, fldA_rop, anil_ptr, lenStr_str, amm_max, amm_min, Nat.zero_add, Nat.add_zero, List.length_cons, List.length_nil, Nat.reduceAdd]
  by_cases c : segF size ps = 0
  case neg =>
    simp only [c, bldS_0, og_some', onr_ret, gval_true, gval_false, pickV_true, pickV_false, apick_true, apick_false, gpick_true, gpick_false, ibin_leq, ibin_geq, ibin_lss, ibin_gtr, ibin_eql, ibin_neq, sbin_eql, sbin_neq, aun_not, Bool.not_true, Bool.not_false, decide_true, decide_false, if_true, if_false, Bool.false_eq_true, fldA_ptr, fldA_rop, anil_ptr, lenStr_str, amm_max, amm_min, Nat.zero_add, Nat.add_zero, List.length_cons, List.length_nil, Nat.reduceAdd]
    exact fin4 hs hψ hG rfl (.refl _) PB.nil fun σ' k1 k2 => h σ' ⟨segF size ps, 0, 0, []⟩ _ [] k1 k2 rfl ⟨rfl, by rw [if_neg c]; exact ⟨rfl, rfl, rfl⟩⟩
  obtain ⟨o1, o2, o3⟩ := seg_ok c
  have e0 := lod_at (st := 0) (i := 0) (off := 0) (c := iv size) hF rfl rfl
  have er : bslR 1 [(.val (.int .i64 0))] 1 [(0, iv x)] = some (.ro [[iv x]]) := by simp [bslR, afillS, acells, spl, Value.cells]
  simp only [c, e, e0, er, og_some', onr_ret, gval_true, gval_false, pickV_true, pickV_false, apick_true, apick_false, gpick_true, gpick_false, ibin_leq, ibin_geq, ibin_lss, ibin_gtr, ibin_eql, ibin_neq, sbin_eql, sbin_neq, aun_not, Bool.not_true, Bool.not_false, decide_true, decide_false, if_true, if_false, Bool.false_eq_true, fldA_ptr, fldA_rop, anil_ptr, lenStr_str, amm_max, amm_min, Nat.zero_add, Nat.add_zero, List.length_cons, List.length_nil, Nat.reduceAdd]
  refine c_impl_Segs_items (hP.sub hs) hb (by omega) fun v σ2 k1 k2 => ?_
  have e0' := lod_at (σ := σ2) (st := 0) (i := 0) (off := 0) (c := iv size) (k1.at hF) rfl rfl
  simp only [e0', true_and, og_some', onr_ret, gval_true, gval_false, pickV_true, pickV_false, apick_true, apick_false, gpick_true, gpick_false, ibin_leq, ibin_geq, ibin_lss, ibin_gtr, ibin_eql, ibin_neq, sbin_eql, sbin_neq, aun_not, Bool.not_true, Bool.not_false, decide_true, decide_false, if_true, if_false, Bool.false_eq_true, fldA_ptr, fldA_rop, anil_ptr, lenStr_str, amm_max, amm_min, Nat.zero_add, Nat.add_zero, List.length_cons, List.length_nil, Nat.reduceAdd]
  have k2' : Buf σ2 1 v (ps.flatten.map fun x => [iv x]) := k2.sub (dif_sub _ _)
  refine Buf.app k2' (xs := [x].map fun x => [iv x]) rfl (iv_size [x]) (iv_one [x]) (by simp only [List.length_map, tot_flatten]; simp; omega) ?_
  intro v' σ3 b1 b2 b3 b4
  rw [← List.map_append] at b1
  have new_v : ∀ χ, Buf.fam v χ → σ1 χ = none := fun χ hf => by obtain ⟨F, hF2⟩ := k2.fam_some hf; exact (dif_some hF2).1
  have s13 : AH.Sub σ1 σ3 := fun χ F hχ => by
    rw [b2 χ (fun hf => by rw [new_v χ hf] at hχ; cases hχ) (by rw [k1.at hχ]; simp)]; exact k1.at hχ
  have e0'' := lod_at (σ := σ3) (st := 0) (i := 0) (off := 0) (c := iv size) (s13.at hF) rfl rfl
  simp only [e0'', true_and, og_some', onr_ret, gval_true, gval_false, pickV_true, pickV_false, apick_true, apick_false, gpick_true, gpick_false, ibin_leq, ibin_geq, ibin_lss, ibin_gtr, ibin_eql, ibin_neq, sbin_eql, sbin_neq, aun_not, Bool.not_true, Bool.not_false, decide_true, decide_false, if_true, if_false, Bool.false_eq_true, fldA_ptr, fldA_rop, anil_ptr, lenStr_str, amm_max, amm_min, Nat.zero_add, Nat.add_zero, List.length_cons, List.length_nil, Nat.reduceAdd]
  refine c_impl_OpenSegs (Buf.cs b1) (by simp only [List.length_append, tot_flatten]; simp; omega) fun σ4 c' s' p' qs s4 hB hO => ?_
  simp only [true_and, og_some', onr_ret, gval_true, gval_false, pickV_true, pickV_false, apick_true, apick_false, gpick_true, gpick_false, ibin_leq, ibin_geq, ibin_lss, ibin_gtr, ibin_eql, ibin_neq, sbin_eql, sbin_neq, aun_not, Bool.not_true, Bool.not_false, decide_true, decide_false, if_true, if_false, Bool.false_eq_true, fldA_ptr, fldA_rop, anil_ptr, lenStr_str, amm_max, amm_min, Nat.zero_add, Nat.add_zero, List.length_cons, List.length_nil, Nat.reduceAdd]
  refine fin4 hs hψ hG rfl (s13.trans s4) ?_ fun σ' k1 k2 => h σ' ⟨c', 0, s', _⟩ _ qs k1 k2 rfl ⟨rfl, by rw [if_pos c]; exact hO⟩
  exact hB.sub (dif_mono s13 (.refl _))
theorem c_impl_ResizeSegs {size n : Int} {p : AV} {ps : List (List Int)} (hP : Ps σ p ps) (hb : ps.length + tot ps ≤ 1099511627776)
    (h : ∀ σ' r p' qs, AH.Sub σ σ' → PB (dif σ σ') p' qs → qs.map Prod.snd = r.ps → ResizeR size ps n r → R (.ret (.agg [iv r.c, iv r.v, iv r.s, p'])) σ') : acall TP fn_impl_ResizeSegs [.agg [iv size, p], iv n] σ R := by
  refine s_impl_ResizeSegs_ok ?_
  unfold s_impl_ResizeSegs
  simp only [abox_agg, new_eq, og_some', onr_ret, gval_true, gval_false, pickV_true, pickV_false, apick_true, apick_false, gpick_true, gpick_false, ibin_leq, ibin_geq, ibin_lss, ibin_gtr, ibin_eql, ibin_neq, sbin_eql, sbin_neq, aun_not, Bool.not_true, Bool.not_false, decide_true, decide_false, if_true, if_false, Bool.false_eq_true, fldA_ptr, fldA_rop, anil_ptr, lenStr_str, amm_max, amm_min, Nat.zero_add, Nat.add_zero, List.length_cons, List.length_nil, Nat.reduceAdd]
  intro φ hφ ψ hψ0
  obtain ⟨hs, hψ, hne, hF, hG⟩ := two_cells hφ hψ0
  generalize (σ.set φ ⟨0, 2, [[iv size, p]]⟩).set ψ ⟨0, 4, [[iv 0, iv 0, iv 0, nilS]]⟩ = σ1 at hs hF hG ⊢
  have e := lodA_at (st := 0) (i := 0) (n := 2) (cs := [iv size, p]) hF rfl rfl rfl
  simp only [e, og_some', onr_ret, gval_true, gval_false, pickV_true, pickV_false, apick_true, apick_false, gpick_true, gpick_false, ibin_leq, ibin_geq, ibin_lss, ibin_gtr, ibin_eql, ibin_neq, sbin_eql, sbin_neq, aun_not, Bool.not_true, Bool.not_false, decide_true, decide_false, if_true, if_false, Bool.false_eq_true, fldA_ptr, fldA_rop, anil_ptr, lenStr_str, amm_max, amm_min, Nat.zero_add, Nat.add_zero, List.length_cons, List.length_nil, Nat.reduceAdd]
  refine c_impl_SegsFault (hP.sub hs) hb ?_
  simp only [og_some', onr_ret, gval_true, gval_false, pickV_true, pickV_false, apick_true, apick_false, gpick_true, gpick_false, ibin_leq, ibin_geq, ibin_lss, ibin_gtr, ibin_eql, ibin_neq, sbin_eql, sbin_neq, aun_not, Bool.not_true, Bool.not_false, decide_true, decide_false, if_true, if_false, Bool.false_eq_true, fldA_ptr, fldA_rop, anil_ptr, lenStr_str, amm_max, amm_min, Nat.zero_add, Nat.add_zero, List.length_cons, List.length_nil, Nat.reduceAdd]
  by_cases c : segF size ps = 0
  case neg =>
    simp only [c, bldS_0, og_some', onr_ret, gval_true, gval_false, pickV_true, pickV_false, apick_true, apick_false, gpick_true, gpick_false, ibin_leq, ibin_geq, ibin_lss, ibin_gtr, ibin_eql, ibin_neq, sbin_eql, sbin_neq, aun_not, Bool.not_true, Bool.not_false, decide_true, decide_false, if_true, if_false, Bool.false_eq_true, fldA_ptr, fldA_rop, anil_ptr, lenStr_str, amm_max, amm_min, Nat.zero_add, Nat.add_zero, List.length_cons, List.length_nil, Nat.reduceAdd]
    exact fin4 hs hψ hG rfl (.refl _) PB.nil fun σ' k1 k2 => h σ' ⟨segF size ps, 0, 0, []⟩ _ [] k1 k2 rfl ⟨rfl, by rw [if_neg c]; exact ⟨rfl, rfl, rfl⟩⟩
  obtain ⟨o1, o2, o3⟩ := seg_ok c
  simp only [c, e, og_some', onr_ret, gval_true, gval_false, pickV_true, pickV_false, apick_true, apick_false, gpick_true, gpick_false, ibin_leq, ibin_geq, ibin_lss, ibin_gtr, ibin_eql, ibin_neq, sbin_eql, sbin_neq, aun_not, Bool.not_true, Bool.not_false, decide_true, decide_false, if_true, if_false, Bool.false_eq_true, fldA_ptr, fldA_rop, anil_ptr, lenStr_str, amm_max, amm_min, Nat.zero_add, Nat.add_zero, List.length_cons, List.length_nil, Nat.reduceAdd]
  refine c_impl_Segs_items (hP.sub hs) hb (by omega) fun v σ2 k1 k2 => ?_
  have k2' : Buf σ2 1 v (ps.flatten.map fun x => [iv x]) := k2.sub (dif_sub _ _)
  simp only [og_some', onr_ret, gval_true, gval_false, pickV_true, pickV_false, apick_true, apick_false, gpick_true, gpick_false, ibin_leq, ibin_geq, ibin_lss, ibin_gtr, ibin_eql, ibin_neq, sbin_eql, sbin_neq, aun_not, Bool.not_true, Bool.not_false, decide_true, decide_false, if_true, if_false, Bool.false_eq_true, fldA_ptr, fldA_rop, anil_ptr, lenStr_str, amm_max, amm_min, Nat.zero_add, Nat.add_zero, List.length_cons, List.length_nil, Nat.reduceAdd]
  refine c_impl_OpenSegs (Buf.cs k2') (by rw [tot_flatten]; omega) fun σ4 c' s' p' qs s4 hB hO => ?_
  simp only [og_some', onr_ret, gval_true, gval_false, pickV_true, pickV_false, apick_true, apick_false, gpick_true, gpick_false, ibin_leq, ibin_geq, ibin_lss, ibin_gtr, ibin_eql, ibin_neq, sbin_eql, sbin_neq, aun_not, Bool.not_true, Bool.not_false, decide_true, decide_false, if_true, if_false, Bool.false_eq_true, fldA_ptr, fldA_rop, anil_ptr, lenStr_str, amm_max, amm_min, Nat.zero_add, Nat.add_zero, List.length_cons, List.length_nil, Nat.reduceAdd]
  refine fin4 hs hψ hG rfl (k1.trans s4) ?_ fun σ' k1 k2 => h σ' ⟨c', 0, s', _⟩ _ qs k1 k2 rfl ⟨rfl, by rw [if_pos c]; exact hO⟩
  exact hB.sub (dif_mono k1 (.refl _))
theorem ps_nil_flat {size : Int} {ps : List (List Int)} (h : OkP size ps) : ps = [] ↔ tot ps = 0 := by
  constructor
  · rintro rfl; rfl
  · intro e
    have := one_le_flat h
    rw [tot_flatten, e] at this
    exact List.eq_nil_of_length_eq_zero (by omega)
theorem c_impl_PopSegs {size : Int} {p : AV} {ps : List (List Int)} (hP : Ps σ p ps) (hb : ps.length + tot ps ≤ 1099511627776)
    (h : ∀ σ' r p' qs, AH.Sub σ σ' → PB (dif σ σ') p' qs → qs.map Prod.snd = r.ps → PopR size ps r → R (.ret (.agg [iv r.c, iv r.v, iv r.s, p'])) σ') : acall TP fn_impl_PopSegs [.agg [iv size, p]] σ R := by
  refine s_impl_PopSegs_ok ?_
  unfold s_impl_PopSegs
  simp only [abox_agg, new_eq, og_some', onr_ret, gval_true, gval_false, pickV_true, pickV_false, apick_true, apick_false, gpick_true, gpick_false, ibin_leq, ibin_geq, ibin_lss, ibin_gtr, ibin_eql, ibin_neq, sbin_eql, sbin_neq, aun_not, Bool.not_true, Bool.not_false, decide_true, decide_false, if_true, if_false, Bool.false_eq_true, fldA_ptr, fldA_rop, anil_ptr, lenStr_str, amm_max, amm_min, Nat.zero_add, Nat.add_zero, List.length_cons, List.length_nil, Nat.reduceAdd]
  intro φ hφ ψ hψ0
  obtain ⟨hs, hψ, hne, hF, hG⟩ := two_cells hφ hψ0
  generalize (σ.set φ ⟨0, 2, [[iv size, p]]⟩).set ψ ⟨0, 4, [[iv 0, iv 0, iv 0, nilS]]⟩ = σ1 at hs hF hG ⊢
  have e := lodA_at (st := 0) (i := 0) (n := 2) (cs := [iv size, p]) hF rfl rfl rfl
  simp only [e, og_some', onr_ret, gval_true, gval_false, pickV_true, pickV_false, apick_true, apick_false, gpick_true, gpick_false, ibin_leq, ibin_geq, ibin_lss, ibin_gtr, ibin_eql, ibin_neq, sbin_eql, sbin_neq, aun_not, Bool.not_true, Bool.not_false, decide_true, decide_false, if_true, if_false, Bool.false_eq_true, fldA_ptr, fldA_rop, anil_ptr, lenStr_str, amm_max, amm_min, Nat.zero_add, Nat.add_zero, List.length_cons, List.length_nil, Nat.reduceAdd]
  refine c_impl_SegsFault (hP.sub hs) hb ?_
  simp only [og_some', onr_ret, gval_true, gval_false, pickV_true, pickV_false, apick_true, apick_false, gpick_true, gpick_false, ibin_leq, ibin_geq, ibin_lss, ibin_gtr, ibin_eql, ibin_neq, sbin_eql, sbin_neq, aun_not, Bool.not_true, Bool.not_false, decide_true, decide_false, if_true, if_false, Bool.false_eq_true, fldA_ptr, fldA_rop, anil_ptr, lenStr_str, amm_max, amm_min, Nat.zero_add, Nat.add_zero, List.length_cons, List.length_nil, Nat.reduceAdd]
  by_cases c : segF size ps = 0
  case neg =>
    simp only [c, bldS_0, og_some', onr_ret, gval_true, gval_false, pickV_true, pickV_false, apick_true, apick_false, gpick_true, gpick_false, ibin_leq, ibin_geq, ibin_lss, ibin_gtr, ibin_eql, ibin_neq, sbin_eql, sbin_neq, aun_not, Bool.not_true, Bool.not_false, decide_true, decide_false, if_true, if_false, Bool.false_eq_true, fldA_ptr, fldA_rop, anil_ptr, lenStr_str, amm_max, amm_min, Nat.zero_add, Nat.add_zero, List.length_cons, List.length_nil, Nat.reduceAdd]
    exact fin4 hs hψ hG rfl (.refl _) PB.nil fun σ' k1 k2 => h σ' ⟨segF size ps, 0, 0, []⟩ _ [] k1 k2 rfl (by unfold PopR; rw [if_neg c])
  obtain ⟨o1, o2, o3⟩ := seg_ok c
  simp only [c, e, og_some', onr_ret, gval_true, gval_false, pickV_true, pickV_false, apick_true, apick_false, gpick_true, gpick_false, ibin_leq, ibin_geq, ibin_lss, ibin_gtr, ibin_eql, ibin_neq, sbin_eql, sbin_neq, aun_not, Bool.not_true, Bool.not_false, decide_true, decide_false, if_true, if_false, Bool.false_eq_true, fldA_ptr, fldA_rop, anil_ptr, lenStr_str, amm_max, amm_min, Nat.zero_add, Nat.add_zero, List.length_cons, List.length_nil, Nat.reduceAdd]
  refine c_impl_Segs_items (hP.sub hs) hb (by omega) fun v σ2 k1 k2 => ?_
  have k2' : Buf σ2 1 v (ps.flatten.map fun x => [iv x]) := k2.sub (dif_sub _ _)
  have hV := Buf.cs k2'
  have e0 := lod_at (σ := σ2) (st := 0) (i := 0) (off := 0) (c := iv size) (k1.at hF) rfl rfl
  have hfl := tot_flatten ps
  simp only [hV.len, ibin_sub (a := ps.flatten.length) (b := 1) (by omega) (by omega), og_some', onr_ret, gval_true, gval_false, pickV_true, pickV_false, apick_true, apick_false, gpick_true, gpick_false, ibin_leq, ibin_geq, ibin_lss, ibin_gtr, ibin_eql, ibin_neq, sbin_eql, sbin_neq, aun_not, Bool.not_true, Bool.not_false, decide_true, decide_false, if_true, if_false, Bool.false_eq_true, fldA_ptr, fldA_rop, anil_ptr, lenStr_str, amm_max, amm_min, Nat.zero_add, Nat.add_zero, List.length_cons, List.length_nil, Nat.reduceAdd]
  by_cases d : ps = []
  · have g : (ps.flatten.length : Int) - 1 < 0 := by rw [hfl, (ps_nil_flat o2).1 d]; omega
    simp only [g, bldS_0, og_some', onr_ret, gval_true, gval_false, pickV_true, pickV_false, apick_true, apick_false, gpick_true, gpick_false, ibin_leq, ibin_geq, ibin_lss, ibin_gtr, ibin_eql, ibin_neq, sbin_eql, sbin_neq, aun_not, Bool.not_true, Bool.not_false, decide_true, decide_false, if_true, if_false, Bool.false_eq_true, fldA_ptr, fldA_rop, anil_ptr, lenStr_str, amm_max, amm_min, Nat.zero_add, Nat.add_zero, List.length_cons, List.length_nil, Nat.reduceAdd]
    refine fin4 hs hψ hG rfl k1 PB.nil fun σ' k1 k2 => h σ' ⟨4, 0, 0, []⟩ _ [] k1 k2 rfl (by unfold PopR; rw [if_pos c, if_pos d])
  have hpos : tot ps ≠ 0 := fun e => d ((ps_nil_flat o2).2 e)
  have g : ¬ (ps.flatten.length : Int) - 1 < 0 := by omega
  have hi : ((ps.flatten.length - 1 : Nat) : Int) = (ps.flatten.length : Int) - 1 := by omega
  obtain ⟨v22, e1, e2, _⟩ := hV.at (i := ps.flatten.length - 1) (by omega)
  rw [hi] at e1
  obtain ⟨b, e3, e4⟩ := hV.slc (lo := none) (hi := some (iv (ps.flatten.length - 1))) (l := 0) (k := ps.flatten.length - 1) rfl (by rw [← hi]; exact abd_nat _ _) (Nat.zero_le _) (by omega)
  rw [List.drop_zero] at e4
  simp only [g, e1, e2, e0, e3, og_some', onr_ret, gval_true, gval_false, pickV_true, pickV_false, apick_true, apick_false, gpick_true, gpick_false, ibin_leq, ibin_geq, ibin_lss, ibin_gtr, ibin_eql, ibin_neq, sbin_eql, sbin_neq, aun_not, Bool.not_true, Bool.not_false, decide_true, decide_false, if_true, if_false, Bool.false_eq_true, fldA_ptr, fldA_rop, anil_ptr, lenStr_str, amm_max, amm_min, Nat.zero_add, Nat.add_zero, List.length_cons, List.length_nil, Nat.reduceAdd]
  refine c_impl_segsOf e4 o1.1 o1.2 (by rw [List.length_take]; omega) fun p' σ3 qs s3 hB hO hflat => ?_
  have e1' := idx_mono s3 e1
  have e2' := lod_mono s3 e2
  simp only [e1', e2', bldS_12, true_and, og_some', onr_ret, gval_true, gval_false, pickV_true, pickV_false, apick_true, apick_false, gpick_true, gpick_false, ibin_leq, ibin_geq, ibin_lss, ibin_gtr, ibin_eql, ibin_neq, sbin_eql, sbin_neq, aun_not, Bool.not_true, Bool.not_false, decide_true, decide_false, if_true, if_false, Bool.false_eq_true, fldA_ptr, fldA_rop, anil_ptr, lenStr_str, amm_max, amm_min, Nat.zero_add, Nat.add_zero, List.length_cons, List.length_nil, Nat.reduceAdd]
  refine fin4 hs hψ hG rfl (k1.trans s3) (hB.sub (dif_mono k1 (.refl _))) fun σ' k1 k2 => h σ' ⟨0, _, size, _⟩ _ qs k1 k2 rfl ?_
  unfold PopR
  rw [if_pos c, if_neg d]
  refine ⟨rfl, rfl, hO, ?_⟩
  rw [hflat]
  have := List.take_append_getElem (l := ps.flatten) (i := ps.flatten.length - 1) (by omega)
  rw [this, show ps.flatten.length - 1 + 1 = ps.flatten.length by omega, List.take_length]
/-! ### the reference's -/
theorem c_spec_PushSegs_own {size x : Int} {p : AV} {ps : List (List Int)} (hP : Ps σ p ps) (hb : ps.length + tot ps ≤ 1099511627776)
    (h : ∀ σ' r p', AH.Sub σ σ' → Ps (dif σ σ') p' r.ps → PushR size ps x r → R (.ret (.agg [iv r.c, iv r.v, iv r.s, p'])) σ') : acall TP fn_spec_PushSegs [.agg [iv size, p], iv x] σ R := by
  refine s_spec_PushSegs_ok ?_
  unfold s_spec_PushSegs
  simp only [abox_agg, new_eq, og_some', onr_ret, gval_true, gval_false, pickV_true, pickV_false, apick_true, apick_false, gpick_true, gpick_false, ibin_leq, ibin_geq, ibin_lss, ibin_gtr, ibin_eql, ibin_neq, sbin_eql, sbin_neq, aun_not, Bool.not_true, Bool.not_false, decide_true, decide_false, if_true, if_false, Bool.false_eq_true, fldA_ptr, fldA_rop, anil_ptr, lenStr_str, amm_max, amm_min, Nat.zero_add, Nat.add_zero, List.length_cons, List.length_nil, Nat.reduceAdd]
  intro φ hφ ψ hψ0
  obtain ⟨hs, hψ, hne, hF, hG⟩ := two_cells hφ hψ0
  generalize (σ.set φ ⟨0, 2, [[iv size, p]]⟩).set ψ ⟨0, 4, [[iv 0, iv 0, iv 0, nilS]]⟩ = σ1 at hs hF hG ⊢
  refine c_spec_l12Fault hF (hP.sub hs) hb ?_
  simp only [og_some', onr_ret, gval_true, gval_false, pickV_true, pickV_false, apick_true, apick_false, gpick_true, gpick_false, ibin_leq, ibin_geq, ibin_lss, ibin_gtr, ibin_eql, ibin_neq, sbin_eql, sbin_neq, aun_not, Bool.not_true, Bool.not_false, decide_true, decide_false, if_true, if_false, Bool.false_eq_true, fldA_ptr, fldA_rop, anil_ptr, lenStr_str, amm_max, amm_min, Nat.zero_add, Nat.add_zero, List.length_cons, List.length_nil, Nat.reduceAdd]
  by_cases c : segF size ps = 0
  case neg =>
    simp only [c, bldS_0, og_some', onr_ret, gval_true, gval_false, pickV_true, pickV_false, apick_true, apick_false, gpick_true, gpick_false, ibin_leq, ibin_geq, ibin_lss, ibin_gtr, ibin_eql, ibin_neq, sbin_eql, sbin_neq, aun_not, Bool.not_true, Bool.not_false, decide_true, decide_false, if_true, if_false, Bool.false_eq_true, fldA_ptr, fldA_rop, anil_ptr, lenStr_str, amm_max, amm_min, Nat.zero_add, Nat.add_zero, List.length_cons, List.length_nil, Nat.reduceAdd]
    exact fin4 hs hψ hG rfl (.refl _) PB.nil fun σ' k1 k2 => h σ' ⟨segF size ps, 0, 0, []⟩ _ k1 k2.ps ⟨rfl, by rw [if_neg c]; exact ⟨rfl, rfl, rfl⟩⟩
  obtain ⟨o1, o2, o3⟩ := seg_ok c
  simp only [c, og_some', onr_ret, gval_true, gval_false, pickV_true, pickV_false, apick_true, apick_false, gpick_true, gpick_false, ibin_leq, ibin_geq, ibin_lss, ibin_gtr, ibin_eql, ibin_neq, sbin_eql, sbin_neq, aun_not, Bool.not_true, Bool.not_false, decide_true, decide_false, if_true, if_false, Bool.false_eq_true, fldA_ptr, fldA_rop, anil_ptr, lenStr_str, amm_max, amm_min, Nat.zero_add, Nat.add_zero, List.length_cons, List.length_nil, Nat.reduceAdd]
  refine c_spec_l12Depth hF (hP.sub hs) o1 o2 hb ?_
  simp only [og_some', onr_ret, gval_true, gval_false, pickV_true, pickV_false, apick_true, apick_false, gpick_true, gpick_false, ibin_leq, ibin_geq, ibin_lss, ibin_gtr, ibin_eql, ibin_neq, sbin_eql, sbin_neq, aun_not, Bool.not_true, Bool.not_false, decide_true, decide_false, if_true, if_false, Bool.false_eq_true, fldA_ptr, fldA_rop, anil_ptr, lenStr_str, amm_max, amm_min, Nat.zero_add, Nat.add_zero, List.length_cons, List.length_nil, Nat.reduceAdd]
  have hfl := tot_flatten ps
  by_cases d : (4000 : Int) ≤ tot ps
  · simp only [d, bldS_0, og_some', onr_ret, gval_true, gval_false, pickV_true, pickV_false, apick_true, apick_false, gpick_true, gpick_false, ibin_leq, ibin_geq, ibin_lss, ibin_gtr, ibin_eql, ibin_neq, sbin_eql, sbin_neq, aun_not, Bool.not_true, Bool.not_false, decide_true, decide_false, if_true, if_false, Bool.false_eq_true, fldA_ptr, fldA_rop, anil_ptr, lenStr_str, amm_max, amm_min, Nat.zero_add, Nat.add_zero, List.length_cons, List.length_nil, Nat.reduceAdd]
    exact fin4 hs hψ hG rfl (.refl _) PB.nil fun σ' k1 k2 => h σ' ⟨2, 0, 0, []⟩ _ k1 k2.ps ⟨rfl, by rw [if_pos c]; unfold OpenR; rw [if_pos o1, if_neg (by rw [List.length_append]; simp only [List.length_cons, List.length_nil]; omega)]; exact ⟨rfl, rfl, rfl⟩⟩
  have e0 := lod_at (st := 0) (i := 0) (off := 0) (c := iv size) hF rfl rfl
  simp only [d, e0, og_some', onr_ret, gval_true, gval_false, pickV_true, pickV_false, apick_true, apick_false, gpick_true, gpick_false, ibin_leq, ibin_geq, ibin_lss, ibin_gtr, ibin_eql, ibin_neq, sbin_eql, sbin_neq, aun_not, Bool.not_true, Bool.not_false, decide_true, decide_false, if_true, if_false, Bool.false_eq_true, fldA_ptr, fldA_rop, anil_ptr, lenStr_str, amm_max, amm_min, Nat.zero_add, Nat.add_zero, List.length_cons, List.length_nil, Nat.reduceAdd]
  refine c_spec_l12List hF (hP.sub hs) hb (by omega) fun v σ2 k1 k2 => ?_
  have e0' := lod_at (σ := σ2) (st := 0) (i := 0) (off := 0) (c := iv size) (k1.at hF) rfl rfl
  simp only [e0', true_and, og_some', onr_ret, gval_true, gval_false, pickV_true, pickV_false, apick_true, apick_false, gpick_true, gpick_false, ibin_leq, ibin_geq, ibin_lss, ibin_gtr, ibin_eql, ibin_neq, sbin_eql, sbin_neq, aun_not, Bool.not_true, Bool.not_false, decide_true, decide_false, if_true, if_false, Bool.false_eq_true, fldA_ptr, fldA_rop, anil_ptr, lenStr_str, amm_max, amm_min, Nat.zero_add, Nat.add_zero, List.length_cons, List.length_nil, Nat.reduceAdd]
  have k2' : Buf σ2 1 v (ps.flatten.map fun x => [iv x]) := k2.sub (dif_sub _ _)
  refine c_spec_l12Open (Buf.cs k2') o1.1 (by omega) fun σ3 p3 qs3 s3 hB hO hflat => ?_
  simp only [new_eq, true_and, og_some', onr_ret, gval_true, gval_false, pickV_true, pickV_false, apick_true, apick_false, gpick_true, gpick_false, ibin_leq, ibin_geq, ibin_lss, ibin_gtr, ibin_eql, ibin_neq, sbin_eql, sbin_neq, aun_not, Bool.not_true, Bool.not_false, decide_true, decide_false, if_true, if_false, Bool.false_eq_true, fldA_ptr, fldA_rop, anil_ptr, lenStr_str, amm_max, amm_min, Nat.zero_add, Nat.add_zero, List.length_cons, List.length_nil, Nat.reduceAdd]
  intro χ hχ
  refine put_new hχ rfl rfl (one2 hB.out.one.2) fun σ4 s4 f4 k4 => ?_
  have hB4 : PB σ4 p3 qs3 := (hB.sub (dif_sub _ _)).sub s4
  have hsm := one_le_flat hO
  have hft := tot_flatten (qs3.map Prod.snd)
  rw [hflat] at hsm hft
  rw [List.length_map] at hsm
  refine c_spec_l12Push f4 hB4 hO o1.1 (by omega) ?_
  intro σ5 p5 qs5 g1 g2 g3 g4 g5 g6 g7
  have e5 := lodA_at (σ := σ5) (st := 0) (i := 0) (n := 2) (cs := [iv size, p5]) g1 rfl rfl rfl
  simp only [e5, bldS_2, og_some', onr_ret, gval_true, gval_false, pickV_true, pickV_false, apick_true, apick_false, gpick_true, gpick_false, ibin_leq, ibin_geq, ibin_lss, ibin_gtr, ibin_eql, ibin_neq, sbin_eql, sbin_neq, aun_not, Bool.not_true, Bool.not_false, decide_true, decide_false, if_true, if_false, Bool.false_eq_true, fldA_ptr, fldA_rop, anil_ptr, lenStr_str, amm_max, amm_min, Nat.zero_add, Nat.add_zero, List.length_cons, List.length_nil, Nat.reduceAdd]
  have n_of : ∀ ζ, Foot p3 qs3 ζ → σ2 ζ = none := fun ζ hf => (hB.new hf).1
  have keep : ∀ ζ F, σ2 ζ = some F → σ5 ζ = some F := fun ζ F hζ =>
    g6 ζ F (by rintro rfl; have := s3.at hζ; rw [hχ] at this; cases this) (fun hf => by rw [n_of ζ hf] at hζ; cases hζ) ((s3.trans s4).at hζ)
  have s15 : AH.Sub σ1 σ5 := fun ζ F hζ => keep ζ F (k1.at hζ)
  have fresh5 : Fresh σ1 p5 qs5 := by
    have key : ∀ ζ, Foot p5 qs5 ζ → σ1 ζ = none := by
      intro ζ hf
      rcases g7 ζ hf with hf | hf
      · exact k1.none (n_of ζ hf)
      · exact ((k1.trans s3).trans s4).none hf
    exact ⟨fun ζ hf => key ζ (.inl hf), fun q hq ζ hf => key ζ (.inr ⟨q, hq, hf⟩)⟩
  refine fin4 hs hψ hG rfl s15 (g2.dif fresh5) fun σ' k1 k2 => h σ' ⟨0, 0, size, _⟩ _ k1 k2.ps ⟨rfl, ?_⟩
  rw [if_pos c]
  unfold OpenR
  rw [if_pos o1, if_pos (by rw [List.length_append]; simp only [List.length_cons, List.length_nil]; omega)]
  exact ⟨rfl, rfl, g3, by rw [g4, hflat]⟩
theorem c_spec_ResizeSegs_own {size n : Int} {p : AV} {ps : List (List Int)} (hP : Ps σ p ps) (hb : ps.length + tot ps ≤ 1099511627776)
    (h : ∀ σ' r p', AH.Sub σ σ' → Ps (dif σ σ') p' r.ps → ResizeR size ps n r → R (.ret (.agg [iv r.c, iv r.v, iv r.s, p'])) σ') : acall TP fn_spec_ResizeSegs [.agg [iv size, p], iv n] σ R := by
  refine s_spec_ResizeSegs_ok ?_
  unfold s_spec_ResizeSegs
  simp only [abox_agg, new_eq, og_some', onr_ret, gval_true, gval_false, pickV_true, pickV_false, apick_true, apick_false, gpick_true, gpick_false, ibin_leq, ibin_geq, ibin_lss, ibin_gtr, ibin_eql, ibin_neq, sbin_eql, sbin_neq, aun_not, Bool.not_true, Bool.not_false, decide_true, decide_false, if_true, if_false, Bool.false_eq_true, fldA_ptr, fldA_rop, anil_ptr, lenStr_str, amm_max, amm_min, Nat.zero_add, Nat.add_zero, List.length_cons, List.length_nil, Nat.reduceAdd]
  intro φ hφ ψ hψ0
  obtain ⟨hs, hψ, hne, hF, hG⟩ := two_cells hφ hψ0
  generalize (σ.set φ ⟨0, 2, [[iv size, p]]⟩).set ψ ⟨0, 4, [[iv 0, iv 0, iv 0, nilS]]⟩ = σ1 at hs hF hG ⊢
  refine c_spec_l12Fault hF (hP.sub hs) hb ?_
  simp only [og_some', onr_ret, gval_true, gval_false, pickV_true, pickV_false, apick_true, apick_false, gpick_true, gpick_false, ibin_leq, ibin_geq, ibin_lss, ibin_gtr, ibin_eql, ibin_neq, sbin_eql, sbin_neq, aun_not, Bool.not_true, Bool.not_false, decide_true, decide_false, if_true, if_false, Bool.false_eq_true, fldA_ptr, fldA_rop, anil_ptr, lenStr_str, amm_max, amm_min, Nat.zero_add, Nat.add_zero, List.length_cons, List.length_nil, Nat.reduceAdd]
  by_cases c : segF size ps = 0
  case neg =>
    simp only [c, bldS_0, og_some', onr_ret, gval_true, gval_false, pickV_true, pickV_false, apick_true, apick_false, gpick_true, gpick_false, ibin_leq, ibin_geq, ibin_lss, ibin_gtr, ibin_eql, ibin_neq, sbin_eql, sbin_neq, aun_not, Bool.not_true, Bool.not_false, decide_true, decide_false, if_true, if_false, Bool.false_eq_true, fldA_ptr, fldA_rop, anil_ptr, lenStr_str, amm_max, amm_min, Nat.zero_add, Nat.add_zero, List.length_cons, List.length_nil, Nat.reduceAdd]
    exact fin4 hs hψ hG rfl (.refl _) PB.nil fun σ' k1 k2 => h σ' ⟨segF size ps, 0, 0, []⟩ _ k1 k2.ps ⟨rfl, by rw [if_neg c]; exact ⟨rfl, rfl, rfl⟩⟩
  obtain ⟨o1, o2, o3⟩ := seg_ok c
  simp only [c, og_some', onr_ret, gval_true, gval_false, pickV_true, pickV_false, apick_true, apick_false, gpick_true, gpick_false, ibin_leq, ibin_geq, ibin_lss, ibin_gtr, ibin_eql, ibin_neq, sbin_eql, sbin_neq, aun_not, Bool.not_true, Bool.not_false, decide_true, decide_false, if_true, if_false, Bool.false_eq_true, fldA_ptr, fldA_rop, anil_ptr, lenStr_str, amm_max, amm_min, Nat.zero_add, Nat.add_zero, List.length_cons, List.length_nil, Nat.reduceAdd]
  refine c_spec_l12List hF (hP.sub hs) hb (by omega) fun v σ2 k1 k2 => ?_
  have k2' : Buf σ2 1 v (ps.flatten.map fun x => [iv x]) := k2.sub (dif_sub _ _)
  simp only [og_some', onr_ret, gval_true, gval_false, pickV_true, pickV_false, apick_true, apick_false, gpick_true, gpick_false, ibin_leq, ibin_geq, ibin_lss, ibin_gtr, ibin_eql, ibin_neq, sbin_eql, sbin_neq, aun_not, Bool.not_true, Bool.not_false, decide_true, decide_false, if_true, if_false, Bool.false_eq_true, fldA_ptr, fldA_rop, anil_ptr, lenStr_str, amm_max, amm_min, Nat.zero_add, Nat.add_zero, List.length_cons, List.length_nil, Nat.reduceAdd]
  refine c_spec_OpenSegs_own (Buf.cs k2') (by rw [tot_flatten]; omega) fun σ4 c' s' p' qs s4 hB hO => ?_
  simp only [og_some', onr_ret, gval_true, gval_false, pickV_true, pickV_false, apick_true, apick_false, gpick_true, gpick_false, ibin_leq, ibin_geq, ibin_lss, ibin_gtr, ibin_eql, ibin_neq, sbin_eql, sbin_neq, aun_not, Bool.not_true, Bool.not_false, decide_true, decide_false, if_true, if_false, Bool.false_eq_true, fldA_ptr, fldA_rop, anil_ptr, lenStr_str, amm_max, amm_min, Nat.zero_add, Nat.add_zero, List.length_cons, List.length_nil, Nat.reduceAdd]
  refine fin4 hs hψ hG rfl (k1.trans s4) ?_ fun σ' k1 k2 => h σ' ⟨c', 0, s', _⟩ _ k1 k2.ps ⟨rfl, by rw [if_pos c]; exact hO⟩
  exact hB.sub (dif_mono k1 (.refl _))
theorem c_spec_PushSegs {size x : Int} {p : AV} {ps : List (List Int)} (hP : Ps σ p ps) (hb : ps.length + tot ps ≤ 1099511627776)
    (h : ∀ r, PushR size ps x r → R (.ret (.agg [iv r.c, iv r.v, iv r.s, roP r.ps])) σ) : acall TP fn_spec_PushSegs [.agg [iv size, p], iv x] σ R := by
  refine acall_imp (Q := fun e σ' => ∃ r p', e = .ret (.agg [iv r.c, iv r.v, iv r.s, p']) ∧ AH.Sub σ σ' ∧ Ps (dif σ σ') p' r.ps ∧ PushR size ps x r) (c_spec_PushSegs_own hP hb fun σ' r p' h1 hB hO => ⟨r, p', rfl, h1, hB, hO⟩) ?_
  rintro e σ' ⟨r, p', rfl, h1, h2, h3⟩
  exact ⟨_, rfl, _, σ, imp_freeze h1 (.agg4 (.same _) (.same _) (.same _) h2.fz), h r h3⟩
theorem c_spec_ResizeSegs {size n : Int} {p : AV} {ps : List (List Int)} (hP : Ps σ p ps) (hb : ps.length + tot ps ≤ 1099511627776)
    (h : ∀ r, ResizeR size ps n r → R (.ret (.agg [iv r.c, iv r.v, iv r.s, roP r.ps])) σ) : acall TP fn_spec_ResizeSegs [.agg [iv size, p], iv n] σ R := by
  refine acall_imp (Q := fun e σ' => ∃ r p', e = .ret (.agg [iv r.c, iv r.v, iv r.s, p']) ∧ AH.Sub σ σ' ∧ Ps (dif σ σ') p' r.ps ∧ ResizeR size ps n r) (c_spec_ResizeSegs_own hP hb fun σ' r p' h1 hB hO => ⟨r, p', rfl, h1, hB, hO⟩) ?_
  rintro e σ' ⟨r, p', rfl, h1, h2, h3⟩
  exact ⟨_, rfl, _, σ, imp_freeze h1 (.agg4 (.same _) (.same _) (.same _) h2.fz), h r h3⟩
/-- The highest item is taken: what is left may still lie where it lay. -/
theorem c_spec_l12Pop {σ0 : AH} {φ : Nat} {size x : Int} {p q : AV} {pre : List (AV × List Int)} {ys : List Int} (hF : σ φ = some ⟨0, 2, [[iv size, p]]⟩) (hB : PB σ p (pre ++ [(q, ys ++ [x])])) (hb : pre.length + ys.length ≤ 100000)
    (hnew : ∀ ψ, Foot p (pre ++ [(q, ys ++ [x])]) ψ → σ0 ψ = none) (h0 : AH.Sub σ0 σ) (hφ0 : σ0 φ = none)
    (h : ∀ σ' p', σ' φ = some ⟨0, 2, [[iv size, p']]⟩ → AH.Sub σ0 σ' → Ps (dif σ0 σ') p' (pre.map Prod.snd ++ if ys = [] then [] else [ys]) → p'.one = true → R (.ret (iv x)) σ') : acall TP fn_spec_l12Pop [.ptr φ 0 0 0] σ R := by
  refine s_spec_l12Pop_ok ?_
  unfold s_spec_l12Pop
  have e1 := lod_at (st := 0) (i := 0) (off := 1) (c := p) hF rfl rfl
  have hlen := hB.ps.len
  have hlen' : lenS p = some (.val (.int .i64 ((pre.length + 1 : Nat) : Int))) := by simpa using hlen
  obtain ⟨χ, st, ea, hχ⟩ := hB.out.own_of (by simp)
  obtain ⟨ζ, st', eq, hζ⟩ := (hB.ins (q, ys ++ [x]) (by simp)).own_of (by simp)
  simp only at eq hζ
  have hsub : ibin .sub (.val (.int .i64 ((pre.length + 1 : Nat) : Int))) (.val (.int .i64 1)) = some (iv (pre.length : Nat)) := by rw [ibin_sub (by omega) (by omega)]; congr 3; omega
  have hi : ∀ {σ' : AH} {es : List (List AV)}, σ' χ = some ⟨st, 1, es⟩ → idx 1 p (iv (pre.length : Nat)) σ' = some (.ptr χ st pre.length 0) := by
    intro σ' es hx
    rw [ea]
    have := idx_own (off := 0) (n := ((pre ++ [(q, ys ++ [x])]).map fun q => [q.1]).length) hx (i := pre.length) (by simp)
    rw [Nat.zero_add] at this; exact this
  have el : lod (.ptr χ st pre.length 0) σ = some q := lod_at hχ rfl (by simp)
  have hql : lenS q = some (.val (.int .i64 ((ys.length + 1 : Nat) : Int))) := by have := (Buf.cs (hB.ins (q, ys ++ [x]) (by simp))).len; simpa using this
  have hsub2 : ibin .sub (.val (.int .i64 ((ys.length + 1 : Nat) : Int))) (.val (.int .i64 1)) = some (iv (ys.length : Nat)) := by rw [ibin_sub (by omega) (by omega)]; congr 3; omega
  have hsl : slc 1 q none (some (iv (ys.length : Nat))) none σ = some (.own ζ st' 0 ys.length) := by
    rw [eq]
    have b0 : abd (none : Option AV) 0 = some 0 := rfl
    simp only [slc, hζ, b0, abd_nat]
    rw [if_pos ⟨Nat.zero_le _, by simp, trivial, trivial⟩]; simp
  simp only [e1, hlen', hsub, hi hχ, el, hql, hsub2, hsl, og_some', onr_ret, gval_true, gval_false, pickV_true, pickV_false, apick_true, apick_false, gpick_true, gpick_false, ibin_leq, ibin_geq, ibin_lss, ibin_gtr, ibin_eql, ibin_neq, sbin_eql, sbin_neq, aun_not, Bool.not_true, Bool.not_false, decide_true, decide_false, if_true, if_false, Bool.false_eq_true, fldA_ptr, fldA_rop, anil_ptr, lenStr_str, amm_max, amm_min, Nat.zero_add, Nat.add_zero, List.length_cons, List.length_nil, Nat.reduceAdd]
  have fa : Buf.fam p χ := by rw [ea]; exact ⟨_, _, _, rfl⟩
  have fq : Buf.fam q ζ := by rw [eq]; exact ⟨_, _, _, rfl⟩
  have nχφ : χ ≠ φ := by rintro rfl; rw [hF] at hχ; cases hχ
  have nζφ : ζ ≠ φ := by rintro rfl; rw [hF] at hζ; cases hζ
  have nζχ : ζ ≠ χ := by rintro rfl; exact hB.sep (q, ys ++ [x]) (by simp) _ fq fa
  refine sto_own (es := (pre ++ [(q, ys ++ [x])]).map fun q => [q.1]) (cs := [.own ζ st' 0 ys.length]) hχ (by simp) (by simp) rfl rfl (by simp [AV.one]) ?_
  have hset : ((pre ++ [(q, ys ++ [x])]).map fun q : AV × List Int => [q.1]).set pre.length [.own ζ st' 0 ys.length] = pre.map (fun q => [q.1]) ++ [[.own ζ st' 0 ys.length]] := by
    rw [List.map_append]; exact set_mid (by simp)
  rw [hset]
  have g1 : (σ.set χ ⟨st, 1, pre.map (fun q => [q.1]) ++ [[.own ζ st' 0 ys.length]]⟩) χ = some ⟨st, 1, pre.map (fun q => [q.1]) ++ [[.own ζ st' 0 ys.length]]⟩ := AH.set_same ..
  have g2 : (σ.set χ ⟨st, 1, pre.map (fun q => [q.1]) ++ [[.own ζ st' 0 ys.length]]⟩) ζ = some ⟨st', 1, (ys ++ [x]).map fun x => [iv x]⟩ := by rw [AH.set_ne' nζχ]; exact hζ
  have g3 : (σ.set χ ⟨st, 1, pre.map (fun q => [q.1]) ++ [[.own ζ st' 0 ys.length]]⟩) φ = some ⟨0, 2, [[iv size, p]]⟩ := by rw [AH.set_ne' (Ne.symm nχφ)]; exact hF
  have g0 : AH.Sub σ0 (σ.set χ ⟨st, 1, pre.map (fun q => [q.1]) ++ [[.own ζ st' 0 ys.length]]⟩) := sub_set h0 (hnew χ (.inl fa))
  have gp : ∀ r, r ∈ pre → Buf (dif σ0 (σ.set χ ⟨st, 1, pre.map (fun q => [q.1]) ++ [[.own ζ st' 0 ys.length]]⟩)) 1 r.1 (r.2.map fun x => [iv x]) := fun r hr =>
    Buf.dif ((hB.ins r (List.mem_append_left _ hr)).keep fun ψ hψ => AH.set_ne' (by rintro rfl; exact hB.sep r (List.mem_append_left _ hr) _ hψ fa)) fun ψ hψ => hnew ψ (.inr ⟨r, List.mem_append_left _ hr, hψ⟩)
  generalize σ.set χ ⟨st, 1, pre.map (fun q => [q.1]) ++ [[.own ζ st' 0 ys.length]]⟩ = σ1 at g0 g1 g2 g3 gp ⊢
  have k1 := lod_at (σ := σ1) (st := 0) (i := 0) (off := 1) (c := p) g3 rfl rfl
  have hq : ∀ {σ' : AH}, σ' ζ = some ⟨st', 1, (ys ++ [x]).map fun x => [iv x]⟩ → idx 1 q (iv (ys.length : Nat)) σ' = some (.ptr ζ st' ys.length 0) ∧ lod (.ptr ζ st' ys.length 0) σ' = some (iv x) := by
    intro σ' hx
    refine ⟨?_, lod_at hx rfl (by simp)⟩
    rw [eq]
    have := idx_own (off := 0) (n := ((ys ++ [x]).map fun x => [iv x]).length) hx (i := ys.length) (by simp)
    rw [Nat.zero_add] at this; exact this
  have nsub : Ns (dif σ0 σ1) (.own ζ st' 0 ys.length) ys := by
    have hz : (dif σ0 σ1) ζ = some ⟨st', 1, (ys ++ [x]).map fun x => [iv x]⟩ := by rw [dif_at (hnew ζ (.inr ⟨(q, ys ++ [x]), by simp, fq⟩))]; exact g2
    have := Sl.own ζ st' 0 ys.length _ hz rfl rfl (by simp) (iv_size _)
    have e : (((ys ++ [x]).map fun x => [iv x]).drop 0).take ys.length = ys.map fun x => [iv x] := by rw [List.drop_zero, List.map_append]; exact List.take_left' (by simp)
    rw [e] at this; exact this
  simp only [jn, true_and, og_some', onr_ret, gval_true, gval_false, pickV_true, pickV_false, apick_true, apick_false, gpick_true, gpick_false, ibin_leq, ibin_geq, ibin_lss, ibin_gtr, ibin_eql, ibin_neq, sbin_eql, sbin_neq, aun_not, Bool.not_true, Bool.not_false, decide_true, decide_false, if_true, if_false, Bool.false_eq_true, fldA_ptr, fldA_rop, anil_ptr, lenStr_str, amm_max, amm_min, Nat.zero_add, Nat.add_zero, List.length_cons, List.length_nil, Nat.reduceAdd]
  by_cases c : ys = []
  · have hd : decide (((ys.length : Nat) : Int) = 0) = true := by rw [c]; rfl
    have hsl2 : slc 1 p none (some (iv (pre.length : Nat))) none σ1 = some (.own χ st 0 pre.length) := by
      rw [ea]
      have b0 : abd (none : Option AV) 0 = some 0 := rfl
      simp only [slc, g1, b0, abd_nat]
      rw [if_pos ⟨Nat.zero_le _, by simp, trivial, trivial⟩]; simp
    simp only [hd, k1, hsl2, og_some', onr_ret, gval_true, gval_false, pickV_true, pickV_false, apick_true, apick_false, gpick_true, gpick_false, ibin_leq, ibin_geq, ibin_lss, ibin_gtr, ibin_eql, ibin_neq, sbin_eql, sbin_neq, aun_not, Bool.not_true, Bool.not_false, decide_true, decide_false, if_true, if_false, Bool.false_eq_true, fldA_ptr, fldA_rop, anil_ptr, lenStr_str, amm_max, amm_min, Nat.zero_add, Nat.add_zero, List.length_cons, List.length_nil, Nat.reduceAdd]
    refine sto_fld (sz := 2) (off := 1) (i := 0) (cs := [iv size, p]) (v := .own χ st 0 pre.length) g3 rfl (by omega) rfl rfl ?_
    have g2' : (σ1.set φ ⟨0, 2, [[iv size, p]].set 0 ([iv size, p].set 1 (.own χ st 0 pre.length))⟩) ζ = some ⟨st', 1, (ys ++ [x]).map fun x => [iv x]⟩ := by rw [AH.set_ne' nζφ]; exact g2
    obtain ⟨k2, k3⟩ := hq g2'
    simp only [k2, k3, og_some', onr_ret, gval_true, gval_false, pickV_true, pickV_false, apick_true, apick_false, gpick_true, gpick_false, ibin_leq, ibin_geq, ibin_lss, ibin_gtr, ibin_eql, ibin_neq, sbin_eql, sbin_neq, aun_not, Bool.not_true, Bool.not_false, decide_true, decide_false, if_true, if_false, Bool.false_eq_true, fldA_ptr, fldA_rop, anil_ptr, lenStr_str, amm_max, amm_min, Nat.zero_add, Nat.add_zero, List.length_cons, List.length_nil, Nat.reduceAdd]
    refine ret_here (h _ (.own χ st 0 pre.length) (AH.set_same ..) (sub_set g0 hφ0) ?_ rfl)
    have hz : (dif σ0 (σ1.set φ ⟨0, 2, [[iv size, p]].set 0 ([iv size, p].set 1 (.own χ st 0 pre.length))⟩)) χ = some ⟨st, 1, pre.map (fun q => [q.1]) ++ [[AV.own ζ st' 0 ys.length]]⟩ := by
      rw [dif_at (hnew χ (.inl fa)), AH.set_ne' nχφ]; exact g1
    have hsl3 := Sl.own χ st 0 pre.length _ hz rfl rfl (by simp) (by intro c hc; rcases List.mem_append.1 hc with hc | hc; (obtain ⟨q, _, rfl⟩ := List.mem_map.1 hc; rfl); (obtain rfl := List.mem_singleton.1 hc; rfl))
    have e : ((pre.map (fun q : AV × List Int => [q.1]) ++ [[AV.own ζ st' 0 ys.length]]).drop 0).take pre.length = pre.map fun q => [q.1] := by rw [List.drop_zero]; exact List.take_left' (by simp)
    rw [e] at hsl3
    rw [if_pos c]
    refine ⟨pre, by simp, hsl3, fun r hr => ?_⟩
    refine Buf.cs ((gp r hr).keep fun ψ hψ => ?_)
    have hn := hnew ψ (.inr ⟨r, List.mem_append_left _ hr, hψ⟩)
    rw [dif_at hn, dif_at hn, AH.set_ne']
    rintro rfl
    obtain ⟨F, hF2⟩ := (gp r hr).fam_some hψ
    rw [dif_at hn, g3] at hF2
    rcases gp r hr with ⟨e | e, _⟩ | ⟨_, _, e, hF3⟩
    · rw [e] at hψ; exact nofam_nil _ hψ
    · rw [e] at hψ; obtain ⟨_, _, _, e⟩ := hψ; cases e
    · rw [e] at hψ; obtain ⟨_, _, _, e⟩ := hψ; cases e
      rw [dif_at hn, g3] at hF3; cases hF3
  · have hd : ¬ ((ys.length : Nat) : Int) = 0 := by have := List.length_pos_iff.2 c; omega
    obtain ⟨k2, k3⟩ := hq g2
    simp only [hd, k2, k3, og_some', onr_ret, gval_true, gval_false, pickV_true, pickV_false, apick_true, apick_false, gpick_true, gpick_false, ibin_leq, ibin_geq, ibin_lss, ibin_gtr, ibin_eql, ibin_neq, sbin_eql, sbin_neq, aun_not, Bool.not_true, Bool.not_false, decide_true, decide_false, if_true, if_false, Bool.false_eq_true, fldA_ptr, fldA_rop, anil_ptr, lenStr_str, amm_max, amm_min, Nat.zero_add, Nat.add_zero, List.length_cons, List.length_nil, Nat.reduceAdd]
    refine ret_here (h _ p g3 g0 ?_ hB.out.one.2)
    rw [if_neg c]
    have hz : (dif σ0 σ1) χ = some ⟨st, 1, (pre ++ [(AV.own ζ st' 0 ys.length, ys)]).map fun q => [q.1]⟩ := by rw [dif_at (hnew χ (.inl fa)), g1]; simp
    refine ⟨pre ++ [(AV.own ζ st' 0 ys.length, ys)], by simp, ?_, ?_⟩
    · have : Buf (dif σ0 σ1) 1 p ((pre ++ [(AV.own ζ st' 0 ys.length, ys)]).map fun q => [q.1]) := .inr ⟨χ, st, by rw [ea]; simp, hz⟩
      exact Buf.cs this
    · intro r hr
      rcases List.mem_append.1 hr with hr | hr
      · exact Buf.cs (gp r hr)
      · obtain rfl := List.mem_singleton.1 hr; exact nsub
theorem c_spec_PopSegs_own {size : Int} {p : AV} {ps : List (List Int)} (hP : Ps σ p ps) (hb : ps.length + tot ps ≤ 1099511627776)
    (h : ∀ σ' r p', AH.Sub σ σ' → Ps (dif σ σ') p' r.ps → PopR size ps r → R (.ret (.agg [iv r.c, iv r.v, iv r.s, p'])) σ') : acall TP fn_spec_PopSegs [.agg [iv size, p]] σ R := by
  refine s_spec_PopSegs_ok ?_
  unfold s_spec_PopSegs
  simp only [abox_agg, new_eq, og_some', onr_ret, gval_true, gval_false, pickV_true, pickV_false, apick_true, apick_false, gpick_true, gpick_false, ibin_leq, ibin_geq, ibin_lss, ibin_gtr, ibin_eql, ibin_neq, sbin_eql, sbin_neq, aun_not, Bool.not_true, Bool.not_false, decide_true, decide_false, if_true, if_false, Bool.false_eq_true, fldA_ptr, fldA_rop, anil_ptr, lenStr_str, amm_max, amm_min, Nat.zero_add, Nat.add_zero, List.length_cons, List.length_nil, Nat.reduceAdd]
  intro φ hφ ψ hψ0
  obtain ⟨hs, hψ, hne, hF, hG⟩ := two_cells hφ hψ0
  generalize (σ.set φ ⟨0, 2, [[iv size, p]]⟩).set ψ ⟨0, 4, [[iv 0, iv 0, iv 0, nilS]]⟩ = σ1 at hs hF hG ⊢
  refine c_spec_l12Fault hF (hP.sub hs) hb ?_
  simp only [og_some', onr_ret, gval_true, gval_false, pickV_true, pickV_false, apick_true, apick_false, gpick_true, gpick_false, ibin_leq, ibin_geq, ibin_lss, ibin_gtr, ibin_eql, ibin_neq, sbin_eql, sbin_neq, aun_not, Bool.not_true, Bool.not_false, decide_true, decide_false, if_true, if_false, Bool.false_eq_true, fldA_ptr, fldA_rop, anil_ptr, lenStr_str, amm_max, amm_min, Nat.zero_add, Nat.add_zero, List.length_cons, List.length_nil, Nat.reduceAdd]
  by_cases c : segF size ps = 0
  case neg =>
    simp only [c, bldS_0, og_some', onr_ret, gval_true, gval_false, pickV_true, pickV_false, apick_true, apick_false, gpick_true, gpick_false, ibin_leq, ibin_geq, ibin_lss, ibin_gtr, ibin_eql, ibin_neq, sbin_eql, sbin_neq, aun_not, Bool.not_true, Bool.not_false, decide_true, decide_false, if_true, if_false, Bool.false_eq_true, fldA_ptr, fldA_rop, anil_ptr, lenStr_str, amm_max, amm_min, Nat.zero_add, Nat.add_zero, List.length_cons, List.length_nil, Nat.reduceAdd]
    exact fin4 hs hψ hG rfl (.refl _) PB.nil fun σ' k1 k2 => h σ' ⟨segF size ps, 0, 0, []⟩ _ k1 k2.ps (by unfold PopR; rw [if_neg c])
  obtain ⟨o1, o2, o3⟩ := seg_ok c
  have e1 := lod_at (st := 0) (i := 0) (off := 1) (c := p) hF rfl rfl
  have e0 := lod_at (st := 0) (i := 0) (off := 0) (c := iv size) hF rfl rfl
  simp only [c, e1, hP.len, e0, og_some', onr_ret, gval_true, gval_false, pickV_true, pickV_false, apick_true, apick_false, gpick_true, gpick_false, ibin_leq, ibin_geq, ibin_lss, ibin_gtr, ibin_eql, ibin_neq, sbin_eql, sbin_neq, aun_not, Bool.not_true, Bool.not_false, decide_true, decide_false, if_true, if_false, Bool.false_eq_true, fldA_ptr, fldA_rop, anil_ptr, lenStr_str, amm_max, amm_min, Nat.zero_add, Nat.add_zero, List.length_cons, List.length_nil, Nat.reduceAdd]
  by_cases d : ps = []
  · have hd : decide (((ps.length : Nat) : Int) = 0) = true := by rw [d]; rfl
    simp only [hd, bldS_0, og_some', onr_ret, gval_true, gval_false, pickV_true, pickV_false, apick_true, apick_false, gpick_true, gpick_false, ibin_leq, ibin_geq, ibin_lss, ibin_gtr, ibin_eql, ibin_neq, sbin_eql, sbin_neq, aun_not, Bool.not_true, Bool.not_false, decide_true, decide_false, if_true, if_false, Bool.false_eq_true, fldA_ptr, fldA_rop, anil_ptr, lenStr_str, amm_max, amm_min, Nat.zero_add, Nat.add_zero, List.length_cons, List.length_nil, Nat.reduceAdd]
    exact fin4 hs hψ hG rfl (.refl _) PB.nil fun σ' k1 k2 => h σ' ⟨4, 0, 0, []⟩ _ k1 k2.ps (by unfold PopR; rw [if_pos c, if_pos d])
  have hd : ¬ ((ps.length : Nat) : Int) = 0 := by have := List.length_pos_iff.2 d; omega
  have hfl := tot_flatten ps
  have hpos : tot ps ≠ 0 := fun e => d ((ps_nil_flat o2).2 e)
  simp only [hd, og_some', onr_ret, gval_true, gval_false, pickV_true, pickV_false, apick_true, apick_false, gpick_true, gpick_false, ibin_leq, ibin_geq, ibin_lss, ibin_gtr, ibin_eql, ibin_neq, sbin_eql, sbin_neq, aun_not, Bool.not_true, Bool.not_false, decide_true, decide_false, if_true, if_false, Bool.false_eq_true, fldA_ptr, fldA_rop, anil_ptr, lenStr_str, amm_max, amm_min, Nat.zero_add, Nat.add_zero, List.length_cons, List.length_nil, Nat.reduceAdd]
  refine c_spec_l12List hF (hP.sub hs) hb (by omega) fun v σ2 k1 k2 => ?_
  have e0' := lod_at (σ := σ2) (st := 0) (i := 0) (off := 0) (c := iv size) (k1.at hF) rfl rfl
  simp only [e0', true_and, og_some', onr_ret, gval_true, gval_false, pickV_true, pickV_false, apick_true, apick_false, gpick_true, gpick_false, ibin_leq, ibin_geq, ibin_lss, ibin_gtr, ibin_eql, ibin_neq, sbin_eql, sbin_neq, aun_not, Bool.not_true, Bool.not_false, decide_true, decide_false, if_true, if_false, Bool.false_eq_true, fldA_ptr, fldA_rop, anil_ptr, lenStr_str, amm_max, amm_min, Nat.zero_add, Nat.add_zero, List.length_cons, List.length_nil, Nat.reduceAdd]
  have k2' : Buf σ2 1 v (ps.flatten.map fun x => [iv x]) := k2.sub (dif_sub _ _)
  refine c_spec_l12Open (Buf.cs k2') o1.1 (by omega) fun σ3 p3 qs3 s3 hB hO hflat => ?_
  simp only [new_eq, true_and, og_some', onr_ret, gval_true, gval_false, pickV_true, pickV_false, apick_true, apick_false, gpick_true, gpick_false, ibin_leq, ibin_geq, ibin_lss, ibin_gtr, ibin_eql, ibin_neq, sbin_eql, sbin_neq, aun_not, Bool.not_true, Bool.not_false, decide_true, decide_false, if_true, if_false, Bool.false_eq_true, fldA_ptr, fldA_rop, anil_ptr, lenStr_str, amm_max, amm_min, Nat.zero_add, Nat.add_zero, List.length_cons, List.length_nil, Nat.reduceAdd]
  intro χ hχ
  refine put_new hχ rfl rfl (one2 hB.out.one.2) fun σ4 s4 f4 k4 => ?_
  have hB4 : PB σ4 p3 qs3 := (hB.sub (dif_sub _ _)).sub s4
  have hsm := one_le_flat hO
  have hft := tot_flatten (qs3.map Prod.snd)
  rw [hflat] at hsm hft
  rw [List.length_map] at hsm
  -- the last list has a last item
  have hne3 : qs3 ≠ [] := by
    rintro rfl
    have := congrArg List.length hflat
    simp at this; simp at hfl; omega
  obtain ⟨pre, ⟨q, zs⟩, rfl⟩ : ∃ pre q, qs3 = pre ++ [q] := ⟨qs3.dropLast, qs3.getLast hne3, (List.dropLast_concat_getLast hne3).symm⟩
  have hz : zs ≠ [] := by
    have := (hO pre.length (by simp)).1
    simp at this
    rintro rfl; simp at this
  obtain ⟨ys, x, rfl⟩ : ∃ ys x, zs = ys ++ [x] := ⟨zs.dropLast, zs.getLast hz, (List.dropLast_concat_getLast hz).symm⟩
  have htot : tot ((pre ++ [(q, ys ++ [x])]).map Prod.snd) = tot (pre.map Prod.snd) + (ys.length + 1) := by rw [List.map_append, tot_append]; simp [tot]
  rw [List.length_append] at hsm
  simp only [List.length_cons, List.length_nil] at hsm
  refine c_spec_l12Pop (σ0 := σ2) f4 hB4 (by omega) (fun ζ hf => (hB.new hf).1) (s3.trans s4) (s3.none hχ) ?_
  intro σ5 p5 g1 g2 g3 g4
  have e5 := lodA_at (σ := σ5) (st := 0) (i := 0) (n := 2) (cs := [iv size, p5]) g1 rfl rfl rfl
  simp only [e5, bldS_12, og_some', onr_ret, gval_true, gval_false, pickV_true, pickV_false, apick_true, apick_false, gpick_true, gpick_false, ibin_leq, ibin_geq, ibin_lss, ibin_gtr, ibin_eql, ibin_neq, sbin_eql, sbin_neq, aun_not, Bool.not_true, Bool.not_false, decide_true, decide_false, if_true, if_false, Bool.false_eq_true, fldA_ptr, fldA_rop, anil_ptr, lenStr_str, amm_max, amm_min, Nat.zero_add, Nat.add_zero, List.length_cons, List.length_nil, Nat.reduceAdd]
  have s15 : AH.Sub σ1 σ5 := k1.trans g2
  refine fin4P hs hψ (s15.at hG) (by rw [hG]; simp) rfl (hs.trans s15) (g3.sub (dif_mono k1 (.refl _))) g4 fun σ' k1 k2 => h σ' ⟨0, x, size, _⟩ _ k1 k2 ?_
  unfold PopR
  rw [if_pos c, if_neg d]
  refine ⟨rfl, rfl, ?_, ?_⟩
  · rw [List.map_append] at hO
    by_cases e : ys = []
    · rw [if_pos e, List.append_nil]
      show OkP size (pre.map Prod.snd)
      intro i hi
      have hi' : i < pre.length := by simpa using hi
      obtain ⟨a1, a2, a3⟩ := hO i (by simp; omega)
      have ee : (pre.map Prod.snd ++ [(q, ys ++ [x])].map Prod.snd)[i]'(by simp; omega) = (pre.map Prod.snd)[i] := List.getElem_append_left hi
      rw [ee] at a1 a2 a3
      exact ⟨a1, a2, fun h => a3 (by simp at h ⊢; omega)⟩
    · rw [if_neg e]
      show OkP size (pre.map Prod.snd ++ [ys])
      intro i hi
      by_cases hlt : i < (pre.map Prod.snd).length
      · obtain ⟨a1, a2, a3⟩ := hO i (by simp at hlt ⊢; omega)
        have ee : (pre.map Prod.snd ++ [(q, ys ++ [x])].map Prod.snd)[i]'(by simp at hlt ⊢; omega) = (pre.map Prod.snd)[i] := List.getElem_append_left hlt
        have ee2 : (pre.map Prod.snd ++ [ys])[i] = (pre.map Prod.snd)[i] := List.getElem_append_left hlt
        rw [ee] at a1 a2 a3
        rw [ee2]
        exact ⟨a1, a2, fun h => a3 (by simp at h ⊢; omega)⟩
      · have ei : i = (pre.map Prod.snd).length := by simp at hi hlt ⊢; omega
        subst ei
        obtain ⟨a1, a2, a3⟩ := hO (pre.map Prod.snd).length (by simp)
        have hy := List.length_pos_iff.2 e
        simp at a1 a2 ⊢
        omega
  · rw [← hflat]
    by_cases e : ys = []
    · rw [if_pos e, e]; simp
    · rw [if_neg e]; simp
theorem c_spec_PopSegs {size : Int} {p : AV} {ps : List (List Int)} (hP : Ps σ p ps) (hb : ps.length + tot ps ≤ 1099511627776)
    (h : ∀ r, PopR size ps r → R (.ret (.agg [iv r.c, iv r.v, iv r.s, roP r.ps])) σ) : acall TP fn_spec_PopSegs [.agg [iv size, p]] σ R := by
  refine acall_imp (Q := fun e σ' => ∃ r p', e = .ret (.agg [iv r.c, iv r.v, iv r.s, p']) ∧ AH.Sub σ σ' ∧ Ps (dif σ σ') p' r.ps ∧ PopR size ps r) (c_spec_PopSegs_own hP hb fun σ' r p' h1 hB hO => ⟨r, p', rfl, h1, hB, hO⟩) ?_
  rintro e σ' ⟨r, p', rfl, h1, h2, h3⟩
  exact ⟨_, rfl, _, σ, imp_freeze h1 (.agg4 (.same _) (.same _) (.same _) h2.fz), h r h3⟩
end Go.Proofs.Ytoccfncmphipbaa.E
