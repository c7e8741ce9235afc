import Derived.Test.YtjfdgijgkbojnaaG1m
import Derived.Test.YtjfdgijgkbojnaaHMa2
/- PushSegs, PopSegs, ResizeSegs. -/
set_option linter.unusedSectionVars false
set_option linter.unusedSimpArgs false
set_option linter.unusedVariables false
namespace Go.Proofs.Ytjfdgijgkbojnaa.E
open Go Go.RowKit
variable [L : Lam]
variable {σ : AH} {R : AEnd → AH → Prop}
/-- An answer with a stack. -/
structure SgR where
  c : Int
  v : Int
  s : Int
  ps : List (List Int)
def SgR.small (r : SgR) : Prop := r.ps.length + tot r.ps ≤ 8000
/-- What PushSegs answers. -/
def PushR (size : Int) (ps : List (List Int)) (x : Int) (r : SgR) : Prop := r.v = 0 ∧ if segF size ps = 0 then OpenR size (ps.flatten ++ [x]) r.c r.s r.ps else r.c = segF size ps ∧ r.s = 0 ∧ r.ps = []
def ResizeR (size : Int) (ps : List (List Int)) (n : Int) (r : SgR) : Prop := r.v = 0 ∧ if segF size ps = 0 then OpenR n ps.flatten r.c r.s r.ps else r.c = segF size ps ∧ r.s = 0 ∧ r.ps = []
def PopR (size : Int) (ps : List (List Int)) (r : SgR) : Prop :=
  if segF size ps = 0 then
    if ps = [] then r = ⟨4, 0, 0, []⟩ else r.c = 0 ∧ r.s = size ∧ OkP size r.ps ∧ r.ps.flatten ++ [r.v] = ps.flatten
  else r = ⟨segF size ps, 0, 0, []⟩
theorem SgR.ext' {r r' : SgR} (h1 : r.c = r'.c) (h2 : r.v = r'.v) (h3 : r.s = r'.s) (h4 : r.ps = r'.ps) : r = r' := by cases r; cases r'; simp_all
theorem PushR.unique {size : Int} {ps : List (List Int)} {x : Int} {r r' : SgR} (h : PushR size ps x r) (h' : PushR size ps x r') : r = r' := by
  obtain ⟨v, h⟩ := h
  obtain ⟨v', h'⟩ := h'
  by_cases c : segF size ps = 0
  · rw [if_pos c] at h h'
    obtain ⟨a, b, e⟩ := h.unique h'
    exact SgR.ext' a (v.trans v'.symm) b e
  · rw [if_neg c] at h h'
    exact SgR.ext' (h.1.trans h'.1.symm) (v.trans v'.symm) (h.2.1.trans h'.2.1.symm) (h.2.2.trans h'.2.2.symm)
theorem ResizeR.unique {size : Int} {ps : List (List Int)} {x : Int} {r r' : SgR} (h : ResizeR size ps x r) (h' : ResizeR size ps x r') : r = r' := by
  obtain ⟨v, h⟩ := h
  obtain ⟨v', h'⟩ := h'
  by_cases c : segF size ps = 0
  · rw [if_pos c] at h h'
    obtain ⟨a, b, e⟩ := h.unique h'
    exact SgR.ext' a (v.trans v'.symm) b e
  · rw [if_neg c] at h h'
    exact SgR.ext' (h.1.trans h'.1.symm) (v.trans v'.symm) (h.2.1.trans h'.2.1.symm) (h.2.2.trans h'.2.2.symm)
theorem PopR.unique {size : Int} {ps : List (List Int)} {r r' : SgR} (h : PopR size ps r) (h' : PopR size ps r') : r = r' := by
  unfold PopR at h h'
  by_cases c : segF size ps = 0
  · rw [if_pos c] at h h'
    by_cases d : ps = []
    · rw [if_pos d] at h h'; rw [h, h']
    · rw [if_neg d] at h h'
      obtain ⟨a1, a2, a3, a4⟩ := h
      obtain ⟨b1, b2, b3, b4⟩ := h'
      have e := a4.trans b4.symm
      have e1 := List.append_inj_left' e rfl
      have e2 := List.append_inj_right' e rfl
      exact SgR.ext' (a1.trans b1.symm) (by simpa using e2) (a2.trans b2.symm) (okp_unique a3 b3 e1)
  · rw [if_neg c] at h h'; rw [h, h']
theorem PushR.small {size : Int} {ps : List (List Int)} {x : Int} {r : SgR} (h : PushR size ps x r) : r.small := by
  obtain ⟨v, h⟩ := h
  by_cases c : segF size ps = 0
  · rw [if_pos c] at h; exact h.small
  · rw [if_neg c] at h; unfold SgR.small; rw [h.2.2]; simp [tot]
theorem ResizeR.small {size : Int} {ps : List (List Int)} {x : Int} {r : SgR} (h : ResizeR size ps x r) : r.small := by
  obtain ⟨v, h⟩ := h
  by_cases c : segF size ps = 0
  · rw [if_pos c] at h; exact h.small
  · rw [if_neg c] at h; unfold SgR.small; rw [h.2.2]; simp [tot]
theorem PopR.small {size : Int} {ps : List (List Int)} {r : SgR} (h : PopR size ps r) : r.small := by
  unfold PopR at h
  unfold SgR.small
  by_cases c : segF size ps = 0
  · rw [if_pos c] at h
    by_cases d : ps = []
    · rw [if_pos d] at h; rw [h]; simp [tot]
    · rw [if_neg d] at h
      obtain ⟨a1, a2, a3, a4⟩ := h
      have := one_le_flat a3
      obtain ⟨_, _, o3⟩ := seg_ok c
      have e := congrArg List.length a4
      rw [tot_flatten, List.length_append, tot_flatten] at e
      rw [tot_flatten] at this
      simp at e
      omega
  · rw [if_neg c] at h; rw [h]; simp [tot]
theorem bldS_12 (x s : Int) (v : AV) : bld [iv 0, iv 0, iv 0, nilS] [(0, 1), (1, 1), (2, 2)] [(1, iv x), (2, .agg [iv s, v])] = some (.agg [iv 0, iv x, iv s, v]) := by simp [bld, afill, acells, spl, Value.cells]
/-- The frame that these functions share: the argument in a cell, the answer in a cell. -/
theorem two_cells {σ : AH} {size : Int} {p : AV} {φ ψ : Nat} (hφ : σ φ = none) (hψ : (σ.set φ ⟨0, 2, [[iv size, p]]⟩) ψ = none) :
    AH.Sub σ ((σ.set φ ⟨0, 2, [[iv size, p]]⟩).set ψ ⟨0, 4, [[iv 0, iv 0, iv 0, nilS]]⟩) ∧ σ ψ = none ∧ φ ≠ ψ ∧
    ((σ.set φ ⟨0, 2, [[iv size, p]]⟩).set ψ ⟨0, 4, [[iv 0, iv 0, iv 0, nilS]]⟩) φ = some ⟨0, 2, [[iv size, p]]⟩ ∧ ((σ.set φ ⟨0, 2, [[iv size, p]]⟩).set ψ ⟨0, 4, [[iv 0, iv 0, iv 0, nilS]]⟩) ψ = some ⟨0, 4, [[iv 0, iv 0, iv 0, nilS]]⟩ := by
  simp only [AH.set_none] at hψ
  refine ⟨sub_set (sub_set (.refl σ) hφ) hψ.2, hψ.2, Ne.symm hψ.1, ?_, AH.set_same ..⟩
  rw [AH.set_ne' (Ne.symm hψ.1), AH.set_same]
/-- An answer laid into its cell and returned. -/
theorem fin4 {σ σ1 σ2 : AH} {ψ : Nat} {c v s : Int} {p : AV} {zs : List AV} {qs : List (AV × List Int)} (hs : AH.Sub σ σ1) (hψ : σ ψ = none) (hG : σ1 ψ = some ⟨0, 4, [zs]⟩) (hz : zs.length = 4) (s2 : AH.Sub σ1 σ2) (hB : PB (dif σ1 σ2) p qs)
    (h : ∀ σ', AH.Sub σ σ' → PB (dif σ σ') p qs → R (.ret (.agg [iv c, iv v, iv s, p])) σ') :
    sto 4 (.ptr ψ 0 0 0) (.agg [iv c, iv v, iv s, p]) σ2 fun σ => og (lodA 4 (.ptr ψ 0 0 0) σ) fun r4 => aret r4 σ R := by
  refine sto_own (cs := [iv c, iv v, iv s, p]) (s2.at hG) (by simp) (by simpa using hz) rfl rfl (one4 hB.out.one.2) ?_
  simp [lodA, acellsAt]
  exact ret_here (h _ (sub_set (hs.trans s2) hψ) (hB.sub (dif_keep' hs fun χ h1 _ => AH.set_ne' (by rintro rfl; rw [hG] at h1; cases h1))))
theorem fin4P {σ σ1 σ2 : AH} {ψ : Nat} {c v s : Int} {p : AV} {zs : List AV} {ps : List (List Int)} (hs : AH.Sub σ σ1) (hψ : σ ψ = none) (hG : σ2 ψ = some ⟨0, 4, [zs]⟩) (hg : σ1 ψ ≠ none) (hz : zs.length = 4) (s2 : AH.Sub σ σ2) (hB : Ps (dif σ1 σ2) p ps) (h1 : p.one = true)
    (h : ∀ σ', AH.Sub σ σ' → Ps (dif σ σ') p ps → R (.ret (.agg [iv c, iv v, iv s, p])) σ') :
    sto 4 (.ptr ψ 0 0 0) (.agg [iv c, iv v, iv s, p]) σ2 fun σ => og (lodA 4 (.ptr ψ 0 0 0) σ) fun r4 => aret r4 σ R := by
  refine sto_own (cs := [iv c, iv v, iv s, p]) hG (by simp) (by simpa using hz) rfl rfl (one4 h1) ?_
  simp [lodA, acellsAt]
  exact ret_here (h _ (sub_set s2 hψ) (hB.sub (dif_keep' hs fun χ h1 _ => AH.set_ne' (by rintro rfl; exact hg h1))))
theorem flat_len {ps : List (List Int)} {n : Nat} (h : tot ps ≤ n) : ps.flatten.length ≤ n := by rw [tot_flatten]; exact h
theorem c_impl_PushSegs {size x : Int} {p : AV} {ps : List (List Int)} (hP : Ps σ p ps) (hb : ps.length + tot ps ≤ 1099511627776)
    (h : ∀ σ' r p' qs, AH.Sub σ σ' → PB (dif σ σ') p' qs → qs.map Prod.snd = r.ps → PushR size ps x r → R (.ret (.agg [iv r.c, iv r.v, iv r.s, p'])) σ') : acall TP fn_impl_PushSegs [.agg [iv size, p], iv x] σ R := by
  refine s_impl_PushSegs_ok ?_
  unfold s_impl_PushSegs
  simp only [abox_agg, new_eq, og_some', onr_ret, gval_true, gval_false, pickV_true, pickV_false, apick_true, apick_false, gpick_true, gpick_false, ibin_leq, ibin_geq, ibin_lss, ibin_gtr, ibin_eql, ibin_neq, sbin_eql, sbin_neq, aun_not, Bool.not_true, Bool.not_false, decide_true, decide_false, if_true, if_false, Bool.false_eq_true, fldA_ptr, fldA_rop, anil_ptr, lenStr_str, amm_max, amm_min, Nat.zero_add, Nat.add_zero, List.length_cons, List.length_nil, Nat.reduceAdd]
  intro φ hφ ψ hψ0
  obtain ⟨hs, hψ, hne, hF, hG⟩ := two_cells hφ hψ0
  generalize (σ.set φ ⟨0, 2, [[iv size, p]]⟩).set ψ ⟨0, 4, [[iv 0, iv 0, iv 0, nilS]]⟩ = σ1 at hs hF hG ⊢
  have e := lodA_at (st := 0) (i := 0) (n := 2) (cs := [iv size, p]) hF rfl rfl rfl
  simp only [e, og_some', onr_ret, gval_true, gval_false, pickV_true, pickV_false, apick_true, apick_false, gpick_true, gpick_false, ibin_leq, ibin_geq, ibin_lss, ibin_gtr, ibin_eql, ibin_neq, sbin_eql, sbin_neq, aun_not, Bool.not_true, Bool.not_false, decide_true, decide_false, if_true, if_false, Bool.false_eq_true, fldA_ptr, fldA_rop, anil_ptr, lenStr_str, amm_max, amm_min, Nat.zero_add, Nat.add_zero, List.length_cons, List.length_nil, Nat.reduceAdd]
  refine c_impl_SegsFault (hP.sub hs) hb ?_
  simp only [og_some', onr_ret, gval_true, gval_false, pickV_true, pickV_false, apick_true, apick_false, gpick_true, gpick_false, ibin_leq, ibin_geq, ibin_lss, ibin_gtr, ibin_eql, ibin_neq, sbin_eql, sbin_neq, aun_not, Bool.not_true, Bool.not_false, decide_true, decide_false, if_true, if_false, Bool.false_eq_true, fldA_ptr, fldA_rop, anil_ptr, lenStr_str, amm_max, amm_min, Nat.zero_add, Nat.add_zero, List.length_cons, List.length_nil, Nat.reduceAdd]
  by_cases c : segF size ps = 0
  case neg =>
    simp only [c, bldS_0, og_some', onr_ret, gval_true, gval_false, pickV_true, pickV_false, apick_true, apick_false, gpick_true, gpick_false, ibin_leq, ibin_geq, ibin_lss, ibin_gtr, ibin_eql, ibin_neq, sbin_eql, sbin_neq, aun_not, Bool.not_true, Bool.not_false, decide_true, decide_false, if_true, if_false, Bool.false_eq_true, fldA_ptr, fldA_rop, anil_ptr, lenStr_str, amm_max, amm_min, Nat.zero_add, Nat.add_zero, List.length_cons, List.length_nil, Nat.reduceAdd]
    exact fin4 hs hψ hG rfl (.refl _) PB.nil fun σ' k1 k2 => h σ' ⟨segF size ps, 0, 0, []⟩ _ [] k1 k2 rfl ⟨rfl, by rw [if_neg c]; exact ⟨rfl, rfl, rfl⟩⟩
  obtain ⟨o1, o2, o3⟩ := seg_ok c
  have e0 := lod_at (st := 0) (i := 0) (off := 0) (c := iv size) hF rfl rfl
  have er : bslR 1 [(.val (.int .i64 0))] 1 [(0, iv x)] = some (.ro [[iv x]]) := by simp [bslR, afillS, acells, spl, Value.cells]
  simp only [c, e, e0, er, og_some', onr_ret, gval_true, gval_false, pickV_true, pickV_false, apick_true, apick_false, gpick_true, gpick_false, ibin_leq, ibin_geq, ibin_lss, ibin_gtr, ibin_eql, ibin_neq, sbin_eql, sbin_neq, aun_not, Bool.not_true, Bool.not_false, decide_true, decide_false, if_true, if_false, Bool.false_eq_true, fldA_ptr, fldA_rop, anil_ptr, lenStr_str, amm_max, amm_min, Nat.zero_add, Nat.add_zero, List.length_cons, List.length_nil, Nat.reduceAdd]
  refine c_impl_Segs_items (hP.sub hs) hb (by omega) fun v σ2 k1 k2 => ?_
  have e0' := lod_at (σ := σ2) (st := 0) (i := 0) (off := 0) (c := iv size) (k1.at hF) rfl rfl
  simp only [e0', true_and, og_some', onr_ret, gval_true, gval_false, pickV_true, pickV_false, apick_true, apick_false, gpick_true, gpick_false, ibin_leq, ibin_geq, ibin_lss, ibin_gtr, ibin_eql, ibin_neq, sbin_eql, sbin_neq, aun_not, Bool.not_true, Bool.not_false, decide_true, decide_false, if_true, if_false, Bool.false_eq_true, fldA_ptr, fldA_rop, anil_ptr, lenStr_str, amm_max, amm_min, Nat.zero_add, Nat.add_zero, List.length_cons, List.length_nil, Nat.reduceAdd]
  have k2' : Buf σ2 1 v (ps.flatten.map fun x => [iv x]) := k2.sub (dif_sub _ _)
  refine Buf.app k2' (xs := [x].map fun x => [iv x]) rfl (iv_size [x]) (iv_one [x]) (by simp only [List.length_map, tot_flatten]; simp; omega) ?_
  intro v' σ3 b1 b2 b3 b4
  rw [← List.map_append] at b1
  have new_v : ∀ χ, Buf.fam v χ → σ1 χ = none := fun χ hf => by obtain ⟨F, hF2⟩ := k2.fam_some hf; exact (dif_some hF2).1
  have s13 : AH.Sub σ1 σ3 := fun χ F hχ => by
    rw [b2 χ (fun hf => by rw [new_v χ hf] at hχ; cases hχ) (by rw [k1.at hχ]; simp)]; exact k1.at hχ
  have e0'' := lod_at (σ := σ3) (st := 0) (i := 0) (off := 0) (c := iv size) (s13.at hF) rfl rfl
  simp only [e0'', true_and, og_some', onr_ret, gval_true, gval_false, pickV_true, pickV_false, apick_true, apick_false, gpick_true, gpick_false, ibin_leq, ibin_geq, ibin_lss, ibin_gtr, ibin_eql, ibin_neq, sbin_eql, sbin_neq, aun_not, Bool.not_true, Bool.not_false, decide_true, decide_false, if_true, if_false, Bool.false_eq_true, fldA_ptr, fldA_rop, anil_ptr, lenStr_str, amm_max, amm_min, Nat.zero_add, Nat.add_zero, List.length_cons, List.length_nil, Nat.reduceAdd]
  refine c_impl_OpenSegs (Buf.cs b1) (by simp only [List.length_append, tot_flatten]; simp; omega) fun σ4 c' s' p' qs s4 hB hO => ?_
  simp only [true_and, og_some', onr_ret, gval_true, gval_false, pickV_true, pickV_false, apick_true, apick_false, gpick_true, gpick_false, ibin_leq, ibin_geq, ibin_lss, ibin_gtr, ibin_eql, ibin_neq, sbin_eql, sbin_neq, aun_not, Bool.not_true, Bool.not_false, decide_true, decide_false, if_true, if_false, Bool.false_eq_true, fldA_ptr, fldA_rop, anil_ptr, lenStr_str, amm_max, amm_min, Nat.zero_add, Nat.add_zero, List.length_cons, List.length_nil, Nat.reduceAdd]
  refine fin4 hs hψ hG rfl (s13.trans s4) ?_ fun σ' k1 k2 => h σ' ⟨c', 0, s', _⟩ _ qs k1 k2 rfl ⟨rfl, by rw [if_pos c]; exact hO⟩
  exact hB.sub (dif_mono s13 (.refl _))
theorem c_impl_ResizeSegs {size n : Int} {p : AV} {ps : List (List Int)} (hP : Ps σ p ps) (hb : ps.length + tot ps ≤ 1099511627776)
    (h : ∀ σ' r p' qs, AH.Sub σ σ' → PB (dif σ σ') p' qs → qs.map Prod.snd = r.ps → ResizeR size ps n r → R (.ret (.agg [iv r.c, iv r.v, iv r.s, p'])) σ') : acall TP fn_impl_ResizeSegs [.agg [iv size, p], iv n] σ R := by
  refine s_impl_ResizeSegs_ok ?_
  unfold s_impl_ResizeSegs
  simp only [abox_agg, new_eq, og_some', onr_ret, gval_true, gval_false, pickV_true, pickV_false, apick_true, apick_false, gpick_true, gpick_false, ibin_leq, ibin_geq, ibin_lss, ibin_gtr, ibin_eql, ibin_neq, sbin_eql, sbin_neq, aun_not, Bool.not_true, Bool.not_false, decide_true, decide_false, if_true, if_false, Bool.false_eq_true, fldA_ptr, fldA_rop, anil_ptr, lenStr_str, amm_max, amm_min, Nat.zero_add, Nat.add_zero, List.length_cons, List.length_nil, Nat.reduceAdd]
  intro φ hφ ψ hψ0
  obtain ⟨hs, hψ, hne, hF, hG⟩ := two_cells hφ hψ0
  generalize (σ.set φ ⟨0, 2, [[iv size, p]]⟩).set ψ ⟨0, 4, [[iv 0, iv 0, iv 0, nilS]]⟩ = σ1 at hs hF hG ⊢
  have e := lodA_at (st := 0) (i := 0) (n := 2) (cs := [iv size, p]) hF rfl rfl rfl
  simp only [e, og_some', onr_ret, gval_true, gval_false, pickV_true, pickV_false, apick_true, apick_false, gpick_true, gpick_false, ibin_leq, ibin_geq, ibin_lss, ibin_gtr, ibin_eql, ibin_neq, sbin_eql, sbin_neq, aun_not, Bool.not_true, Bool.not_false, decide_true, decide_false, if_true, if_false, Bool.false_eq_true, fldA_ptr, fldA_rop, anil_ptr, lenStr_str, amm_max, amm_min, Nat.zero_add, Nat.add_zero, List.length_cons, List.length_nil, Nat.reduceAdd]
  refine c_impl_SegsFault (hP.sub hs) hb ?_
  simp only [og_some', onr_ret, gval_true, gval_false, pickV_true, pickV_false, apick_true, apick_false, gpick_true, gpick_false, ibin_leq, ibin_geq, ibin_lss, ibin_gtr, ibin_eql, ibin_neq, sbin_eql, sbin_neq, aun_not, Bool.not_true, Bool.not_false, decide_true, decide_false, if_true, if_false, Bool.false_eq_true, fldA_ptr, fldA_rop, anil_ptr, lenStr_str, amm_max, amm_min, Nat.zero_add, Nat.add_zero, List.length_cons, List.length_nil, Nat.reduceAdd]
  by_cases c : segF size ps = 0
  case neg =>
    simp only [c, bldS_0, og_some', onr_ret, gval_true, gval_false, pickV_true, pickV_false, apick_true, apick_false, gpick_true, gpick_false, ibin_leq, ibin_geq, ibin_lss, ibin_gtr, ibin_eql, ibin_neq, sbin_eql, sbin_neq, aun_not, Bool.not_true, Bool.not_false, decide_true, decide_false, if_true, if_false, Bool.false_eq_true, fldA_ptr, fldA_rop, anil_ptr, lenStr_str, amm_max, amm_min, Nat.zero_add, Nat.add_zero, List.length_cons, List.length_nil, Nat.reduceAdd]
    exact fin4 hs hψ hG rfl (.refl _) PB.nil fun σ' k1 k2 => h σ' ⟨segF size ps, 0, 0, []⟩ _ [] k1 k2 rfl ⟨rfl, by rw [if_neg c]; exact ⟨rfl, rfl, rfl⟩⟩
  obtain ⟨o1, o2, o3⟩ := seg_ok c
  simp only [c, e, og_some', onr_ret, gval_true, gval_false, pickV_true, pickV_false, apick_true, apick_false, gpick_true, gpick_false, ibin_leq, ibin_geq, ibin_lss, ibin_gtr, ibin_eql, ibin_neq, sbin_eql, sbin_neq, aun_not, Bool.not_true, Bool.not_false, decide_true, decide_false, if_true, if_false, Bool.false_eq_true, fldA_ptr, fldA_rop, anil_ptr, lenStr_str, amm_max, amm_min, Nat.zero_add, Nat.add_zero, List.length_cons, List.length_nil, Nat.reduceAdd]
  refine c_impl_Segs_items (hP.sub hs) hb (by omega) fun v σ2 k1 k2 => ?_
  have k2' : Buf σ2 1 v (ps.flatten.map fun x => [iv x]) := k2.sub (dif_sub _ _)
  simp only [og_some', onr_ret, gval_true, gval_false, pickV_true, pickV_false, apick_true, apick_false, gpick_true, gpick_false, ibin_leq, ibin_geq, ibin_lss, ibin_gtr, ibin_eql, ibin_neq, sbin_eql, sbin_neq, aun_not, Bool.not_true, Bool.not_false, decide_true, decide_false, if_true, if_false, Bool.false_eq_true, fldA_ptr, fldA_rop, anil_ptr, lenStr_str, amm_max, amm_min, Nat.zero_add, Nat.add_zero, List.length_cons, List.length_nil, Nat.reduceAdd]
  refine c_impl_OpenSegs (Buf.cs k2') (by rw [tot_flatten]; omega) fun σ4 c' s' p' qs s4 hB hO => ?_
  simp only [og_some', onr_ret, gval_true, gval_false, pickV_true, pickV_false, apick_true, apick_false, gpick_true, gpick_false, ibin_leq, ibin_geq, ibin_lss, ibin_gtr, ibin_eql, ibin_neq, sbin_eql, sbin_neq, aun_not, Bool.not_true, Bool.not_false, decide_true, decide_false, if_true, if_false, Bool.false_eq_true, fldA_ptr, fldA_rop, anil_ptr, lenStr_str, amm_max, amm_min, Nat.zero_add, Nat.add_zero, List.length_cons, List.length_nil, Nat.reduceAdd]
  refine fin4 hs hψ hG rfl (k1.trans s4) ?_ fun σ' k1 k2 => h σ' ⟨c', 0, s', _⟩ _ qs k1 k2 rfl ⟨rfl, by rw [if_pos c]; exact hO⟩
  exact hB.sub (dif_mono k1 (.refl _))
theorem ps_nil_flat {size : Int} {ps : List (List Int)} (h : OkP size ps) : ps = [] ↔ tot ps = 0 := by
  constructor
  · rintro rfl; rfl
  · intro e
    have := one_le_flat h
    rw [tot_flatten, e] at this
    exact List.eq_nil_of_length_eq_zero (by omega)
theorem c_impl_PopSegs {size : Int} {p : AV} {ps : List (List Int)} (hP : Ps σ p ps) (hb : ps.length + tot ps ≤ 1099511627776)
    (h : ∀ σ' r p' qs, AH.Sub σ σ' → PB (dif σ σ') p' qs → qs.map Prod.snd = r.ps → PopR size ps r → R (.ret (.agg [iv r.c, iv r.v, iv r.s, p'])) σ') : acall TP fn_impl_PopSegs [.agg [iv size, p]] σ R := by
  refine s_impl_PopSegs_ok ?_
  unfold s_impl_PopSegs
  simp only [abox_agg, new_eq, og_some', onr_ret, gval_true, gval_false, pickV_true, pickV_false, apick_true, apick_false, gpick_true, gpick_false, ibin_leq, ibin_geq, ibin_lss, ibin_gtr, ibin_eql, ibin_neq, sbin_eql, sbin_neq, aun_not, Bool.not_true, Bool.not_false, decide_true, decide_false, if_true, if_false, Bool.false_eq_true, fldA_ptr, fldA_rop, anil_ptr, lenStr_str, amm_max, amm_min, Nat.zero_add, Nat.add_zero, List.length_cons, List.length_nil, Nat.reduceAdd]
  intro φ hφ ψ hψ0
  obtain ⟨hs, hψ, hne, hF, hG⟩ := two_cells hφ hψ0
  generalize (σ.set φ ⟨0, 2, [[iv size, p]]⟩).set ψ ⟨0, 4, [[iv 0, iv 0, iv 0, nilS]]⟩ = σ1 at hs hF hG ⊢
  have e := lodA_at (st := 0) (i := 0) (n := 2) (cs := [iv size, p]) hF rfl rfl rfl
  simp only [e, og_some', onr_ret, gval_true, gval_false, pickV_true, pickV_false, apick_true, apick_false, gpick_true, gpick_false, ibin_leq, ibin_geq, ibin_lss, ibin_gtr, ibin_eql, ibin_neq, sbin_eql, sbin_neq, aun_not, Bool.not_true, Bool.not_false, decide_true, decide_false, if_true, if_false, Bool.false_eq_true, fldA_ptr, fldA_rop, anil_ptr, lenStr_str, amm_max, amm_min, Nat.zero_add, Nat.add_zero, List.length_cons, List.length_nil, Nat.reduceAdd]
  refine c_impl_SegsFault (hP.sub hs) hb ?_
  simp only [og_some', onr_ret, gval_true, gval_false, pickV_true, pickV_false, apick_true, apick_false, gpick_true, gpick_false, ibin_leq, ibin_geq, ibin_lss, ibin_gtr, ibin_eql, ibin_neq, sbin_eql, sbin_neq, aun_not, Bool.not_true, Bool.not_false, decide_true, decide_false, if_true, if_false, Bool.false_eq_true, fldA_ptr, fldA_rop, anil_ptr, lenStr_str, amm_max, amm_min, Nat.zero_add, Nat.add_zero, List.length_cons, List.length_nil, Nat.reduceAdd]
  by_cases c : segF size ps = 0
  case neg =>
    simp only [c, bldS_0, og_some', onr_ret, gval_true, gval_false, pickV_true, pickV_false, apick_true, apick_false, gpick_true, gpick_false, ibin_leq, ibin_geq, ibin_lss, ibin_gtr, ibin_eql, ibin_neq, sbin_eql, sbin_neq, aun_not, Bool.not_true, Bool.not_false, decide_true, decide_false, if_true, if_false, Bool.false_eq_true, fldA_ptr, fldA_rop, anil_ptr, lenStr_str, amm_max, amm_min, Nat.zero_add, Nat.add_zero, List.length_cons, List.length_nil, Nat.reduceAdd]
    exact fin4 hs hψ hG rfl (.refl _) PB.nil fun σ' k1 k2 => h σ' ⟨segF size ps, 0, 0, []⟩ _ [] k1 k2 rfl (by unfold PopR; rw [if_neg c])
  obtain ⟨o1, o2, o3⟩ := seg_ok c
  simp only [c, e, og_some', onr_ret, gval_true, gval_false, pickV_true, pickV_false, apick_true, apick_false, gpick_true, gpick_false, ibin_leq, ibin_geq, ibin_lss, ibin_gtr, ibin_eql, ibin_neq, sbin_eql, sbin_neq, aun_not, Bool.not_true, Bool.not_false, decide_true, decide_false, if_true, if_false, Bool.false_eq_true, fldA_ptr, fldA_rop, anil_ptr, lenStr_str, amm_max, amm_min, Nat.zero_add, Nat.add_zero, List.length_cons, List.length_nil, Nat.reduceAdd]
  refine c_impl_Segs_items (hP.sub hs) hb (by omega) fun v σ2 k1 k2 => ?_
  have k2' : Buf σ2 1 v (ps.flatten.map fun x => [iv x]) := k2.sub (dif_sub _ _)
  have hV := Buf.cs k2'
  have e0 := lod_at (σ := σ2) (st := 0) (i := 0) (off := 0) (c := iv size) (k1.at hF) rfl rfl
  have hfl := tot_flatten ps
  simp only [hV.len, ibin_sub (a := ps.flatten.length) (b := 1) (by omega) (by omega), og_some', onr_ret, gval_true, gval_false, pickV_true, pickV_false, apick_true, apick_false, gpick_true, gpick_false, ibin_leq, ibin_geq, ibin_lss, ibin_gtr, ibin_eql, ibin_neq, sbin_eql, sbin_neq, aun_not, Bool.not_true, Bool.not_false, decide_true, decide_false, if_true, if_false, Bool.false_eq_true, fldA_ptr, fldA_rop, anil_ptr, lenStr_str, amm_max, amm_min, Nat.zero_add, Nat.add_zero, List.length_cons, List.length_nil, Nat.reduceAdd]
  by_cases d : ps = []
  · have g : (ps.flatten.length : Int) - 1 < 0 := by rw [hfl, (ps_nil_flat o2).1 d]; omega
    simp only [g, bldS_0, og_some', onr_ret, gval_true, gval_false, pickV_true, pickV_false, apick_true, apick_false, gpick_true, gpick_false, ibin_leq, ibin_geq, ibin_lss, ibin_gtr, ibin_eql, ibin_neq, sbin_eql, sbin_neq, aun_not, Bool.not_true, Bool.not_false, decide_true, decide_false, if_true, if_false, Bool.false_eq_true, fldA_ptr, fldA_rop, anil_ptr, lenStr_str, amm_max, amm_min, Nat.zero_add, Nat.add_zero, List.length_cons, List.length_nil, Nat.reduceAdd]
    refine fin4 hs hψ hG rfl k1 PB.nil fun σ' k1 k2 => h σ' ⟨4, 0, 0, []⟩ _ [] k1 k2 rfl (by unfold PopR; rw [if_pos c, if_pos d])
  have hpos : tot ps ≠ 0 := fun e => d ((ps_nil_flat o2).2 e)
  have g : ¬ (ps.flatten.length : Int) - 1 < 0 := by omega
  have hi : ((ps.flatten.length - 1 : Nat) : Int) = (ps.flatten.length : Int) - 1 := by omega
  obtain ⟨v22, e1, e2, _⟩ := hV.at (i := ps.flatten.length - 1) (by omega)
  rw [hi] at e1
  obtain ⟨b, e3, e4⟩ := hV.slc (lo := none) (hi := some (iv (ps.flatten.length - 1))) (l := 0) (k := ps.flatten.length - 1) rfl (by rw [← hi]; exact abd_nat _ _) (Nat.zero_le _) (by omega)
  rw [List.drop_zero] at e4
  simp only [g, e1, e2, e0, e3, og_some', onr_ret, gval_true, gval_false, pickV_true, pickV_false, apick_true, apick_false, gpick_true, gpick_false, ibin_leq, ibin_geq, ibin_lss, ibin_gtr, ibin_eql, ibin_neq, sbin_eql, sbin_neq, aun_not, Bool.not_true, Bool.not_false, decide_true, decide_false, if_true, if_false, Bool.false_eq_true, fldA_ptr, fldA_rop, anil_ptr, lenStr_str, amm_max, amm_min, Nat.zero_add, Nat.add_zero, List.length_cons, List.length_nil, Nat.reduceAdd]
  refine c_impl_segsOf e4 o1.1 o1.2 (by rw [List.length_take]; omega) fun p' σ3 qs s3 hB hO hflat => ?_
  have e1' := idx_mono s3 e1
  have e2' := lod_mono s3 e2
  simp only [e1', e2', bldS_12, true_and, og_some', onr_ret, gval_true, gval_false, pickV_true, pickV_false, apick_true, apick_false, gpick_true, gpick_false, ibin_leq, ibin_geq, ibin_lss, ibin_gtr, ibin_eql, ibin_neq, sbin_eql, sbin_neq, aun_not, Bool.not_true, Bool.not_false, decide_true, decide_false, if_true, if_false, Bool.false_eq_true, fldA_ptr, fldA_rop, anil_ptr, lenStr_str, amm_max, amm_min, Nat.zero_add, Nat.add_zero, List.length_cons, List.length_nil, Nat.reduceAdd]
  refine fin4 hs hψ hG rfl (k1.trans s3) (hB.sub (dif_mono k1 (.refl _))) fun σ' k1 k2 => h σ' ⟨0, _, size, _⟩ _ qs k1 k2 rfl ?_
  unfold PopR
  rw [if_pos c, if_neg d]
  refine ⟨rfl, rfl, hO, ?_⟩
  rw [hflat]
  have := List.take_append_getElem (l := ps.flatten) (i := ps.flatten.length - 1) (by omega)
  rw [this, show ps.flatten.length - 1 + 1 = ps.flatten.length by omega, List.take_length]
/-! ### the reference's -/
theorem c_spec_PushSegs_own {size x : Int} {p : AV} {ps : List (List Int)} (hP : Ps σ p ps) (hb : ps.length + tot ps ≤ 1099511627776)
    (h : ∀ σ' r p', AH.Sub σ σ' → Ps (dif σ σ') p' r.ps → PushR size ps x r → R (.ret (.agg [iv r.c, iv r.v, iv r.s, p'])) σ') : acall TP fn_spec_PushSegs [.agg [iv size, p], iv x] σ R := by
  refine s_spec_PushSegs_ok ?_
  unfold s_spec_PushSegs
  simp only [abox_agg, new_eq, og_some', onr_ret, gval_true, gval_false, pickV_true, pickV_false, apick_true, apick_false, gpick_true, gpick_false, ibin_leq, ibin_geq, ibin_lss, ibin_gtr, ibin_eql, ibin_neq, sbin_eql, sbin_neq, aun_not, Bool.not_true, Bool.not_false, decide_true, decide_false, if_true, if_false, Bool.false_eq_true, fldA_ptr, fldA_rop, anil_ptr, lenStr_str, amm_max, amm_min, Nat.zero_add, Nat.add_zero, List.length_cons, List.length_nil, Nat.reduceAdd]
  intro φ hφ ψ hψ0
  obtain ⟨hs, hψ, hne, hF, hG⟩ := two_cells hφ hψ0
  generalize (σ.set φ ⟨0, 2, [[iv size, p]]⟩).set ψ ⟨0, 4, [[iv 0, iv 0, iv 0, nilS]]⟩ = σ1 at hs hF hG ⊢
  refine c_spec_l12Fault hF (hP.sub hs) hb ?_
  simp only [og_some', onr_ret, gval_true, gval_false, pickV_true, pickV_false, apick_true, apick_false, gpick_true, gpick_false, ibin_leq, ibin_geq, ibin_lss, ibin_gtr, ibin_eql, ibin_neq, sbin_eql, sbin_neq, aun_not, Bool.not_true, Bool.not_false, decide_true, decide_false, if_true, if_false, Bool.false_eq_true, fldA_ptr, fldA_rop, anil_ptr, lenStr_str, amm_max, amm_min, Nat.zero_add, Nat.add_zero, List.length_cons, List.length_nil, Nat.reduceAdd]
  by_cases c : segF size ps = 0
  case neg =>
    simp only [c, bldS_0, og_some', onr_ret, gval_true, gval_false, pickV_true, pickV_false, apick_true, apick_false, gpick_true, gpick_false, ibin_leq, ibin_geq, ibin_lss, ibin_gtr, ibin_eql, ibin_neq, sbin_eql, sbin_neq, aun_not, Bool.not_true, Bool.not_false, decide_true, decide_false, if_true, if_false, Bool.false_eq_true, fldA_ptr, fldA_rop, anil_ptr, lenStr_str, amm_max, amm_min, Nat.zero_add, Nat.add_zero, List.length_cons, List.length_nil, Nat.reduceAdd]
    exact fin4 hs hψ hG rfl (.refl _) PB.nil fun σ' k1 k2 => h σ' ⟨segF size ps, 0, 0, []⟩ _ k1 k2.ps ⟨rfl, by rw [if_neg c]; exact ⟨rfl, rfl, rfl⟩⟩
  obtain ⟨o1, o2, o3⟩ := seg_ok c
  simp only [c, og_some', onr_ret, gval_true, gval_false, pickV_true, pickV_false, apick_true, apick_false, gpick_true, gpick_false, ibin_leq, ibin_geq, ibin_lss, ibin_gtr, ibin_eql, ibin_neq, sbin_eql, sbin_neq, aun_not, Bool.not_true, Bool.not_false, decide_true, decide_false, if_true, if_false, Bool.false_eq_true, fldA_ptr, fldA_rop, anil_ptr, lenStr_str, amm_max, amm_min, Nat.zero_add, Nat.add_zero, List.length_cons, List.length_nil, Nat.reduceAdd]
  refine c_spec_l12Depth hF (hP.sub hs) o1 o2 hb ?_
  simp only [og_some', onr_ret, gval_true, gval_false, pickV_true, pickV_false, apick_true, apick_false, gpick_true, gpick_false, ibin_leq, ibin_geq, ibin_lss, ibin_gtr, ibin_eql, ibin_neq, sbin_eql, sbin_neq, aun_not, Bool.not_true, Bool.not_false, decide_true, decide_false, if_true, if_false, Bool.false_eq_true, fldA_ptr, fldA_rop, anil_ptr, lenStr_str, amm_max, amm_min, Nat.zero_add, Nat.add_zero, List.length_cons, List.length_nil, Nat.reduceAdd]
  have hfl := tot_flatten ps
  by_cases d : (4000 : Int) ≤ tot ps
  · simp only [d, bldS_0, og_some', onr_ret, gval_true, gval_false, pickV_true, pickV_false, apick_true, apick_false, gpick_true, gpick_false, ibin_leq, ibin_geq, ibin_lss, ibin_gtr, ibin_eql, ibin_neq, sbin_eql, sbin_neq, aun_not, Bool.not_true, Bool.not_false, decide_true, decide_false, if_true, if_false, Bool.false_eq_true, fldA_ptr, fldA_rop, anil_ptr, lenStr_str, amm_max, amm_min, Nat.zero_add, Nat.add_zero, List.length_cons, List.length_nil, Nat.reduceAdd]
    exact fin4 hs hψ hG rfl (.refl _) PB.nil fun σ' k1 k2 => h σ' ⟨2, 0, 0, []⟩ _ k1 k2.ps ⟨rfl, by rw [if_pos c]; unfold OpenR; rw [if_pos o1, if_neg (by rw [List.length_append]; simp only [List.length_cons, List.length_nil]; omega)]; exact ⟨rfl, rfl, rfl⟩⟩
  have e0 := lod_at (st := 0) (i := 0) (off := 0) (c := iv size) hF rfl rfl
  simp only [d, e0, og_some', onr_ret, gval_true, gval_false, pickV_true, pickV_false, apick_true, apick_false, gpick_true, gpick_false, ibin_leq, ibin_geq, ibin_lss, ibin_gtr, ibin_eql, ibin_neq, sbin_eql, sbin_neq, aun_not, Bool.not_true, Bool.not_false, decide_true, decide_false, if_true, if_false, Bool.false_eq_true, fldA_ptr, fldA_rop, anil_ptr, lenStr_str, amm_max, amm_min, Nat.zero_add, Nat.add_zero, List.length_cons, List.length_nil, Nat.reduceAdd]
  refine c_spec_l12List hF (hP.sub hs) hb (by omega) fun v σ2 k1 k2 => ?_
  have e0' := lod_at (σ := σ2) (st := 0) (i := 0) (off := 0) (c := iv size) (k1.at hF) rfl rfl
  simp only [e0', true_and, og_some', onr_ret, gval_true, gval_false, pickV_true, pickV_false, apick_true, apick_false, gpick_true, gpick_false, ibin_leq, ibin_geq, ibin_lss, ibin_gtr, ibin_eql, ibin_neq, sbin_eql, sbin_neq, aun_not, Bool.not_true, Bool.not_false, decide_true, decide_false, if_true, if_false, Bool.false_eq_true, fldA_ptr, fldA_rop, anil_ptr, lenStr_str, amm_max, amm_min, Nat.zero_add, Nat.add_zero, List.length_cons, List.length_nil, Nat.reduceAdd]
  have k2' : Buf σ2 1 v (ps.flatten.map fun x => [iv x]) := k2.sub (dif_sub _ _)
  refine c_spec_l12Open (Buf.cs k2') o1.1 (by omega) fun σ3 p3 qs3 s3 hB hO hflat => ?_
  simp only [new_eq, true_and, og_some', onr_ret, gval_true, gval_false, pickV_true, pickV_false, apick_true, apick_false, gpick_true, gpick_false, ibin_leq, ibin_geq, ibin_lss, ibin_gtr, ibin_eql, ibin_neq, sbin_eql, sbin_neq, aun_not, Bool.not_true, Bool.not_false, decide_true, decide_false, if_true, if_false, Bool.false_eq_true, fldA_ptr, fldA_rop, anil_ptr, lenStr_str, amm_max, amm_min, Nat.zero_add, Nat.add_zero, List.length_cons, List.length_nil, Nat.reduceAdd]
  intro χ hχ
  refine put_new hχ rfl rfl (one2 hB.out.one.2) fun σ4 s4 f4 k4 => ?_
  have hB4 : PB σ4 p3 qs3 := (hB.sub (dif_sub _ _)).sub s4
  have hsm := one_le_flat hO
  have hft := tot_flatten (qs3.map Prod.snd)
  rw [hflat] at hsm hft
  rw [List.length_map] at hsm
  refine c_spec_l12Push f4 hB4 hO o1.1 (by omega) ?_
  intro σ5 p5 qs5 g1 g2 g3 g4 g5 g6 g7
  have e5 := lodA_at (σ := σ5) (st := 0) (i := 0) (n := 2) (cs := [iv size, p5]) g1 rfl rfl rfl
  simp only [e5, bldS_2, og_some', onr_ret, gval_true, gval_false, pickV_true, pickV_false, apick_true, apick_false, gpick_true, gpick_false, ibin_leq, ibin_geq, ibin_lss, ibin_gtr, ibin_eql, ibin_neq, sbin_eql, sbin_neq, aun_not, Bool.not_true, Bool.not_false, decide_true, decide_false, if_true, if_false, Bool.false_eq_true, fldA_ptr, fldA_rop, anil_ptr, lenStr_str, amm_max, amm_min, Nat.zero_add, Nat.add_zero, List.length_cons, List.length_nil, Nat.reduceAdd]
  have n_of : ∀ ζ, Foot p3 qs3 ζ → σ2 ζ = none := fun ζ hf => (hB.new hf).1
  have keep : ∀ ζ F, σ2 ζ = some F → σ5 ζ = some F := fun ζ F hζ =>
    g6 ζ F (by rintro rfl; have := s3.at hζ; rw [hχ] at this; cases this) (fun hf => by rw [n_of ζ hf] at hζ; cases hζ) ((s3.trans s4).at hζ)
  have s15 : AH.Sub σ1 σ5 := fun ζ F hζ => keep ζ F (k1.at hζ)
  have fresh5 : Fresh σ1 p5 qs5 := by
    have key : ∀ ζ, Foot p5 qs5 ζ → σ1 ζ = none := by
      intro ζ hf
      rcases g7 ζ hf with hf | hf
      · exact k1.none (n_of ζ hf)
      · exact ((k1.trans s3).trans s4).none hf
    exact ⟨fun ζ hf => key ζ (.inl hf), fun q hq ζ hf => key ζ (.inr ⟨q, hq, hf⟩)⟩
  refine fin4 hs hψ hG rfl s15 (g2.dif fresh5) fun σ' k1 k2 => h σ' ⟨0, 0, size, _⟩ _ k1 k2.ps ⟨rfl, ?_⟩
  rw [if_pos c]
  unfold OpenR
  rw [if_pos o1, if_pos (by rw [List.length_append]; simp only [List.length_cons, List.length_nil]; omega)]
  exact ⟨rfl, rfl, g3, by rw [g4, hflat]⟩
theorem c_spec_ResizeSegs_own {size n : Int} {p : AV} {ps : List (List Int)} (hP : Ps σ p ps) (hb : ps.length + tot ps ≤ 1099511627776)
    (h : ∀ σ' r p', AH.Sub σ σ' → Ps (dif σ σ') p' r.ps → ResizeR size ps n r → R (.ret (.agg [iv r.c, iv r.v, iv r.s, p'])) σ') : acall TP fn_spec_ResizeSegs [.agg [iv size, p], iv n] σ R := by
  refine s_spec_ResizeSegs_ok ?_
  unfold s_spec_ResizeSegs
  simp only [abox_agg, new_eq, og_some', onr_ret, gval_true, gval_false, pickV_true, pickV_false, apick_true, apick_false, gpick_true, gpick_false, ibin_leq, ibin_geq, ibin_lss, ibin_gtr, ibin_eql, ibin_neq, sbin_eql, sbin_neq, aun_not, Bool.not_true, Bool.not_false, decide_true, decide_false, if_true, if_false, Bool.false_eq_true, fldA_ptr, fldA_rop, anil_ptr, lenStr_str, amm_max, amm_min, Nat.zero_add, Nat.add_zero, List.length_cons, List.length_nil, Nat.reduceAdd]
  intro φ hφ ψ hψ0
  obtain ⟨hs, hψ, hne, hF, hG⟩ := two_cells hφ hψ0
  generalize (σ.set φ ⟨0, 2, [[iv size, p]]⟩).set ψ ⟨0, 4, [[iv 0, iv 0, iv 0, nilS]]⟩ = σ1 at hs hF hG ⊢
  refine c_spec_l12Fault hF (hP.sub hs) hb ?_
  simp only [og_some', onr_ret, gval_true, gval_false, pickV_true, pickV_false, apick_true, apick_false, gpick_true, gpick_false, ibin_leq, ibin_geq, ibin_lss, ibin_gtr, ibin_eql, ibin_neq, sbin_eql, sbin_neq, aun_not, Bool.not_true, Bool.not_false, decide_true, decide_false, if_true, if_false, Bool.false_eq_true, fldA_ptr, fldA_rop, anil_ptr, lenStr_str, amm_max, amm_min, Nat.zero_add, Nat.add_zero, List.length_cons, List.length_nil, Nat.reduceAdd]
  by_cases c : segF size ps = 0
  case neg =>
    simp only [c, bldS_0, og_some', onr_ret, gval_true, gval_false, pickV_true, pickV_false, apick_true, apick_false, gpick_true, gpick_false, ibin_leq, ibin_geq, ibin_lss, ibin_gtr, ibin_eql, ibin_neq, sbin_eql, sbin_neq, aun_not, Bool.not_true, Bool.not_false, decide_true, decide_false, if_true, if_false, Bool.false_eq_true, fldA_ptr, fldA_rop, anil_ptr, lenStr_str, amm_max, amm_min, Nat.zero_add, Nat.add_zero, List.length_cons, List.length_nil, Nat.reduceAdd]
    exact fin4 hs hψ hG rfl (.refl _) PB.nil fun σ' k1 k2 => h σ' ⟨segF size ps, 0, 0, []⟩ _ k1 k2.ps ⟨rfl, by rw [if_neg c]; exact ⟨rfl, rfl, rfl⟩⟩
  obtain ⟨o1, o2, o3⟩ := seg_ok c
  simp only [c, og_some', onr_ret, gval_true, gval_false, pickV_true, pickV_false, apick_true, apick_false, gpick_true, gpick_false, ibin_leq, ibin_geq, ibin_lss, ibin_gtr, ibin_eql, ibin_neq, sbin_eql, sbin_neq, aun_not, Bool.not_true, Bool.not_false, decide_true, decide_false, if_true, if_false, Bool.false_eq_true, fldA_ptr, fldA_rop, anil_ptr, lenStr_str, amm_max, amm_min, Nat.zero_add, Nat.add_zero, List.length_cons, List.length_nil, Nat.reduceAdd]
  refine c_spec_l12List hF (hP.sub hs) hb (by omega) fun v σ2 k1 k2 => ?_
  have k2' : Buf σ2 1 v (ps.flatten.map fun x => [iv x]) := k2.sub (dif_sub _ _)
  simp only [og_some', onr_ret, gval_true, gval_false, pickV_true, pickV_false, apick_true, apick_false, gpick_true, gpick_false, ibin_leq, ibin_geq, ibin_lss, ibin_gtr, ibin_eql, ibin_neq, sbin_eql, sbin_neq, aun_not, Bool.not_true, Bool.not_false, decide_true, decide_false, if_true, if_false, Bool.false_eq_true, fldA_ptr, fldA_rop, anil_ptr, lenStr_str, amm_max, amm_min, Nat.zero_add, Nat.add_zero, List.length_cons, List.length_nil, Nat.reduceAdd]
  refine c_spec_OpenSegs_own (Buf.cs k2') (by rw [tot_flatten]; omega) fun σ4 c' s' p' qs s4 hB hO => ?_
  simp only [og_some', onr_ret, gval_true, gval_false, pickV_true, pickV_false, apick_true, apick_false, gpick_true, gpick_false, ibin_leq, ibin_geq, ibin_lss, ibin_gtr, ibin_eql, ibin_neq, sbin_eql, sbin_neq, aun_not, Bool.not_true, Bool.not_false, decide_true, decide_false, if_true, if_false, Bool.false_eq_true, fldA_ptr, fldA_rop, anil_ptr, lenStr_str, amm_max, amm_min, Nat.zero_add, Nat.add_zero, List.length_cons, List.length_nil, Nat.reduceAdd]
  refine fin4 hs hψ hG rfl (k1.trans s4) ?_ fun σ' k1 k2 => h σ' ⟨c', 0, s', _⟩ _ k1 k2.ps ⟨rfl, by rw [if_pos c]; exact hO⟩
  exact hB.sub (dif_mono k1 (.refl _))
theorem c_spec_PushSegs {size x : Int} {p : AV} {ps : List (List Int)} (hP : Ps σ p ps) (hb : ps.length + tot ps ≤ 1099511627776)
    (h : ∀ r, PushR size ps x r → R (.ret (.agg [iv r.c, iv r.v, iv r.s, roP r.ps])) σ) : acall TP fn_spec_PushSegs [.agg [iv size, p], iv x] σ R := by
  refine acall_imp (Q := fun e σ' => ∃ r p', e = .ret (.agg [iv r.c, iv r.v, iv r.s, p']) ∧ AH.Sub σ σ' ∧ Ps (dif σ σ') p' r.ps ∧ PushR size ps x r) (c_spec_PushSegs_own hP hb fun σ' r p' h1 hB hO => ⟨r, p', rfl, h1, hB, hO⟩) ?_
  rintro e σ' ⟨r, p', rfl, h1, h2, h3⟩
  exact ⟨_, rfl, _, σ, imp_freeze h1 (.agg4 (.same _) (.same _) (.same _) h2.fz), h r h3⟩
theorem c_spec_ResizeSegs {size n : Int} {p : AV} {ps : List (List Int)} (hP : Ps σ p ps) (hb : ps.length + tot ps ≤ 1099511627776)
    (h : ∀ r, ResizeR size ps n r → R (.ret (.agg [iv r.c, iv r.v, iv r.s, roP r.ps])) σ) : acall TP fn_spec_ResizeSegs [.agg [iv size, p], iv n] σ R := by
  refine acall_imp (Q := fun e σ' => ∃ r p', e = .ret (.agg [iv r.c, iv r.v, iv r.s, p']) ∧ AH.Sub σ σ' ∧ Ps (dif σ σ') p' r.ps ∧ ResizeR size ps n r) (c_spec_ResizeSegs_own hP hb fun σ' r p' h1 hB hO => ⟨r, p', rfl, h1, hB, hO⟩) ?_
  rintro e σ' ⟨r, p', rfl, h1, h2, h3⟩
  exact ⟨_, rfl, _, σ, imp_freeze h1 (.agg4 (.same _) (.same _) (.same _) h2.fz), h r h3⟩
end Go.Proofs.Ytjfdgijgkbojnaa.E
/- Draws: numbers that the bytes choose; lists and stacks that are drawn. -/
set_option linter.unusedSectionVars false
set_option linter.unusedSimpArgs false
set_option linter.unusedVariables false
namespace Go.Proofs.Ytjfdgijgkbojnaa.E
open Go Go.RowKit
variable [L : Lam]
variable {σ : AH} {R : AEnd → AH → Prop}
abbrev u8v (n : Int) : AV := .val (.int .u8 n)
abbrev roB (ns : List Int) : AV := .ro (ns.map fun n => [u8v n])
/-- The source of a draw: the bytes, and how many have been read. -/
abbrev Sr (ns : List Int) (t : Nat) : Fam := ⟨0, 2, [[roB ns, iv (t : Int)]]⟩
structure Bts (ns : List Int) : Prop where
  b : ∀ x, x ∈ ns → 0 ≤ x ∧ x ≤ 255
  l : ns.length ≤ 1048576
theorem ibin_rem {a b : Int} (h0 : 0 ≤ a) (hb : 0 < b) : ibin .rem (.val (.int .i64 a)) (.val (.int .i64 b)) = some (.val (.int .i64 (a % b))) := by
  have e : a.tmod b = a % b := Int.tmod_eq_emod_of_nonneg h0
  have hb' : ¬ b = 0 := by omega
  simp [ibin, binV, hb', e]
theorem ibin_quo {a b : Int} (h0 : 0 ≤ a) (hb : 0 < b) (h1 : a ≤ 9223372036854775807) : ibin .quo (.val (.int .i64 a)) (.val (.int .i64 b)) = some (.val (.int .i64 (a / b))) := by
  have e : a.tdiv b = a / b := Int.tdiv_eq_ediv_of_nonneg h0
  have hb' : ¬ b = 0 := by omega
  have h2 : a / b ≤ a := Int.ediv_le_self b h0
  have h3 : 0 ≤ a / b := Int.ediv_nonneg h0 (by omega)
  have hw : IntKind.i64.wrap (a / b) = a / b := i64_wrap (by omega) (by omega)
  simp [ibin, binV, hb', e, hw]
theorem convI_u8 {n : Int} (h0 : 0 ≤ n) (h1 : n ≤ 255) : convI .i64 (u8v n) = some (iv n) := by
  show some (AV.val (.int .i64 (IntKind.i64.wrap n))) = _
  rw [i64_wrap (by omega) (by omega)]
theorem quo_le {a b : Int} (h0 : 0 ≤ a) (hb : 0 < b) : 0 ≤ a / b ∧ a / b ≤ a := ⟨Int.ediv_nonneg h0 (by omega), Int.ediv_le_self b h0⟩
theorem c_spec_l1Next {φ t : Nat} {ns : List Int} {n : Int} (hF : σ φ = some (Sr ns t)) (hb : Bts ns) (ht : t ≤ 1000000) (hn : n ≤ 1000000)
    (h : ∀ v : Int, (n < 1 → v = 0) → (1 ≤ n → 0 ≤ v ∧ v < n) → R (.ret (iv v)) (σ.set φ (Sr ns (t + 1)))) : acall TP fn_spec_l1Next [.ptr φ 0 0 0, iv n] σ R := by
  have hl := hb.l
  refine s_spec_l1Next_ok ?_
  unfold s_spec_l1Next
  have e1 := lod_at (st := 0) (i := 0) (off := 1) (c := iv (t : Int)) hF rfl rfl
  have a1 : ibin .add (iv (t : Int)) (.val (.int .i64 1)) = some (iv ((t + 1 : Nat) : Int)) := by rw [ibin_add (by omega) (by omega)]; rfl
  simp only [e1, a1, og_some', onr_ret, gval_true, gval_false, pickV_true, pickV_false, apick_true, apick_false, gpick_true, gpick_false, ibin_leq, ibin_geq, ibin_lss, ibin_gtr, ibin_eql, ibin_neq, sbin_eql, sbin_neq, aun_not, Bool.not_true, Bool.not_false, decide_true, decide_false, if_true, if_false, Bool.false_eq_true, fldA_ptr, fldA_rop, anil_ptr, lenStr_str, amm_max, amm_min, Nat.zero_add, Nat.add_zero, List.length_cons, List.length_nil, Nat.reduceAdd]
  refine sto_fld (sz := 2) (off := 1) (i := 0) (cs := [roB ns, iv (t : Int)]) (v := iv ((t + 1 : Nat) : Int)) hF rfl (by omega) rfl rfl ?_
  simp only [List.set_cons_zero, List.set_cons_succ]
  have hF1 : (σ.set φ (Sr ns (t + 1))) φ = some (Sr ns (t + 1)) := AH.set_same ..
  by_cases c0 : n < 1
  · simp only [c0, og_some', onr_ret, gval_true, gval_false, pickV_true, pickV_false, apick_true, apick_false, gpick_true, gpick_false, ibin_leq, ibin_geq, ibin_lss, ibin_gtr, ibin_eql, ibin_neq, sbin_eql, sbin_neq, aun_not, Bool.not_true, Bool.not_false, decide_true, decide_false, if_true, if_false, Bool.false_eq_true, fldA_ptr, fldA_rop, anil_ptr, lenStr_str, amm_max, amm_min, Nat.zero_add, Nat.add_zero, List.length_cons, List.length_nil, Nat.reduceAdd]; exact ret_here (h 0 (fun _ => rfl) (fun h => by omega))
  have sub1 : ibin .sub (iv ((t + 1 : Nat) : Int)) (.val (.int .i64 1)) = some (iv (t : Int)) := by
    rw [ibin_sub (by omega) (by omega)]; congr 3; omega
  have f1 := lod_at (st := 0) (i := 0) (off := 1) (c := iv ((t + 1 : Nat) : Int)) hF1 rfl rfl
  have f0 := lod_at (st := 0) (i := 0) (off := 0) (c := roB ns) hF1 rfl rfl
  have hlen : lenS (roB ns) = some (iv (ns.length : Int)) := by simp [lenS]
  have fin : ∀ v : Int, 0 ≤ v ∧ v < n → aret (iv v) (σ.set φ (Sr ns (t + 1))) R := fun v hv => ret_here (h v (fun h => by omega) (fun _ => hv))
  simp only [c0, f1, f0, sub1, hlen, og_some', onr_ret, gval_true, gval_false, pickV_true, pickV_false, apick_true, apick_false, gpick_true, gpick_false, ibin_leq, ibin_geq, ibin_lss, ibin_gtr, ibin_eql, ibin_neq, sbin_eql, sbin_neq, aun_not, Bool.not_true, Bool.not_false, decide_true, decide_false, if_true, if_false, Bool.false_eq_true, fldA_ptr, fldA_rop, anil_ptr, lenStr_str, amm_max, amm_min, Nat.zero_add, Nat.add_zero, List.length_cons, List.length_nil, Nat.reduceAdd]
  by_cases c1 : ns.length = 0
  · have g : ((ns.length : Nat) : Int) = 0 := by omega
    have m := quo_le (a := (t : Int) * 7) (b := n) (by omega) (by omega)
    have r := Int.emod_lt_of_pos ((t : Int) * 7) (by omega : 0 < n)
    have r0 := Int.emod_nonneg ((t : Int) * 7) (by omega : n ≠ 0)
    simp only [g, ibin_mul (a := (t : Int)) (b := 7) (by omega) (by omega), ibin_rem (a := (t : Int) * 7) (b := n) (by omega) (by omega), og_some', onr_ret, gval_true, gval_false, pickV_true, pickV_false, apick_true, apick_false, gpick_true, gpick_false, ibin_leq, ibin_geq, ibin_lss, ibin_gtr, ibin_eql, ibin_neq, sbin_eql, sbin_neq, aun_not, Bool.not_true, Bool.not_false, decide_true, decide_false, if_true, if_false, Bool.false_eq_true, fldA_ptr, fldA_rop, anil_ptr, lenStr_str, amm_max, amm_min, Nat.zero_add, Nat.add_zero, List.length_cons, List.length_nil, Nat.reduceAdd]
    exact fin _ ⟨r0, r⟩
  have g : ¬ ((ns.length : Nat) : Int) = 0 := by omega
  have hk : (0 : Int) < (ns.length : Int) := by omega
  have at_ : ∀ a : Int, 0 ≤ a → ∃ p, idx 1 (roB ns) (iv (a % (ns.length : Int))) (σ.set φ (Sr ns (t + 1))) = some p ∧ ∃ b : Int, lod p (σ.set φ (Sr ns (t + 1))) = some (u8v b) ∧ 0 ≤ b ∧ b ≤ 255 := by
    intro a ha
    have q0 := Int.emod_nonneg a (by omega : (ns.length : Int) ≠ 0)
    have q1 := Int.emod_lt_of_pos a hk
    have hj : (a % (ns.length : Int)).toNat < ns.length := by omega
    obtain ⟨p, p1, p2, _⟩ := (Cs.ro u8v (σ.set φ (Sr ns (t + 1))) ns).at hj
    rw [show (((a % (ns.length : Int)).toNat : Nat) : Int) = a % (ns.length : Int) by omega] at p1
    exact ⟨p, p1, _, p2, hb.b _ (List.getElem_mem hj)⟩
  obtain ⟨p, p1, b, p2, b0, b1⟩ := at_ (t : Int) (by omega)
  have dq := quo_le (a := (t : Int)) (b := (ns.length : Int)) (by omega) hk
  simp only [g, ibin_rem (a := (t : Int)) (b := (ns.length : Int)) (by omega) hk, p1, p2, convI_u8 b0 b1, ibin_quo (a := (t : Int)) (b := (ns.length : Int)) (by omega) hk (by omega),
    ibin_mul (a := (t : Int) / (ns.length : Int)) (b := 37) (by omega) (by omega), ibin_add (a := b) (b := (t : Int) / (ns.length : Int) * 37) (by omega) (by omega), jn, og_some', onr_ret, gval_true, gval_false, pickV_true, pickV_false, apick_true, apick_false, gpick_true, gpick_false, ibin_leq, ibin_geq, ibin_lss, ibin_gtr, ibin_eql, ibin_neq, sbin_eql, sbin_neq, aun_not, Bool.not_true, Bool.not_false, decide_true, decide_false, if_true, if_false, Bool.false_eq_true, fldA_ptr, fldA_rop, anil_ptr, lenStr_str, amm_max, amm_min, Nat.zero_add, Nat.add_zero, List.length_cons, List.length_nil, Nat.reduceAdd]
  have last : ∀ x : Int, 0 ≤ x → og (ibin .rem (.val (.int .i64 x)) (.val (.int .i64 n))) fun v70 => aret v70 (σ.set φ (Sr ns (t + 1))) R := by
    intro x hx
    rw [ibin_rem hx (by omega)]
    exact fin _ ⟨Int.emod_nonneg _ (by omega), Int.emod_lt_of_pos _ (by omega)⟩
  by_cases c2 : 200 < n
  · obtain ⟨p', p1', b', p2', b0', b1'⟩ := at_ ((t : Int) + 1) (by omega)
    simp only [c2, f0, ibin_mul (a := b + (t : Int) / (ns.length : Int) * 37) (b := 251) (by omega) (by omega), ibin_add (a := (t : Int)) (b := 1) (by omega) (by omega),
      ibin_rem (a := (t : Int) + 1) (b := (ns.length : Int)) (by omega) hk, p1', p2', convI_u8 b0' b1', ibin_mul (a := b') (b := 13) (by omega) (by omega),
      ibin_add (a := (b + (t : Int) / (ns.length : Int) * 37) * 251) (b := b' * 13) (by omega) (by omega), ibin_add (a := (b + (t : Int) / (ns.length : Int) * 37) * 251 + b' * 13) (b := (t : Int)) (by omega) (by omega), og_some', onr_ret, gval_true, gval_false, pickV_true, pickV_false, apick_true, apick_false, gpick_true, gpick_false, ibin_leq, ibin_geq, ibin_lss, ibin_gtr, ibin_eql, ibin_neq, sbin_eql, sbin_neq, aun_not, Bool.not_true, Bool.not_false, decide_true, decide_false, if_true, if_false, Bool.false_eq_true, fldA_ptr, fldA_rop, anil_ptr, lenStr_str, amm_max, amm_min, Nat.zero_add, Nat.add_zero, List.length_cons, List.length_nil, Nat.reduceAdd]
    exact last _ (by omega)
  · simp only [c2, og_some', onr_ret, gval_true, gval_false, pickV_true, pickV_false, apick_true, apick_false, gpick_true, gpick_false, ibin_leq, ibin_geq, ibin_lss, ibin_gtr, ibin_eql, ibin_neq, sbin_eql, sbin_neq, aun_not, Bool.not_true, Bool.not_false, decide_true, decide_false, if_true, if_false, Bool.false_eq_true, fldA_ptr, fldA_rop, anil_ptr, lenStr_str, amm_max, amm_min, Nat.zero_add, Nat.add_zero, List.length_cons, List.length_nil, Nat.reduceAdd]
    exact last _ (by omega)
theorem c_spec_l1Chance {φ t : Nat} {ns : List Int} {n : Int} (hF : σ φ = some (Sr ns t)) (hb : Bts ns) (ht : t ≤ 1000000) (hn : n ≤ 1000000)
    (h : ∀ b : Bool, R (.ret (bv b)) (σ.set φ (Sr ns (t + 1)))) : acall TP fn_spec_l1Chance [.ptr φ 0 0 0, iv n] σ R := by
  refine s_spec_l1Chance_ok ?_
  unfold s_spec_l1Chance
  refine c_spec_l1Next hF hb ht hn fun v _ _ => ?_
  simp only [og_some', onr_ret, gval_true, gval_false, pickV_true, pickV_false, apick_true, apick_false, gpick_true, gpick_false, ibin_leq, ibin_geq, ibin_lss, ibin_gtr, ibin_eql, ibin_neq, sbin_eql, sbin_neq, aun_not, Bool.not_true, Bool.not_false, decide_true, decide_false, if_true, if_false, Bool.false_eq_true, fldA_ptr, fldA_rop, anil_ptr, lenStr_str, amm_max, amm_min, Nat.zero_add, Nat.add_zero, List.length_cons, List.length_nil, Nat.reduceAdd]
  exact ret_here (h _)
theorem c_spec_l1Pick {φ t : Nat} {ns xs : List Int} {a : AV} (hF : σ φ = some (Sr ns t)) (hb : Bts ns) (ht : t ≤ 1000000) (hx : xs ≠ []) (hn : xs.length ≤ 1000000) (hS : Ns σ a xs) (hS' : Ns (σ.set φ (Sr ns (t + 1))) a xs)
    (h : ∀ v, v ∈ xs → R (.ret (iv v)) (σ.set φ (Sr ns (t + 1)))) : acall TP fn_spec_l1Pick [.ptr φ 0 0 0, a] σ R := by
  refine s_spec_l1Pick_ok ?_
  unfold s_spec_l1Pick
  have hpos := List.length_pos_iff.2 hx
  simp only [hS.len, og_some', onr_ret, gval_true, gval_false, pickV_true, pickV_false, apick_true, apick_false, gpick_true, gpick_false, ibin_leq, ibin_geq, ibin_lss, ibin_gtr, ibin_eql, ibin_neq, sbin_eql, sbin_neq, aun_not, Bool.not_true, Bool.not_false, decide_true, decide_false, if_true, if_false, Bool.false_eq_true, fldA_ptr, fldA_rop, anil_ptr, lenStr_str, amm_max, amm_min, Nat.zero_add, Nat.add_zero, List.length_cons, List.length_nil, Nat.reduceAdd]
  refine c_spec_l1Next hF hb ht (by omega) fun v _ hv => ?_
  obtain ⟨v0, v1⟩ := hv (by omega)
  have hj : v.toNat < xs.length := by omega
  obtain ⟨p, p1, p2, _⟩ := hS'.at hj
  rw [show ((v.toNat : Nat) : Int) = v by omega] at p1
  simp only [p1, p2, og_some', onr_ret, gval_true, gval_false, pickV_true, pickV_false, apick_true, apick_false, gpick_true, gpick_false, ibin_leq, ibin_geq, ibin_lss, ibin_gtr, ibin_eql, ibin_neq, sbin_eql, sbin_neq, aun_not, Bool.not_true, Bool.not_false, decide_true, decide_false, if_true, if_false, Bool.false_eq_true, fldA_ptr, fldA_rop, anil_ptr, lenStr_str, amm_max, amm_min, Nat.zero_add, Nat.add_zero, List.length_cons, List.length_nil, Nat.reduceAdd]
  exact ret_here (h _ (List.getElem_mem hj))
theorem c_spec_l1Source {ns : List Int} (h : ∀ φ, σ φ = none → R (.ret (.ptr φ 0 0 0)) (σ.set φ (Sr ns 0))) : acall TP fn_spec_l1Source [roB ns] σ R := by
  refine s_spec_l1Source_ok ?_
  unfold s_spec_l1Source
  have e : bld [(.val (.slice none 0 0)), (.val (.int .i64 0))] [(0, 1), (1, 1)] [(0, roB ns)] = some (.agg [roB ns, iv 0]) := by simp [bld, afill, acells, spl, Value.cells]
  simp only [e, abox_agg, og_some', onr_ret, gval_true, gval_false, pickV_true, pickV_false, apick_true, apick_false, gpick_true, gpick_false, ibin_leq, ibin_geq, ibin_lss, ibin_gtr, ibin_eql, ibin_neq, sbin_eql, sbin_neq, aun_not, Bool.not_true, Bool.not_false, decide_true, decide_false, if_true, if_false, Bool.false_eq_true, fldA_ptr, fldA_rop, anil_ptr, lenStr_str, amm_max, amm_min, Nat.zero_add, Nat.add_zero, List.length_cons, List.length_nil, Nat.reduceAdd]
  intro φ hφ
  exact ret_here (h φ hφ)
theorem c_laws_lwBig {ns : List Int} (h : R (.ret (bv (decide (1048576 < ns.length)))) σ) : acall TP fn_laws_lwBig [roB ns] σ R := by
  refine s_laws_lwBig_ok ?_
  unfold s_laws_lwBig
  have hlen : lenS (roB ns) = some (iv (ns.length : Int)) := by simp [lenS]
  simp only [hlen, og_some', onr_ret, gval_true, gval_false, pickV_true, pickV_false, apick_true, apick_false, gpick_true, gpick_false, ibin_leq, ibin_geq, ibin_lss, ibin_gtr, ibin_eql, ibin_neq, sbin_eql, sbin_neq, aun_not, Bool.not_true, Bool.not_false, decide_true, decide_false, if_true, if_false, Bool.false_eq_true, fldA_ptr, fldA_rop, anil_ptr, lenStr_str, amm_max, amm_min, Nat.zero_add, Nat.add_zero, List.length_cons, List.length_nil, Nat.reduceAdd]
  refine ret_here ?_
  have e : decide ((1048576 : Int) < (ns.length : Int)) = decide (1048576 < ns.length) := by congr 1; exact propext (by omega)
  rw [e]; exact h
end Go.Proofs.Ytjfdgijgkbojnaa.E
/- Stacks of pieces that are drawn. -/
set_option linter.unusedSectionVars false
set_option linter.unusedSimpArgs false
set_option linter.unusedVariables false
namespace Go.Proofs.Ytjfdgijgkbojnaa.E
open Go Go.RowKit
variable [L : Lam]
variable {σ : AH} {R : AEnd → AH → Prop}
theorem bsl_one {z v : AV} {σ : AH} {k : AV → AH → Prop} (hv : acells v = some [v]) (h : ∀ ψ, σ ψ = none → k (.own ψ 0 0 1) (σ.set ψ ⟨0, 1, [[v]]⟩)) : bsl 1 [z] 1 [(0, v)] σ k := by
  unfold bsl
  have e : afillS 1 (List.replicate 1 [z]) [(0, v)] = some [[v]] := by simp [afillS, hv, spl]
  rw [e]; exact ⟨by decide, h⟩
theorem elems_one {σ : AH} {ψ : Nat} {c : List AV} : aelems (σ.set ψ ⟨0, 1, [c]⟩) (.own ψ 0 0 1) = some [c] := by simp [aelems]
theorem sub_keep {σ σ' : AH} {φ : Nat} {F G : Fam} (hF : σ φ = some F) (h1 : σ' φ = some G) (h : ∀ ψ H, ψ ≠ φ → σ ψ = some H → σ' ψ = some H) : AH.Sub (σ.set φ G) σ' := by
  intro ψ H hψ
  by_cases e : ψ = φ
  · subst e; rw [AH.set_same] at hψ; rw [h1]; exact hψ
  · rw [AH.set_ne _ _ e] at hψ; exact h ψ H e hψ
theorem c_spec_l12DrawList {φ t : Nat} {ns : List Int} (hF : σ φ = some (Sr ns t)) (hb : Bts ns) (ht : t ≤ 950000)
    (h : ∀ xs t', xs.length ≤ 20 → t ≤ t' → t' ≤ t + 21 → R (.ret (roN xs)) (σ.set φ (Sr ns t'))) : acall TP fn_spec_l12DrawList [.ptr φ 0 0 0] σ R := by
  refine s_spec_l12DrawList_ok ?_
  unfold s_spec_l12DrawList
  refine ⟨by decide, fun χ hχ => ?_⟩
  simp only [List.replicate_zero]
  have nχφ : χ ≠ φ := by rintro rfl; rw [hF] at hχ; cases hχ
  refine c_spec_l1Next (t := t) (ns := ns) (by rw [AH.set_ne' nχφ.symm]; exact hF) hb (by omega) (by omega) fun v _ hv => ?_
  obtain ⟨v0, v1⟩ := hv (by omega)
  simp only [og_some', onr_ret, gval_true, gval_false, pickV_true, pickV_false, apick_true, apick_false, gpick_true, gpick_false, ibin_leq, ibin_geq, ibin_lss, ibin_gtr, ibin_eql, ibin_neq, sbin_eql, sbin_neq, aun_not, Bool.not_true, Bool.not_false, decide_true, decide_false, if_true, if_false, Bool.false_eq_true, fldA_ptr, fldA_rop, anil_ptr, lenStr_str, amm_max, amm_min, Nat.zero_add, Nat.add_zero, List.length_cons, List.length_nil, Nat.reduceAdd]
  refine lp_by (fun k x σ' => ∃ (a : AV) (xs : List Int) (t' : Nat), x = (.ptr φ 0 0 0, a, iv (k : Int), ()) ∧ k + xs.length ≤ 20 ∧ t ≤ t' ∧ t' ≤ t + 1 + xs.length ∧ σ' φ = some (Sr ns t') ∧
    Buf σ' 1 a (xs.map fun x => [iv x]) ∧ (∀ ψ, Buf.fam a ψ → σ ψ = none) ∧ (∀ ψ F, ψ ≠ φ → σ ψ = some F → σ' ψ = some F)) v.toNat ?_ ?_
  · refine ⟨.own χ 0 0 0, [], t + 1, ?_, by simp; omega, by omega, by simp, AH.set_same .., .inr ⟨χ, 0, rfl, by rw [AH.set_ne' nχφ, AH.set_same]; rfl⟩, ?_, ?_⟩
    · rw [show ((v.toNat : Nat) : Int) = v by omega]; rfl
    · rintro ψ ⟨_, _, _, e⟩; cases e; exact hχ
    · intro ψ F hn hψ
      rw [AH.set_ne' hn, AH.set_ne']; · exact hψ
      rintro rfl; rw [hχ] at hψ; cases hψ
  rintro k x σ' ⟨a, xs, t', rfl, i1, i2, i3, i4, i5, i6, i7⟩ R' hR'
  have new : ∀ ψ, Buf.fam a ψ → ψ ≠ φ := by rintro ψ hf rfl; rw [i6 _ hf] at hF; cases hF
  by_cases hk : 0 < k
  · have g : (0 : Int) < (k : Int) := by omega
    simp only [g, og_some', onr_ret, gval_true, gval_false, pickV_true, pickV_false, apick_true, apick_false, gpick_true, gpick_false, ibin_leq, ibin_geq, ibin_lss, ibin_gtr, ibin_eql, ibin_neq, sbin_eql, sbin_neq, aun_not, Bool.not_true, Bool.not_false, decide_true, decide_false, if_true, if_false, Bool.false_eq_true, fldA_ptr, fldA_rop, anil_ptr, lenStr_str, amm_max, amm_min, Nat.zero_add, Nat.add_zero, List.length_cons, List.length_nil, Nat.reduceAdd]
    refine c_spec_l1Next (t := t') (ns := ns) i4 hb (by omega) (by omega) fun w _ _ => ?_
    simp only [og_some', onr_ret, gval_true, gval_false, pickV_true, pickV_false, apick_true, apick_false, gpick_true, gpick_false, ibin_leq, ibin_geq, ibin_lss, ibin_gtr, ibin_eql, ibin_neq, sbin_eql, sbin_neq, aun_not, Bool.not_true, Bool.not_false, decide_true, decide_false, if_true, if_false, Bool.false_eq_true, fldA_ptr, fldA_rop, anil_ptr, lenStr_str, amm_max, amm_min, Nat.zero_add, Nat.add_zero, List.length_cons, List.length_nil, Nat.reduceAdd]
    refine bsl_one rfl fun ψ hψ => ?_
    have hψφ : ψ ≠ φ := by rintro rfl; rw [AH.set_same] at hψ; cases hψ
    have hψ' : σ' ψ = none := by rw [AH.set_ne' hψφ] at hψ; exact hψ
    have B2 : Buf ((σ'.set φ (Sr ns (t' + 1))).set ψ ⟨0, 1, [[iv w]]⟩) 1 a (xs.map fun x => [iv x]) := by
      refine i5.keep fun χ' hf => ?_
      obtain ⟨F, hFχ⟩ := i5.fam_some hf
      rw [AH.set_ne', AH.set_ne' (new _ hf)]
      rintro rfl; rw [hψ'] at hFχ; cases hFχ
    refine Buf.app B2 (xs := [w].map fun x => [iv x]) elems_one (iv_size [w]) (iv_one [w]) (by simp; omega) ?_
    intro a' σ3 b1 b2 b3 b4
    rw [← List.map_append] at b1
    have hs : ibin .sub (iv (k : Int)) (.val (.int .i64 1)) = some (iv ((k - 1 : Nat) : Int)) := by rw [ibin_sub (by omega) (by omega)]; congr 3; omega
    simp only [hs, og_some', onr_ret, gval_true, gval_false, pickV_true, pickV_false, apick_true, apick_false, gpick_true, gpick_false, ibin_leq, ibin_geq, ibin_lss, ibin_gtr, ibin_eql, ibin_neq, sbin_eql, sbin_neq, aun_not, Bool.not_true, Bool.not_false, decide_true, decide_false, if_true, if_false, Bool.false_eq_true, fldA_ptr, fldA_rop, anil_ptr, lenStr_str, amm_max, amm_min, Nat.zero_add, Nat.add_zero, List.length_cons, List.length_nil, Nat.reduceAdd]
    have nf : ¬ Buf.fam a φ := fun hf => new _ hf rfl
    refine hR' _ _ (k - 1) σ3 (by omega) (.refl _) ⟨a', xs ++ [w], t' + 1, rfl, by simp; omega, by omega, by simp; omega, ?_, b1, ?_, ?_⟩
    · rw [b2 φ nf (by rw [AH.set_ne' hψφ.symm, AH.set_same]; simp), AH.set_ne' hψφ.symm, AH.set_same]
    · intro χ' hf
      rcases b3 χ' hf with hf | hn
      · exact i6 _ hf
      · cases e : σ χ' with
        | none => rfl
        | some F =>
          by_cases e2 : χ' = φ
          · subst e2; rw [AH.set_ne' hψφ.symm, AH.set_same] at hn; cases hn
          · have := i7 χ' F e2 e
            have hne : χ' ≠ ψ := by rintro rfl; rw [hψ'] at this; cases this
            rw [AH.set_ne' hne, AH.set_ne' e2, this] at hn; cases hn
    · intro χ' F hn hχ'
      have h1 := i7 χ' F hn hχ'
      have hne : χ' ≠ ψ := by rintro rfl; rw [hψ'] at h1; cases h1
      have h2 : ((σ'.set φ (Sr ns (t' + 1))).set ψ ⟨0, 1, [[iv w]]⟩) χ' = some F := by rw [AH.set_ne' hne, AH.set_ne' hn]; exact h1
      rw [b2 χ' (fun hf => by rw [i6 _ hf] at hχ'; cases hχ') (by rw [h2]; simp)]; exact h2
  · have g : ¬ (0 : Int) < (k : Int) := by omega
    simp only [g, og_some', onr_ret, gval_true, gval_false, pickV_true, pickV_false, apick_true, apick_false, gpick_true, gpick_false, ibin_leq, ibin_geq, ibin_lss, ibin_gtr, ibin_eql, ibin_neq, sbin_eql, sbin_neq, aun_not, Bool.not_true, Bool.not_false, decide_true, decide_false, if_true, if_false, Bool.false_eq_true, fldA_ptr, fldA_rop, anil_ptr, lenStr_str, amm_max, amm_min, Nat.zero_add, Nat.add_zero, List.length_cons, List.length_nil, Nat.reduceAdd]
    have hs := sub_keep hF i4 i7
    refine aret_freeze hs ?_ (h xs t' (by omega) i2 (by omega))
    refine Cs.fz (g := iv) (Buf.cs (Buf.dif i5 fun ψ hf => ?_)) fun x _ => .same _
    rw [AH.set_ne' (new ψ hf)]; exact i6 ψ hf
theorem bent_fin {σ' : AH} {φ φ2 φ3 t' : Nat} {ns : List Int} {size : Int} {p : AV} {qs : List (AV × List Int)} {zs : List AV} (hF : ∃ F, σ φ = some F) (h1 : σ' φ = some (Sr ns t')) (h7 : ∀ ψ F, ψ ≠ φ → σ ψ = some F → σ' ψ = some F)
    (h2 : σ φ2 = none) (f2 : σ' φ2 = some ⟨0, 2, [zs]⟩) (hz : zs.length = 2) (f3 : σ' φ3 = some ⟨0, 2, [[iv size, p]]⟩) (hB : PB σ' p qs) (hn : ∀ ψ, Foot p qs ψ → σ ψ = none)
    (h : R (.ret (.agg [iv size, roP (qs.map Prod.snd)])) (σ.set φ (Sr ns t'))) :
    og (lodA 2 (.ptr φ3 0 0 0) σ') fun v35 => sto 2 (.ptr φ2 0 0 0) v35 σ' fun σ => og (lodA 2 (.ptr φ2 0 0 0) σ) fun r2 => aret r2 σ R := by
  obtain ⟨F0, hF⟩ := hF
  have e3 := lodA_at (st := 0) (i := 0) (n := 2) (cs := [iv size, p]) f3 rfl rfl rfl
  simp only [e3, og_some', onr_ret, gval_true, gval_false, pickV_true, pickV_false, apick_true, apick_false, gpick_true, gpick_false, ibin_leq, ibin_geq, ibin_lss, ibin_gtr, ibin_eql, ibin_neq, sbin_eql, sbin_neq, aun_not, Bool.not_true, Bool.not_false, decide_true, decide_false, if_true, if_false, Bool.false_eq_true, fldA_ptr, fldA_rop, anil_ptr, lenStr_str, amm_max, amm_min, Nat.zero_add, Nat.add_zero, List.length_cons, List.length_nil, Nat.reduceAdd]
  refine sto_own (cs := [iv size, p]) f2 (by simp) (by simpa using hz) rfl rfl (one2 hB.out.one.2) ?_
  simp only [List.set_cons_zero]
  have nφ : φ2 ≠ φ := by rintro rfl; rw [hF] at h2; cases h2
  have e2 := lodA_at (σ := σ'.set φ2 ⟨0, 2, [[iv size, p]]⟩) (φ := φ2) (st := 0) (i := 0) (n := 2) (cs := [iv size, p]) (AH.set_same ..) rfl rfl rfl
  simp only [e2, og_some', onr_ret, gval_true, gval_false, pickV_true, pickV_false, apick_true, apick_false, gpick_true, gpick_false, ibin_leq, ibin_geq, ibin_lss, ibin_gtr, ibin_eql, ibin_neq, sbin_eql, sbin_neq, aun_not, Bool.not_true, Bool.not_false, decide_true, decide_false, if_true, if_false, Bool.false_eq_true, fldA_ptr, fldA_rop, anil_ptr, lenStr_str, amm_max, amm_min, Nat.zero_add, Nat.add_zero, List.length_cons, List.length_nil, Nat.reduceAdd]
  have nf : ∀ ψ, Foot p qs ψ → ψ ≠ φ2 := by
    rintro ψ hf rfl
    obtain ⟨F, hF, hsz⟩ := hB.foot hf
    rw [f2] at hF; cases hF; cases hsz
  have hs : AH.Sub (σ.set φ (Sr ns t')) (σ'.set φ2 ⟨0, 2, [[iv size, p]]⟩) := by
    refine sub_set (sub_keep hF h1 h7) ?_
    rw [AH.set_ne' nφ]; exact h2
  refine aret_freeze hs (.agg2 (.same _) ?_) h
  have hB2 : PB (σ'.set φ2 ⟨0, 2, [[iv size, p]]⟩) p qs := hB.keep fun ψ hf => AH.set_ne' (nf ψ hf)
  refine Ps.fz (hB2.dif ?_).ps
  have key : ∀ ψ, Foot p qs ψ → (σ.set φ (Sr ns t')) ψ = none := fun ψ hf => by
    rw [AH.set_ne']; · exact hn ψ hf
    rintro rfl; rw [hn _ hf] at hF; cases hF
  exact ⟨fun ψ hf => key ψ (.inl hf), fun q hq ψ hf => key ψ (.inr ⟨q, hq, hf⟩)⟩
theorem foot_push {p w : AV} {qs : List (AV × List Int)} {xs : List Int} {ψ : Nat} (h : Foot p (qs ++ [(w, xs)]) ψ) : Buf.fam p ψ ∨ (∃ q, q ∈ qs ∧ Buf.fam q.1 ψ) ∨ Buf.fam w ψ := by
  rcases h with h | ⟨q, hq, h⟩
  · exact .inl h
  · rcases List.mem_append.1 hq with hq | hq
    · exact .inr (.inl ⟨q, hq, h⟩)
    · obtain rfl := List.mem_singleton.1 hq; exact .inr (.inr h)
theorem c_spec_l12Bent {φ t : Nat} {ns : List Int} (hF : σ φ = some (Sr ns t)) (hb : Bts ns) (ht : t ≤ 900000)
    (h : ∀ size ps t', ps.length + tot ps ≤ 100 → t' ≤ t + 30 → R (.ret (.agg [iv size, roP ps])) (σ.set φ (Sr ns t'))) : acall TP fn_spec_l12Bent [.ptr φ 0 0 0] σ R := by
  refine s_spec_l12Bent_ok ?_
  unfold s_spec_l12Bent
  simp only [new_eq, og_some', onr_ret, gval_true, gval_false, pickV_true, pickV_false, apick_true, apick_false, gpick_true, gpick_false, ibin_leq, ibin_geq, ibin_lss, ibin_gtr, ibin_eql, ibin_neq, sbin_eql, sbin_neq, aun_not, Bool.not_true, Bool.not_false, decide_true, decide_false, if_true, if_false, Bool.false_eq_true, fldA_ptr, fldA_rop, anil_ptr, lenStr_str, amm_max, amm_min, Nat.zero_add, Nat.add_zero, List.length_cons, List.length_nil, Nat.reduceAdd]
  intro φ2 h2
  have n2 : φ2 ≠ φ := by rintro rfl; rw [hF] at h2; cases h2
  refine c_spec_l1Next (t := t) (ns := ns) (by rw [AH.set_ne' n2.symm]; exact hF) hb (by omega) (by omega) fun v _ hv => ?_
  obtain ⟨v0, v1⟩ := hv (by omega)
  simp only [ibin_add (a := 1) (b := v) (by omega) (by omega), og_some', onr_ret, gval_true, gval_false, pickV_true, pickV_false, apick_true, apick_false, gpick_true, gpick_false, ibin_leq, ibin_geq, ibin_lss, ibin_gtr, ibin_eql, ibin_neq, sbin_eql, sbin_neq, aun_not, Bool.not_true, Bool.not_false, decide_true, decide_false, if_true, if_false, Bool.false_eq_true, fldA_ptr, fldA_rop, anil_ptr, lenStr_str, amm_max, amm_min, Nat.zero_add, Nat.add_zero, List.length_cons, List.length_nil, Nat.reduceAdd]
  have f1 : ((σ.set φ2 ⟨0, 2, [[iv 0, nilS]]⟩).set φ (Sr ns (t + 1))) φ = some (Sr ns (t + 1)) := AH.set_same ..
  refine c_spec_l12DrawList (t := t + 1) f1 hb (by omega) fun xs t1 hx ht1 ht2 => ?_
  simp only [AH.set_set, og_some', onr_ret, gval_true, gval_false, pickV_true, pickV_false, apick_true, apick_false, gpick_true, gpick_false, ibin_leq, ibin_geq, ibin_lss, ibin_gtr, ibin_eql, ibin_neq, sbin_eql, sbin_neq, aun_not, Bool.not_true, Bool.not_false, decide_true, decide_false, if_true, if_false, Bool.false_eq_true, fldA_ptr, fldA_rop, anil_ptr, lenStr_str, amm_max, amm_min, Nat.zero_add, Nat.add_zero, List.length_cons, List.length_nil, Nat.reduceAdd]
  generalize hσ1 : (σ.set φ2 ⟨0, 2, [[iv 0, nilS]]⟩).set φ (Sr ns t1) = σ1
  have g1 : σ1 φ = some (Sr ns t1) := by rw [← hσ1]; exact AH.set_same ..
  have g2 : σ1 φ2 = some ⟨0, 2, [[iv 0, nilS]]⟩ := by rw [← hσ1, AH.set_ne' n2]; exact AH.set_same ..
  have g3 : ∀ ψ F, ψ ≠ φ → σ ψ = some F → σ1 ψ = some F := fun ψ F hn hψ => by
    rw [← hσ1, AH.set_ne' hn, AH.set_ne']; · exact hψ
    rintro rfl; rw [h2] at hψ; cases hψ
  have g4 : ∀ ψ, σ1 ψ = none → σ ψ = none := fun ψ hψ => by
    cases e : σ ψ with
    | none => rfl
    | some F =>
      by_cases e2 : ψ = φ
      · subst e2; rw [g1] at hψ; cases hψ
      · rw [g3 ψ F e2 e] at hψ; cases hψ
  clear hσ1
  refine c_spec_l12Open (size := 1 + v) (Cs.ro iv σ1 xs) (by omega) (by omega) fun σ2 p qs s2 hB hO hfl => ?_
  simp only [new_eq, og_some', onr_ret, gval_true, gval_false, pickV_true, pickV_false, apick_true, apick_false, gpick_true, gpick_false, ibin_leq, ibin_geq, ibin_lss, ibin_gtr, ibin_eql, ibin_neq, sbin_eql, sbin_neq, aun_not, Bool.not_true, Bool.not_false, decide_true, decide_false, if_true, if_false, Bool.false_eq_true, fldA_ptr, fldA_rop, anil_ptr, lenStr_str, amm_max, amm_min, Nat.zero_add, Nat.add_zero, List.length_cons, List.length_nil, Nat.reduceAdd]
  intro φ3 h3
  refine put_new h3 rfl rfl (one2 hB.out.one.2) fun σ3 s3 f3 k3 => ?_
  have hnew : ∀ ψ, Foot p qs ψ → σ1 ψ = none := fun ψ hf => (hB.new hf).1
  have hB3 : PB σ3 p qs := (hB.sub (dif_sub _ _)).sub s3
  have F2 := (s2.trans s3).at g2
  have F1 := (s2.trans s3).at g1
  have n32 : φ3 ≠ φ2 := by rintro rfl; rw [s2.at g2] at h3; cases h3
  have n31 : φ3 ≠ φ := by rintro rfl; rw [s2.at g1] at h3; cases h3
  have hsm := one_le_flat hO
  rw [hfl, List.length_map] at hsm
  have htt := tot_flatten (qs.map Prod.snd)
  rw [hfl] at htt
  have old : ∀ ψ F, ψ ≠ φ → σ ψ = some F → σ3 ψ = some F := fun ψ F hn hψ => (s2.trans s3).at (g3 ψ F hn hψ)
  have K3 : σ φ3 = none := g4 _ (s2.none h3)
  simp only [jn]
  refine c_spec_l1Next (t := t1) (ns := ns) F1 hb (by omega) (by omega) fun w _ _ => ?_
  -- what is around the stack
  have FF2 : (σ3.set φ (Sr ns (t1 + 1))) φ2 = some ⟨0, 2, [[iv 0, nilS]]⟩ := by rw [AH.set_ne' n2]; exact F2
  have FF3 : (σ3.set φ (Sr ns (t1 + 1))) φ3 = some ⟨0, 2, [[iv (1 + v), p]]⟩ := by rw [AH.set_ne' n31]; exact f3
  have FF1 : (σ3.set φ (Sr ns (t1 + 1))) φ = some (Sr ns (t1 + 1)) := AH.set_same ..
  have notφ : ∀ ψ, Foot p qs ψ → ψ ≠ φ ∧ ψ ≠ φ2 ∧ ψ ≠ φ3 := fun ψ hf => by
    have hn := hnew ψ hf
    refine ⟨(by rintro rfl; rw [g1] at hn; cases hn), (by rintro rfl; rw [g2] at hn; cases hn), ?_⟩
    rintro rfl
    obtain ⟨F, hF, hsz⟩ := hB3.foot hf
    rw [f3] at hF; cases hF; cases hsz
  have BB : PB (σ3.set φ (Sr ns (t1 + 1))) p qs := hB3.keep fun ψ hf => AH.set_ne' (notφ ψ hf).1
  have oldd : ∀ ψ F, ψ ≠ φ → σ ψ = some F → (σ3.set φ (Sr ns (t1 + 1))) ψ = some F := fun ψ F hn hψ => by rw [AH.set_ne' hn]; exact old ψ F hn hψ
  have hnew0 : ∀ ψ, Foot p qs ψ → σ ψ = none := fun ψ hf => g4 ψ (hnew ψ hf)
  have pone := hB.out.one
  have e1 := lod_at (σ := σ3.set φ (Sr ns (t1 + 1))) (st := 0) (i := 0) (off := 1) (c := p) FF3 rfl rfl
  generalize σ3.set φ (Sr ns (t1 + 1)) = σ4 at FF1 FF2 FF3 BB oldd e1 ⊢
  clear F1 F2 f3 hB3 old hB s3 k3
  have push : ∀ (σ5 : AH) (x wv : AV) (ys : List Int), (∀ ψ F, σ4 ψ = some F → σ5 ψ = some F) → aelems σ5 x = some [[wv]] → Buf σ5 1 wv (ys.map fun x => [iv x]) → (∀ ψ, Buf.fam wv ψ → σ4 ψ = none) → ys.length ≤ 1 →
      app 1 p x σ5 fun v33 σ => og (fldA 1 (.ptr φ3 0 0 0)) fun v34 => sto 1 v34 v33 σ fun σ => og (lodA 2 (.ptr φ3 0 0 0) σ) fun v35 => sto 2 (.ptr φ2 0 0 0) v35 σ fun σ => og (lodA 2 (.ptr φ2 0 0 0) σ) fun r2 => aret r2 σ R := by
    intro σ5 x wv ys s5 hx hw hwn hyl
    have B5 : PB σ5 p qs := ⟨BB.out.sub s5, fun q hq => (BB.ins q hq).sub s5, BB.sep, BB.pair⟩
    refine PB.push B5 hx hw ?_ ?_ (by omega) ?_
    · intro ψ hf hf'
      obtain ⟨F, hF⟩ := BB.out.fam_some hf'
      rw [hwn ψ hf] at hF; cases hF
    · intro q hq ψ hf hf'
      obtain ⟨F, hF⟩ := (BB.ins q hq).fam_some hf
      rw [hwn ψ hf'] at hF; cases hF
    intro p' σ6 b1 b2 b3
    have keep : ∀ ψ F, σ5 ψ = some F → ¬ Buf.fam p ψ → σ6 ψ = some F := fun ψ F hF hf => by rw [b2 ψ hf (by rw [hF]; simp)]; exact hF
    have G1 := keep φ _ (s5 _ _ FF1) (fun hf => (notφ _ (.inl hf)).1 rfl)
    have G2 := keep φ2 _ (s5 _ _ FF2) (fun hf => (notφ _ (.inl hf)).2.1 rfl)
    have G3 := keep φ3 _ (s5 _ _ FF3) (fun hf => (notφ _ (.inl hf)).2.2 rfl)
    simp only [og_some', onr_ret, gval_true, gval_false, pickV_true, pickV_false, apick_true, apick_false, gpick_true, gpick_false, ibin_leq, ibin_geq, ibin_lss, ibin_gtr, ibin_eql, ibin_neq, sbin_eql, sbin_neq, aun_not, Bool.not_true, Bool.not_false, decide_true, decide_false, if_true, if_false, Bool.false_eq_true, fldA_ptr, fldA_rop, anil_ptr, lenStr_str, amm_max, amm_min, Nat.zero_add, Nat.add_zero, List.length_cons, List.length_nil, Nat.reduceAdd]
    refine sto_fld (sz := 2) (off := 1) (i := 0) (cs := [iv (1 + v), p]) (v := p') G3 rfl (by omega) b1.out.one.1 b1.out.one.2 ?_
    have foot : ∀ ψ, Foot p' (qs ++ [(wv, ys)]) ψ → ψ ≠ φ ∧ ψ ≠ φ2 ∧ ψ ≠ φ3 ∧ σ ψ = none := fun ψ hf => by
      have key : (Foot p qs ψ) ∨ σ5 ψ = none ∨ Buf.fam wv ψ := by
        rcases foot_push hf with hf | hf | hf
        · rcases b3 ψ hf with hf | hf
          · exact .inl (.inl hf)
          · exact .inr (.inl hf)
        · exact .inl (.inr hf)
        · exact .inr (.inr hf)
      have none4 : σ4 ψ = none → ψ ≠ φ ∧ ψ ≠ φ2 ∧ ψ ≠ φ3 ∧ σ ψ = none := fun hn => by
        refine ⟨(by rintro rfl; rw [FF1] at hn; cases hn), (by rintro rfl; rw [FF2] at hn; cases hn), (by rintro rfl; rw [FF3] at hn; cases hn), ?_⟩
        cases e : σ ψ with
        | none => rfl
        | some F =>
          have hne : ψ ≠ φ := by rintro rfl; rw [FF1] at hn; cases hn
          rw [oldd ψ F hne e] at hn; cases hn
      rcases key with hf | hn | hf
      · exact ⟨(notφ ψ hf).1, (notφ ψ hf).2.1, (notφ ψ hf).2.2, hnew0 ψ hf⟩
      · refine none4 ?_
        cases e : σ4 ψ with
        | none => rfl
        | some F => rw [s5 _ _ e] at hn; cases hn
      · exact none4 (hwn ψ hf)
    refine bent_fin (t' := t1 + 1) (ns := ns) (size := 1 + v) (p := p') (qs := qs ++ [(wv, ys)]) (zs := [iv 0, nilS]) ⟨_, hF⟩ ?_ ?_ h2 ?_ rfl (AH.set_same ..) ?_ ?_ ?_
    · rw [AH.set_ne' n31.symm]; exact G1
    · intro ψ F hn hψ
      have h4 := oldd ψ F hn hψ
      have hne : ψ ≠ φ3 := by rintro rfl; rw [K3] at hψ; cases hψ
      rw [AH.set_ne' hne]
      exact keep ψ F (s5 _ _ h4) fun hf => by rw [hnew0 ψ (.inl hf)] at hψ; cases hψ
    · rw [AH.set_ne' n32.symm]; exact G2
    · exact b1.keep fun ψ hf => AH.set_ne' (foot ψ hf).2.2.1
    · exact fun ψ hf => (foot ψ hf).2.2.2
    · refine h _ _ _ ?_ (by omega)
      rw [List.map_append, tot_append, List.length_append]
      simp [tot]; omega
  by_cases c0 : w = 0
  · have er : ∀ σ : AH, bsl 1 [(.val (.int .i64 0))] 4 [(0, (.val (.int .i64 0))), (1, (.val (.int .i64 1))), (2, (.val (.int .i64 64))), (3, (.val (.int .i64 65)))] σ = fun k => (4 * 1 ≤ 2 ^ 24 ∧ ∀ φ, σ φ = none → k (.own φ 0 0 4) (σ.set φ ⟨0, 1, [0, 1, 64, 65].map fun x => [iv x]⟩)) := fun σ => by
      funext k; simp [bsl, afillS, acells, spl, Value.cells]
    simp only [c0, er, og_some', onr_ret, gval_true, gval_false, pickV_true, pickV_false, apick_true, apick_false, gpick_true, gpick_false, ibin_leq, ibin_geq, ibin_lss, ibin_gtr, ibin_eql, ibin_neq, sbin_eql, sbin_neq, aun_not, Bool.not_true, Bool.not_false, decide_true, decide_false, if_true, if_false, Bool.false_eq_true, fldA_ptr, fldA_rop, anil_ptr, lenStr_str, amm_max, amm_min, Nat.zero_add, Nat.add_zero, List.length_cons, List.length_nil, Nat.reduceAdd]
    refine ⟨by decide, fun χ hχ => ?_⟩
    have nχφ : χ ≠ φ := by rintro rfl; rw [FF1] at hχ; cases hχ
    have nχ2 : χ ≠ φ2 := by rintro rfl; rw [FF2] at hχ; cases hχ
    have nχ3 : χ ≠ φ3 := by rintro rfl; rw [FF3] at hχ; cases hχ
    refine c_spec_l1Pick (t := t1 + 1) (ns := ns) (xs := [0, 1, 64, 65]) (by rw [AH.set_ne' nχφ.symm]; exact FF1) hb (by omega) (by simp) (by simp) (Cs.own (xs := [0, 1, 64, 65]) (AH.set_same ..)) (Cs.own (xs := [0, 1, 64, 65]) (by rw [AH.set_ne' nχφ]; exact AH.set_same ..)) fun z _ => ?_
    simp only [og_some', onr_ret, gval_true, gval_false, pickV_true, pickV_false, apick_true, apick_false, gpick_true, gpick_false, ibin_leq, ibin_geq, ibin_lss, ibin_gtr, ibin_eql, ibin_neq, sbin_eql, sbin_neq, aun_not, Bool.not_true, Bool.not_false, decide_true, decide_false, if_true, if_false, Bool.false_eq_true, fldA_ptr, fldA_rop, anil_ptr, lenStr_str, amm_max, amm_min, Nat.zero_add, Nat.add_zero, List.length_cons, List.length_nil, Nat.reduceAdd]
    refine sto_fld (sz := 2) (off := 0) (i := 0) (cs := [iv (1 + v), p]) (v := iv z) (by rw [AH.set_ne' n31, AH.set_ne' nχ3.symm]; exact FF3) rfl (by omega) rfl rfl ?_
    refine bent_fin (t' := t1 + 2) (ns := ns) (size := z) (p := p) (qs := qs) (zs := [iv 0, nilS]) ⟨_, hF⟩ ?_ ?_ h2 ?_ rfl (AH.set_same ..) ?_ hnew0 ?_
    · rw [AH.set_ne' n31.symm]; exact AH.set_same ..
    · intro ψ F hn hψ
      have hne : ψ ≠ φ3 := by rintro rfl; rw [K3] at hψ; cases hψ
      have h4 := oldd ψ F hn hψ
      rw [AH.set_ne' hne, AH.set_ne' hn, AH.set_ne']; · exact h4
      rintro rfl; rw [hχ] at h4; cases h4
    · rw [AH.set_ne' n32.symm, AH.set_ne' n2, AH.set_ne' nχ2.symm]; exact FF2
    · refine BB.keep fun ψ hf => ?_
      have hn := notφ ψ hf
      rw [AH.set_ne' hn.2.2, AH.set_ne' hn.1, AH.set_ne']
      rintro rfl
      obtain ⟨F, hF, _⟩ := BB.foot hf
      rw [hχ] at hF; cases hF
    · exact h _ _ _ (by simp; omega) (by omega)
  simp only [c0, og_some', onr_ret, gval_true, gval_false, pickV_true, pickV_false, apick_true, apick_false, gpick_true, gpick_false, ibin_leq, ibin_geq, ibin_lss, ibin_gtr, ibin_eql, ibin_neq, sbin_eql, sbin_neq, aun_not, Bool.not_true, Bool.not_false, decide_true, decide_false, if_true, if_false, Bool.false_eq_true, fldA_ptr, fldA_rop, anil_ptr, lenStr_str, amm_max, amm_min, Nat.zero_add, Nat.add_zero, List.length_cons, List.length_nil, Nat.reduceAdd]
  by_cases c1 : w = 1
  · have eb : bld [nilS] [(0, 1)] [] = some (.agg [nilS]) := by simp [bld, afill]
    simp only [c1, e1, eb, og_some', onr_ret, gval_true, gval_false, pickV_true, pickV_false, apick_true, apick_false, gpick_true, gpick_false, ibin_leq, ibin_geq, ibin_lss, ibin_gtr, ibin_eql, ibin_neq, sbin_eql, sbin_neq, aun_not, Bool.not_true, Bool.not_false, decide_true, decide_false, if_true, if_false, Bool.false_eq_true, fldA_ptr, fldA_rop, anil_ptr, lenStr_str, amm_max, amm_min, Nat.zero_add, Nat.add_zero, List.length_cons, List.length_nil, Nat.reduceAdd]
    have ebs : ∀ k : AV → AH → Prop, (∀ ψ, σ4 ψ = none → k (.own ψ 0 0 1) (σ4.set ψ ⟨0, 1, [[nilS]]⟩)) → bsl 1 [nilS] 1 [(0, .agg [nilS])] σ4 k := fun k hk => by
      unfold bsl
      have e : afillS 1 (List.replicate 1 [nilS]) [(0, .agg [nilS])] = some [[nilS]] := by simp [afillS, acells, spl]
      rw [e]; exact ⟨by decide, hk⟩
    refine ebs _ fun ψ hψ => ?_
    refine push _ (.own ψ 0 0 1) nilS [] (fun χ F hχ => ?_) elems_one (.inl ⟨.inl rfl, rfl⟩) (fun χ hf => absurd hf (nofam_nil χ)) (by simp)
    rw [AH.set_ne']; · exact hχ
    rintro rfl; rw [hψ] at hχ; cases hχ
  simp only [c1, og_some', onr_ret, gval_true, gval_false, pickV_true, pickV_false, apick_true, apick_false, gpick_true, gpick_false, ibin_leq, ibin_geq, ibin_lss, ibin_gtr, ibin_eql, ibin_neq, sbin_eql, sbin_neq, aun_not, Bool.not_true, Bool.not_false, decide_true, decide_false, if_true, if_false, Bool.false_eq_true, fldA_ptr, fldA_rop, anil_ptr, lenStr_str, amm_max, amm_min, Nat.zero_add, Nat.add_zero, List.length_cons, List.length_nil, Nat.reduceAdd]
  by_cases c2 : w = 2
  · simp only [c2, e1, og_some', onr_ret, gval_true, gval_false, pickV_true, pickV_false, apick_true, apick_false, gpick_true, gpick_false, ibin_leq, ibin_geq, ibin_lss, ibin_gtr, ibin_eql, ibin_neq, sbin_eql, sbin_neq, aun_not, Bool.not_true, Bool.not_false, decide_true, decide_false, if_true, if_false, Bool.false_eq_true, fldA_ptr, fldA_rop, anil_ptr, lenStr_str, amm_max, amm_min, Nat.zero_add, Nat.add_zero, List.length_cons, List.length_nil, Nat.reduceAdd]
    refine bsl_one rfl fun ψ1 h1 => ?_
    have eb : bld [nilS] [(0, 1)] [(0, .own ψ1 0 0 1)] = some (.agg [.own ψ1 0 0 1]) := by simp [bld, afill, acells, spl]
    simp only [eb, og_some', onr_ret, gval_true, gval_false, pickV_true, pickV_false, apick_true, apick_false, gpick_true, gpick_false, ibin_leq, ibin_geq, ibin_lss, ibin_gtr, ibin_eql, ibin_neq, sbin_eql, sbin_neq, aun_not, Bool.not_true, Bool.not_false, decide_true, decide_false, if_true, if_false, Bool.false_eq_true, fldA_ptr, fldA_rop, anil_ptr, lenStr_str, amm_max, amm_min, Nat.zero_add, Nat.add_zero, List.length_cons, List.length_nil, Nat.reduceAdd]
    have ebs : ∀ (σ : AH) (k : AV → AH → Prop), (∀ ψ, σ ψ = none → k (.own ψ 0 0 1) (σ.set ψ ⟨0, 1, [[.own ψ1 0 0 1]]⟩)) → bsl 1 [nilS] 1 [(0, .agg [.own ψ1 0 0 1])] σ k := fun σ k hk => by
      unfold bsl
      have e : afillS 1 (List.replicate 1 [nilS]) [(0, .agg [.own ψ1 0 0 1])] = some [[.own ψ1 0 0 1]] := by simp [afillS, acells, spl]
      rw [e]; exact ⟨by decide, hk⟩
    refine ebs _ _ fun ψ hψ => ?_
    simp only [AH.set_none] at hψ
    refine push _ (.own ψ 0 0 1) (.own ψ1 0 0 1) [1] (fun χ F hχ => ?_) elems_one (.inr ⟨ψ1, 0, rfl, ?_⟩) (fun χ hf => ?_) (by simp)
    · rw [AH.set_ne', AH.set_ne']; · exact hχ
      · rintro rfl; rw [h1] at hχ; cases hχ
      · rintro rfl; rw [hψ.2] at hχ; cases hχ
    · rw [AH.set_ne' (Ne.symm hψ.1)]; exact AH.set_same ..
    · obtain ⟨_, _, _, e⟩ := hf; cases e; exact h1
  simp only [c2, og_some', onr_ret, gval_true, gval_false, pickV_true, pickV_false, apick_true, apick_false, gpick_true, gpick_false, ibin_leq, ibin_geq, ibin_lss, ibin_gtr, ibin_eql, ibin_neq, sbin_eql, sbin_neq, aun_not, Bool.not_true, Bool.not_false, decide_true, decide_false, if_true, if_false, Bool.false_eq_true, fldA_ptr, fldA_rop, anil_ptr, lenStr_str, amm_max, amm_min, Nat.zero_add, Nat.add_zero, List.length_cons, List.length_nil, Nat.reduceAdd]
  exact bent_fin (t' := t1 + 1) (ns := ns) ⟨_, hF⟩ FF1 oldd h2 FF2 rfl FF3 BB hnew0 (h _ _ _ (by simp; omega) (by omega))
end Go.Proofs.Ytjfdgijgkbojnaa.E
/- FnStacks, FnResizes. -/
set_option linter.unusedSectionVars false
set_option linter.unusedSimpArgs false
set_option linter.unusedVariables false
namespace Go.Proofs.Ytjfdgijgkbojnaa.E
open Go Go.RowKit
variable [L : Lam]
variable {σ : AH} {R : AEnd → AH → Prop}
theorem lodA_off {σ : AH} {φ st i off n : Nat} {F : Fam} {cs : List AV} (hF : σ φ = some F) (hst : F.st = st) (h : F.es[i]? = some cs) (hn : off + n ≤ cs.length) : lodA n (.ptr φ st i off) σ = some (.agg ((cs.drop off).take n)) := by
  have hi := (List.getElem?_eq_some_iff.1 h).1
  have e : acellsAt σ (.ptr φ st i off) = some (cs.drop off) := by simp [acellsAt, hF, hst, hi]; rw [(List.getElem?_eq_some_iff.1 h).2]
  unfold lodA
  rw [e]; simp; omega
theorem c_impl_PushSegs_ro {size x : Int} {p : AV} {ps : List (List Int)} (hP : Ps σ p ps) (hb : ps.length + tot ps ≤ 1099511627776)
    (h : ∀ r, PushR size ps x r → R (.ret (.agg [iv r.c, iv r.v, iv r.s, roP r.ps])) σ) : acall TP fn_impl_PushSegs [.agg [iv size, p], iv x] σ R := by
  refine acall_imp (Q := fun e σ' => ∃ r p', e = .ret (.agg [iv r.c, iv r.v, iv r.s, p']) ∧ AH.Sub σ σ' ∧ Ps (dif σ σ') p' r.ps ∧ PushR size ps x r) (c_impl_PushSegs hP hb fun σ' r p' qs h1 hB hq hO => ⟨r, p', rfl, h1, hq ▸ hB.ps, hO⟩) ?_
  rintro e σ' ⟨r, p', rfl, h1, h2, h3⟩
  exact ⟨_, rfl, _, σ, imp_freeze h1 (.agg4 (.same _) (.same _) (.same _) h2.fz), h r h3⟩
theorem c_impl_ResizeSegs_ro {size n : Int} {p : AV} {ps : List (List Int)} (hP : Ps σ p ps) (hb : ps.length + tot ps ≤ 1099511627776)
    (h : ∀ r, ResizeR size ps n r → R (.ret (.agg [iv r.c, iv r.v, iv r.s, roP r.ps])) σ) : acall TP fn_impl_ResizeSegs [.agg [iv size, p], iv n] σ R := by
  refine acall_imp (Q := fun e σ' => ∃ r p', e = .ret (.agg [iv r.c, iv r.v, iv r.s, p']) ∧ AH.Sub σ σ' ∧ Ps (dif σ σ') p' r.ps ∧ ResizeR size ps n r) (c_impl_ResizeSegs hP hb fun σ' r p' qs h1 hB hq hO => ⟨r, p', rfl, h1, hq ▸ hB.ps, hO⟩) ?_
  rintro e σ' ⟨r, p', rfl, h1, h2, h3⟩
  exact ⟨_, rfl, _, σ, imp_freeze h1 (.agg4 (.same _) (.same _) (.same _) h2.fz), h r h3⟩
theorem c_impl_PopSegs_ro {size : Int} {p : AV} {ps : List (List Int)} (hP : Ps σ p ps) (hb : ps.length + tot ps ≤ 1099511627776)
    (h : ∀ r, PopR size ps r → R (.ret (.agg [iv r.c, iv r.v, iv r.s, roP r.ps])) σ) : acall TP fn_impl_PopSegs [.agg [iv size, p]] σ R := by
  refine acall_imp (Q := fun e σ' => ∃ r p', e = .ret (.agg [iv r.c, iv r.v, iv r.s, p']) ∧ AH.Sub σ σ' ∧ Ps (dif σ σ') p' r.ps ∧ PopR size ps r) (c_impl_PopSegs hP hb fun σ' r p' qs h1 hB hq hO => ⟨r, p', rfl, h1, hq ▸ hB.ps, hO⟩) ?_
  rintro e σ' ⟨r, p', rfl, h1, h2, h3⟩
  exact ⟨_, rfl, _, σ, imp_freeze h1 (.agg4 (.same _) (.same _) (.same _) h2.fz), h r h3⟩
theorem c_impl_OpenSegs_ro {size : Int} {a : AV} {xs : List Int} (hS : Ns σ a xs) (hl : xs.length ≤ 1099511627776)
    (h : ∀ c s ps, OpenR size xs c s ps → R (.ret (.agg [iv c, iv 0, iv s, roP ps])) σ) : acall TP fn_impl_OpenSegs [iv size, a] σ R := by
  refine acall_imp (Q := fun e σ' => ∃ c s ps p', e = .ret (.agg [iv c, iv 0, iv s, p']) ∧ AH.Sub σ σ' ∧ Ps (dif σ σ') p' ps ∧ OpenR size xs c s ps) (c_impl_OpenSegs hS hl fun σ' c s p qs h1 hB hO => ⟨c, s, _, p, rfl, h1, hB.ps, hO⟩) ?_
  rintro e σ' ⟨c, s, ps, p', rfl, h1, h2, h3⟩
  exact ⟨_, rfl, _, σ, imp_freeze h1 (.agg4 (.same _) (.same _) (.same _) h2.fz), h c s ps h3⟩
theorem c_impl_ListSegs_ro {size : Int} {p : AV} {ps : List (List Int)} (hP : Ps σ p ps) (hb : ps.length + tot ps ≤ 1099511627776)
    (h : R (.ret (.agg [iv (lisR size ps).1, roN (lisR size ps).2])) σ) : acall TP fn_impl_ListSegs [.agg [iv size, p]] σ R := by
  refine acall_imp (Q := fun e σ' => ∃ p', e = .ret (.agg [iv (lisR size ps).1, p']) ∧ AH.Sub σ σ' ∧ Buf (dif σ σ') 1 p' ((lisR size ps).2.map fun x => [iv x])) (c_impl_ListSegs hP hb fun v σ' h1 hB => ⟨v, rfl, h1, hB⟩) ?_
  rintro e σ' ⟨p', rfl, h1, h2⟩
  exact ⟨_, rfl, _, σ, imp_freeze h1 (.agg2 (.same _) (Cs.fz (g := iv) (Buf.cs h2) fun x _ => .same _)), h⟩
theorem c_spec_DrawPushSegs {ns : List Int} (hb : Bts ns) (h : ∀ size ps item, ps.length + tot ps ≤ 100 → R (.ret (.tup [.agg [iv size, roP ps], iv item])) σ) : acall TP fn_spec_DrawPushSegs [roB ns] σ R := by
  refine s_spec_DrawPushSegs_ok ?_
  unfold s_spec_DrawPushSegs
  simp only [new_eq, og_some', onr_ret, gval_true, gval_false, pickV_true, pickV_false, apick_true, apick_false, gpick_true, gpick_false, ibin_leq, ibin_geq, ibin_lss, ibin_gtr, ibin_eql, ibin_neq, sbin_eql, sbin_neq, aun_not, Bool.not_true, Bool.not_false, decide_true, decide_false, if_true, if_false, Bool.false_eq_true, fldA_ptr, fldA_rop, anil_ptr, lenStr_str, amm_max, amm_min, Nat.zero_add, Nat.add_zero, List.length_cons, List.length_nil, Nat.reduceAdd]
  intro φ2 h2
  refine c_spec_l1Source fun φ hφ => ?_
  simp only [AH.set_none] at hφ
  have f2 : ((σ.set φ2 ⟨0, 2, [[iv 0, nilS]]⟩).set φ (Sr ns 0)) φ2 = some ⟨0, 2, [[iv 0, nilS]]⟩ := by rw [AH.set_ne' (Ne.symm hφ.1)]; exact AH.set_same ..
  have hs : AH.Sub σ ((σ.set φ2 ⟨0, 2, [[iv 0, nilS]]⟩).set φ (Sr ns 0)) := sub_set (sub_set (.refl _) h2) hφ.2
  simp only [og_some', onr_ret, gval_true, gval_false, pickV_true, pickV_false, apick_true, apick_false, gpick_true, gpick_false, ibin_leq, ibin_geq, ibin_lss, ibin_gtr, ibin_eql, ibin_neq, sbin_eql, sbin_neq, aun_not, Bool.not_true, Bool.not_false, decide_true, decide_false, if_true, if_false, Bool.false_eq_true, fldA_ptr, fldA_rop, anil_ptr, lenStr_str, amm_max, amm_min, Nat.zero_add, Nat.add_zero, List.length_cons, List.length_nil, Nat.reduceAdd]
  refine c_spec_l12Bent (t := 0) (AH.set_same ..) hb (by omega) fun size ps t' hsm ht' => ?_
  simp only [og_some', onr_ret, gval_true, gval_false, pickV_true, pickV_false, apick_true, apick_false, gpick_true, gpick_false, ibin_leq, ibin_geq, ibin_lss, ibin_gtr, ibin_eql, ibin_neq, sbin_eql, sbin_neq, aun_not, Bool.not_true, Bool.not_false, decide_true, decide_false, if_true, if_false, Bool.false_eq_true, fldA_ptr, fldA_rop, anil_ptr, lenStr_str, amm_max, amm_min, Nat.zero_add, Nat.add_zero, List.length_cons, List.length_nil, Nat.reduceAdd]
  refine c_spec_l1Next (t := t') (ns := ns) (AH.set_same ..) hb (by omega) (by omega) fun v _ _ => ?_
  simp only [AH.set_set, og_some', onr_ret, gval_true, gval_false, pickV_true, pickV_false, apick_true, apick_false, gpick_true, gpick_false, ibin_leq, ibin_geq, ibin_lss, ibin_gtr, ibin_eql, ibin_neq, sbin_eql, sbin_neq, aun_not, Bool.not_true, Bool.not_false, decide_true, decide_false, if_true, if_false, Bool.false_eq_true, fldA_ptr, fldA_rop, anil_ptr, lenStr_str, amm_max, amm_min, Nat.zero_add, Nat.add_zero, List.length_cons, List.length_nil, Nat.reduceAdd]
  have f2' : ((σ.set φ2 ⟨0, 2, [[iv 0, nilS]]⟩).set φ (Sr ns (t' + 1))) φ2 = some ⟨0, 2, [[iv 0, nilS]]⟩ := by rw [AH.set_ne' (Ne.symm hφ.1)]; exact AH.set_same ..
  refine sto_own (cs := [iv size, roP ps]) f2' (by simp) (by simp) rfl rfl (one2 rfl) ?_
  simp only [List.set_cons_zero]
  have e2 := lodA_at (σ := ((σ.set φ2 ⟨0, 2, [[iv 0, nilS]]⟩).set φ (Sr ns (t' + 1))).set φ2 ⟨0, 2, [[iv size, roP ps]]⟩) (φ := φ2) (st := 0) (i := 0) (n := 2) (cs := [iv size, roP ps]) (AH.set_same ..) rfl rfl rfl
  simp only [e2, og_some', onr_ret, gval_true, gval_false, pickV_true, pickV_false, apick_true, apick_false, gpick_true, gpick_false, ibin_leq, ibin_geq, ibin_lss, ibin_gtr, ibin_eql, ibin_neq, sbin_eql, sbin_neq, aun_not, Bool.not_true, Bool.not_false, decide_true, decide_false, if_true, if_false, Bool.false_eq_true, fldA_ptr, fldA_rop, anil_ptr, lenStr_str, amm_max, amm_min, Nat.zero_add, Nat.add_zero, List.length_cons, List.length_nil, Nat.reduceAdd]
  exact aret_sub (sub_set (sub_set (sub_set (.refl _) h2) hφ.2) h2) (h size ps v hsm)
theorem c_spec_DrawResizeSegs {ns : List Int} (hb : Bts ns) (h : ∀ size ps item, ps.length + tot ps ≤ 100 → R (.ret (.tup [.agg [iv size, roP ps], iv item])) σ) : acall TP fn_spec_DrawResizeSegs [roB ns] σ R := by
  refine s_spec_DrawResizeSegs_ok ?_
  unfold s_spec_DrawResizeSegs
  simp only [new_eq, og_some', onr_ret, gval_true, gval_false, pickV_true, pickV_false, apick_true, apick_false, gpick_true, gpick_false, ibin_leq, ibin_geq, ibin_lss, ibin_gtr, ibin_eql, ibin_neq, sbin_eql, sbin_neq, aun_not, Bool.not_true, Bool.not_false, decide_true, decide_false, if_true, if_false, Bool.false_eq_true, fldA_ptr, fldA_rop, anil_ptr, lenStr_str, amm_max, amm_min, Nat.zero_add, Nat.add_zero, List.length_cons, List.length_nil, Nat.reduceAdd]
  intro φ2 h2
  refine c_spec_l1Source fun φ hφ => ?_
  simp only [AH.set_none] at hφ
  simp only [og_some', onr_ret, gval_true, gval_false, pickV_true, pickV_false, apick_true, apick_false, gpick_true, gpick_false, ibin_leq, ibin_geq, ibin_lss, ibin_gtr, ibin_eql, ibin_neq, sbin_eql, sbin_neq, aun_not, Bool.not_true, Bool.not_false, decide_true, decide_false, if_true, if_false, Bool.false_eq_true, fldA_ptr, fldA_rop, anil_ptr, lenStr_str, amm_max, amm_min, Nat.zero_add, Nat.add_zero, List.length_cons, List.length_nil, Nat.reduceAdd]
  refine c_spec_l12Bent (t := 0) (AH.set_same ..) hb (by omega) fun size ps t' hsm ht' => ?_
  simp only [AH.set_set, og_some', onr_ret, gval_true, gval_false, pickV_true, pickV_false, apick_true, apick_false, gpick_true, gpick_false, ibin_leq, ibin_geq, ibin_lss, ibin_gtr, ibin_eql, ibin_neq, sbin_eql, sbin_neq, aun_not, Bool.not_true, Bool.not_false, decide_true, decide_false, if_true, if_false, Bool.false_eq_true, fldA_ptr, fldA_rop, anil_ptr, lenStr_str, amm_max, amm_min, Nat.zero_add, Nat.add_zero, List.length_cons, List.length_nil, Nat.reduceAdd]
  have er : ∀ σ : AH, bsl 1 [(.val (.int .i64 0))] 6 [(0, (.val (.int .i64 1))), (1, (.val (.int .i64 2))), (2, (.val (.int .i64 7))), (3, (.val (.int .i64 64))), (4, (.val (.int .i64 65))), (5, (.val (.int .i64 0)))] σ = fun k => (6 * 1 ≤ 2 ^ 24 ∧ ∀ φ, σ φ = none → k (.own φ 0 0 6) (σ.set φ ⟨0, 1, [1, 2, 7, 64, 65, 0].map fun x => [iv x]⟩)) := fun σ => by
    funext k; simp [bsl, afillS, acells, spl, Value.cells]
  simp only [er]
  refine ⟨by decide, fun χ hχ => ?_⟩
  simp only [AH.set_none] at hχ
  obtain ⟨nχ, hχ2, hχ3⟩ := hχ
  refine c_spec_l1Pick (t := t') (ns := ns) (xs := [1, 2, 7, 64, 65, 0]) (by rw [AH.set_ne' (Ne.symm nχ)]; exact AH.set_same ..) hb (by omega) (by simp) (by simp) (Cs.own (xs := [1, 2, 7, 64, 65, 0]) (AH.set_same ..)) (Cs.own (xs := [1, 2, 7, 64, 65, 0]) (by rw [AH.set_ne' nχ]; exact AH.set_same ..)) fun z _ => ?_
  simp only [og_some', onr_ret, gval_true, gval_false, pickV_true, pickV_false, apick_true, apick_false, gpick_true, gpick_false, ibin_leq, ibin_geq, ibin_lss, ibin_gtr, ibin_eql, ibin_neq, sbin_eql, sbin_neq, aun_not, Bool.not_true, Bool.not_false, decide_true, decide_false, if_true, if_false, Bool.false_eq_true, fldA_ptr, fldA_rop, anil_ptr, lenStr_str, amm_max, amm_min, Nat.zero_add, Nat.add_zero, List.length_cons, List.length_nil, Nat.reduceAdd]
  refine sto_own (es := [[iv 0, nilS]]) (cs := [iv size, roP ps]) (by rw [AH.set_ne' (Ne.symm hφ.1), AH.set_ne' (Ne.symm hχ2), AH.set_ne' (Ne.symm hφ.1)]; exact AH.set_same ..) (by simp) (by simp) rfl rfl (one2 rfl) ?_
  simp only [List.set_cons_zero]
  have e2 : ∀ σ : AH, lodA 2 (.ptr φ2 0 0 0) (σ.set φ2 ⟨0, 2, [[iv size, roP ps]]⟩) = some (.agg [iv size, roP ps]) := fun σ => lodA_at (AH.set_same ..) rfl rfl rfl
  simp only [e2, og_some', onr_ret, gval_true, gval_false, pickV_true, pickV_false, apick_true, apick_false, gpick_true, gpick_false, ibin_leq, ibin_geq, ibin_lss, ibin_gtr, ibin_eql, ibin_neq, sbin_eql, sbin_neq, aun_not, Bool.not_true, Bool.not_false, decide_true, decide_false, if_true, if_false, Bool.false_eq_true, fldA_ptr, fldA_rop, anil_ptr, lenStr_str, amm_max, amm_min, Nat.zero_add, Nat.add_zero, List.length_cons, List.length_nil, Nat.reduceAdd]
  exact aret_sub (sub_set (sub_set (sub_set (sub_set (sub_set (.refl _) h2) hφ.2) hχ3) hφ.2) h2) (h size ps z hsm)
theorem c_laws_lwNums {a b : AV} {xs ys : List Int} (hS : Ns σ a xs) (hT : Ns σ b ys) (hl : xs.length ≤ 1099511627776) (e : xs = ys) (h : R (.ret (bv true)) σ) : acall TP fn_laws_lwNums [a, b] σ R := by
  subst e
  refine s_laws_lwNums_ok ?_
  unfold s_laws_lwNums
  simp only [hS.len, hT.len, og_some', onr_ret, gval_true, gval_false, pickV_true, pickV_false, apick_true, apick_false, gpick_true, gpick_false, ibin_leq, ibin_geq, ibin_lss, ibin_gtr, ibin_eql, ibin_neq, sbin_eql, sbin_neq, aun_not, Bool.not_true, Bool.not_false, decide_true, decide_false, if_true, if_false, Bool.false_eq_true, fldA_ptr, fldA_rop, anil_ptr, lenStr_str, amm_max, amm_min, Nat.zero_add, Nat.add_zero, List.length_cons, List.length_nil, Nat.reduceAdd]
  refine lp_read xs.length (fun i => (a, b, iv i, ())) rfl ?_
  intro i hi R' hR'
  by_cases hlt : i < xs.length
  · have g0 : (i : Int) < xs.length := by omega
    obtain ⟨p, p1, p2, _⟩ := hS.at hlt
    obtain ⟨q, q1, q2, _⟩ := hT.at hlt
    simp only [hS.len, g0, p1, p2, q1, q2, ibin_up hlt (by omega), og_some', onr_ret, gval_true, gval_false, pickV_true, pickV_false, apick_true, apick_false, gpick_true, gpick_false, ibin_leq, ibin_geq, ibin_lss, ibin_gtr, ibin_eql, ibin_neq, sbin_eql, sbin_neq, aun_not, Bool.not_true, Bool.not_false, decide_true, decide_false, if_true, if_false, Bool.false_eq_true, fldA_ptr, fldA_rop, anil_ptr, lenStr_str, amm_max, amm_min, Nat.zero_add, Nat.add_zero, List.length_cons, List.length_nil, Nat.reduceAdd]
    exact hR' hlt σ (.refl _)
  · have g0 : ¬ (i : Int) < xs.length := by omega
    simp only [hS.len, g0, og_some', onr_ret, gval_true, gval_false, pickV_true, pickV_false, apick_true, apick_false, gpick_true, gpick_false, ibin_leq, ibin_geq, ibin_lss, ibin_gtr, ibin_eql, ibin_neq, sbin_eql, sbin_neq, aun_not, Bool.not_true, Bool.not_false, decide_true, decide_false, if_true, if_false, Bool.false_eq_true, fldA_ptr, fldA_rop, anil_ptr, lenStr_str, amm_max, amm_min, Nat.zero_add, Nat.add_zero, List.length_cons, List.length_nil, Nat.reduceAdd]
    exact ret_here h
theorem segF_of {size : Int} {ps : List (List Int)} (h1 : 1 ≤ size ∧ size ≤ 64) (h2 : OkP size ps) (h3 : tot ps ≤ 4000) : segF size ps = 0 := by
  unfold segF; rw [if_pos h1, if_pos h2, if_neg (by omega)]
/-- What is put on a stack is taken first. -/
theorem push_pop {size x : Int} {ps : List (List Int)} {r r' : SgR} (h : PushR size ps x r) (hc : r.c = 0) (h' : PopR r.s r.ps r') :
    segF size ps = 0 ∧ segF r.s r.ps = 0 ∧ r'.c = 0 ∧ r'.v = x ∧ r.ps.flatten = ps.flatten ++ [x] ∧ segF r'.s r'.ps = 0 ∧ r'.ps.flatten = ps.flatten := by
  obtain ⟨_, h⟩ := h
  by_cases c : segF size ps = 0
  case neg => rw [if_neg c] at h; exact absurd (h.1 ▸ hc) c
  rw [if_pos c] at h
  unfold OpenR at h
  obtain ⟨c1, c2, c3⟩ := seg_ok c
  rw [if_pos c1] at h
  split at h
  case isFalse => rw [h.1] at hc; cases hc
  rename_i hl
  obtain ⟨_, e1, e2, e3⟩ := h
  have t1 : tot r.ps ≤ 4000 := by rw [← tot_flatten, e3]; exact hl
  have s1 : segF r.s r.ps = 0 := segF_of (e1 ▸ c1) (e1 ▸ e2) t1
  unfold PopR at h'
  rw [if_pos s1] at h'
  have hne : r.ps ≠ [] := by rintro e; rw [e] at e3; simp at e3
  rw [if_neg hne] at h'
  obtain ⟨g1, g2, g3, g4⟩ := h'
  have e := g4.trans e3
  have e5 := List.append_inj_left' e rfl
  have e6 := List.append_inj_right' e rfl
  refine ⟨c, s1, g1, by simpa using e6, e3, segF_of (by rw [g2, e1]; exact c1) (g2 ▸ g3) ?_, e5⟩
  rw [← tot_flatten, e5, tot_flatten]; exact c3
theorem pop_small {size : Int} {ps : List (List Int)} {r : SgR} (h : PopR size ps r) : r.ps.length + tot r.ps ≤ 1099511627776 := by
  have : r.ps.length + tot r.ps ≤ 8000 := h.small
  omega
set_option maxRecDepth 100000 in
theorem c_laws_FnStacks {ns : List Int} (hb : ∀ x, x ∈ ns → 0 ≤ x ∧ x ≤ 255) (h : R (.ret (bv true)) σ) : acall TP fn_laws_FnStacks [roB ns] σ R := by
  refine s_laws_FnStacks_ok ?_
  unfold s_laws_FnStacks
  refine c_laws_lwBig ?_
  simp only [og_some', onr_ret, gval_true, gval_false, pickV_true, pickV_false, apick_true, apick_false, gpick_true, gpick_false, ibin_leq, ibin_geq, ibin_lss, ibin_gtr, ibin_eql, ibin_neq, sbin_eql, sbin_neq, aun_not, Bool.not_true, Bool.not_false, decide_true, decide_false, if_true, if_false, Bool.false_eq_true, fldA_ptr, fldA_rop, anil_ptr, lenStr_str, amm_max, amm_min, Nat.zero_add, Nat.add_zero, List.length_cons, List.length_nil, Nat.reduceAdd]
  by_cases big : 1048576 < ns.length
  · simp only [big, og_some', onr_ret, gval_true, gval_false, pickV_true, pickV_false, apick_true, apick_false, gpick_true, gpick_false, ibin_leq, ibin_geq, ibin_lss, ibin_gtr, ibin_eql, ibin_neq, sbin_eql, sbin_neq, aun_not, Bool.not_true, Bool.not_false, decide_true, decide_false, if_true, if_false, Bool.false_eq_true, fldA_ptr, fldA_rop, anil_ptr, lenStr_str, amm_max, amm_min, Nat.zero_add, Nat.add_zero, List.length_cons, List.length_nil, Nat.reduceAdd]; exact ret_here h
  have hB : Bts ns := ⟨hb, by omega⟩
  simp only [big, og_some', onr_ret, gval_true, gval_false, pickV_true, pickV_false, apick_true, apick_false, gpick_true, gpick_false, ibin_leq, ibin_geq, ibin_lss, ibin_gtr, ibin_eql, ibin_neq, sbin_eql, sbin_neq, aun_not, Bool.not_true, Bool.not_false, decide_true, decide_false, if_true, if_false, Bool.false_eq_true, fldA_ptr, fldA_rop, anil_ptr, lenStr_str, amm_max, amm_min, Nat.zero_add, Nat.add_zero, List.length_cons, List.length_nil, Nat.reduceAdd]
  refine c_spec_DrawPushSegs hB fun size ps item hsm => ?_
  simp only [aext_tup, List.getElem?_cons_zero, List.getElem?_cons_succ, new_eq, og_some', onr_ret, gval_true, gval_false, pickV_true, pickV_false, apick_true, apick_false, gpick_true, gpick_false, ibin_leq, ibin_geq, ibin_lss, ibin_gtr, ibin_eql, ibin_neq, sbin_eql, sbin_neq, aun_not, Bool.not_true, Bool.not_false, decide_true, decide_false, if_true, if_false, Bool.false_eq_true, fldA_ptr, fldA_rop, anil_ptr, lenStr_str, amm_max, amm_min, Nat.zero_add, Nat.add_zero, List.length_cons, List.length_nil, Nat.reduceAdd]
  intro φ3 h3
  refine put_new h3 rfl rfl (one2 rfl) fun σ1 s1 f1 k1 => ?_
  have e1 := lodA_at (st := 0) (i := 0) (n := 2) (cs := [iv size, roP ps]) f1 rfl rfl rfl
  simp only [e1, og_some', onr_ret, gval_true, gval_false, pickV_true, pickV_false, apick_true, apick_false, gpick_true, gpick_false, ibin_leq, ibin_geq, ibin_lss, ibin_gtr, ibin_eql, ibin_neq, sbin_eql, sbin_neq, aun_not, Bool.not_true, Bool.not_false, decide_true, decide_false, if_true, if_false, Bool.false_eq_true, fldA_ptr, fldA_rop, anil_ptr, lenStr_str, amm_max, amm_min, Nat.zero_add, Nat.add_zero, List.length_cons, List.length_nil, Nat.reduceAdd]
  refine c_impl_PushSegs_ro (Ps.ro ..) (by omega) fun r hr => ?_
  have hrs : r.ps.length + tot r.ps ≤ 8000 := hr.small
  simp only [new_eq, og_some', onr_ret, gval_true, gval_false, pickV_true, pickV_false, apick_true, apick_false, gpick_true, gpick_false, ibin_leq, ibin_geq, ibin_lss, ibin_gtr, ibin_eql, ibin_neq, sbin_eql, sbin_neq, aun_not, Bool.not_true, Bool.not_false, decide_true, decide_false, if_true, if_false, Bool.false_eq_true, fldA_ptr, fldA_rop, anil_ptr, lenStr_str, amm_max, amm_min, Nat.zero_add, Nat.add_zero, List.length_cons, List.length_nil, Nat.reduceAdd]
  intro φ5 h5
  refine put_new4 h5 rfl rfl fun σ2 s2 f2 k2 => ?_
  have e2 := lod_at (st := 0) (i := 0) (off := 0) (c := iv r.c) f2 rfl rfl
  have e1' := lodA_at (st := 0) (i := 0) (n := 2) (cs := [iv size, roP ps]) (s2.at f1) rfl rfl rfl
  simp only [e2, og_some', onr_ret, gval_true, gval_false, pickV_true, pickV_false, apick_true, apick_false, gpick_true, gpick_false, ibin_leq, ibin_geq, ibin_lss, ibin_gtr, ibin_eql, ibin_neq, sbin_eql, sbin_neq, aun_not, Bool.not_true, Bool.not_false, decide_true, decide_false, if_true, if_false, Bool.false_eq_true, fldA_ptr, fldA_rop, anil_ptr, lenStr_str, amm_max, amm_min, Nat.zero_add, Nat.add_zero, List.length_cons, List.length_nil, Nat.reduceAdd]
  by_cases c : r.c = 0
  case neg =>
    simp only [c, e1', e2, og_some', onr_ret, gval_true, gval_false, pickV_true, pickV_false, apick_true, apick_false, gpick_true, gpick_false, ibin_leq, ibin_geq, ibin_lss, ibin_gtr, ibin_eql, ibin_neq, sbin_eql, sbin_neq, aun_not, Bool.not_true, Bool.not_false, decide_true, decide_false, if_true, if_false, Bool.false_eq_true, fldA_ptr, fldA_rop, anil_ptr, lenStr_str, amm_max, amm_min, Nat.zero_add, Nat.add_zero, List.length_cons, List.length_nil, Nat.reduceAdd]
    refine c_spec_PushSegs (Ps.ro ..) (by omega) fun r' hr' => ?_
    obtain rfl := hr.unique hr'
    have fv : fldV 0 (.agg [iv r.c, iv r.v, iv r.s, roP r.ps]) = some (iv r.c) := rfl
    simp only [e2, fv, true_and, og_some', onr_ret, gval_true, gval_false, pickV_true, pickV_false, apick_true, apick_false, gpick_true, gpick_false, ibin_leq, ibin_geq, ibin_lss, ibin_gtr, ibin_eql, ibin_neq, sbin_eql, sbin_neq, aun_not, Bool.not_true, Bool.not_false, decide_true, decide_false, if_true, if_false, Bool.false_eq_true, fldA_ptr, fldA_rop, anil_ptr, lenStr_str, amm_max, amm_min, Nat.zero_add, Nat.add_zero, List.length_cons, List.length_nil, Nat.reduceAdd]
    exact aret_sub ((s1.trans s2)) h
  have e3 : lodA 2 (.ptr φ5 0 0 2) σ2 = some (.agg [iv r.s, roP r.ps]) := lodA_off (cs := [iv r.c, iv r.v, iv r.s, roP r.ps]) f2 rfl rfl (by simp)
  simp only [c, e3, og_some', onr_ret, gval_true, gval_false, pickV_true, pickV_false, apick_true, apick_false, gpick_true, gpick_false, ibin_leq, ibin_geq, ibin_lss, ibin_gtr, ibin_eql, ibin_neq, sbin_eql, sbin_neq, aun_not, Bool.not_true, Bool.not_false, decide_true, decide_false, if_true, if_false, Bool.false_eq_true, fldA_ptr, fldA_rop, anil_ptr, lenStr_str, amm_max, amm_min, Nat.zero_add, Nat.add_zero, List.length_cons, List.length_nil, Nat.reduceAdd]
  refine c_impl_PopSegs_ro (Ps.ro ..) (by omega) fun r' hr' => ?_
  obtain ⟨q1, q2, q3, q4, q5, q6, q7⟩ := push_pop hr c hr'
  have hps := pop_small hr'
  simp only [new_eq, og_some', onr_ret, gval_true, gval_false, pickV_true, pickV_false, apick_true, apick_false, gpick_true, gpick_false, ibin_leq, ibin_geq, ibin_lss, ibin_gtr, ibin_eql, ibin_neq, sbin_eql, sbin_neq, aun_not, Bool.not_true, Bool.not_false, decide_true, decide_false, if_true, if_false, Bool.false_eq_true, fldA_ptr, fldA_rop, anil_ptr, lenStr_str, amm_max, amm_min, Nat.zero_add, Nat.add_zero, List.length_cons, List.length_nil, Nat.reduceAdd]
  intro φ6 h6
  refine put_new4 h6 rfl rfl fun σ3 s3 f3 k3 => ?_
  have e1'' := lodA_at (st := 0) (i := 0) (n := 2) (cs := [iv size, roP ps]) ((s2.trans s3).at f1) rfl rfl rfl
  simp only [e1'', og_some', onr_ret, gval_true, gval_false, pickV_true, pickV_false, apick_true, apick_false, gpick_true, gpick_false, ibin_leq, ibin_geq, ibin_lss, ibin_gtr, ibin_eql, ibin_neq, sbin_eql, sbin_neq, aun_not, Bool.not_true, Bool.not_false, decide_true, decide_false, if_true, if_false, Bool.false_eq_true, fldA_ptr, fldA_rop, anil_ptr, lenStr_str, amm_max, amm_min, Nat.zero_add, Nat.add_zero, List.length_cons, List.length_nil, Nat.reduceAdd]
  refine c_impl_ListSegs_ro (Ps.ro ..) (by omega) ?_
  have l1 : lisR size ps = (0, ps.flatten) := by unfold lisR; rw [if_pos q1]
  have l2 : lisR r.s r.ps = (0, ps.flatten ++ [item]) := by unfold lisR; rw [if_pos q2, q5]
  have l3 : lisR r'.s r'.ps = (0, ps.flatten) := by unfold lisR; rw [if_pos q6, q7]
  simp only [l1, new_eq, og_some', onr_ret, gval_true, gval_false, pickV_true, pickV_false, apick_true, apick_false, gpick_true, gpick_false, ibin_leq, ibin_geq, ibin_lss, ibin_gtr, ibin_eql, ibin_neq, sbin_eql, sbin_neq, aun_not, Bool.not_true, Bool.not_false, decide_true, decide_false, if_true, if_false, Bool.false_eq_true, fldA_ptr, fldA_rop, anil_ptr, lenStr_str, amm_max, amm_min, Nat.zero_add, Nat.add_zero, List.length_cons, List.length_nil, Nat.reduceAdd]
  intro φ7 h7
  refine put_new h7 rfl rfl (one2 rfl) fun σ4 s4 f4 k4 => ?_
  have e3' : lodA 2 (.ptr φ5 0 0 2) σ4 = some (.agg [iv r.s, roP r.ps]) := lodA_off (cs := [iv r.c, iv r.v, iv r.s, roP r.ps]) ((s3.trans s4).at f2) rfl rfl (by simp)
  simp only [e3', og_some', onr_ret, gval_true, gval_false, pickV_true, pickV_false, apick_true, apick_false, gpick_true, gpick_false, ibin_leq, ibin_geq, ibin_lss, ibin_gtr, ibin_eql, ibin_neq, sbin_eql, sbin_neq, aun_not, Bool.not_true, Bool.not_false, decide_true, decide_false, if_true, if_false, Bool.false_eq_true, fldA_ptr, fldA_rop, anil_ptr, lenStr_str, amm_max, amm_min, Nat.zero_add, Nat.add_zero, List.length_cons, List.length_nil, Nat.reduceAdd]
  refine c_impl_ListSegs_ro (Ps.ro ..) (by omega) ?_
  simp only [l2, new_eq, og_some', onr_ret, gval_true, gval_false, pickV_true, pickV_false, apick_true, apick_false, gpick_true, gpick_false, ibin_leq, ibin_geq, ibin_lss, ibin_gtr, ibin_eql, ibin_neq, sbin_eql, sbin_neq, aun_not, Bool.not_true, Bool.not_false, decide_true, decide_false, if_true, if_false, Bool.false_eq_true, fldA_ptr, fldA_rop, anil_ptr, lenStr_str, amm_max, amm_min, Nat.zero_add, Nat.add_zero, List.length_cons, List.length_nil, Nat.reduceAdd]
  intro φ8 h8
  refine put_new h8 rfl rfl (one2 rfl) fun σ5 s5 f5 k5 => ?_
  have F5 := ((s3.trans s4).trans s5).at f2
  have F6 := (s4.trans s5).at f3
  have F7 := s5.at f4
  have d8 := lod_at (σ := σ5) (φ := φ8) (st := 0) (i := 0) (off := 1) (c := roN (ps.flatten ++ [item])) f5 rfl rfl
  have d5 : lodA 2 (.ptr φ5 0 0 2) σ5 = some (.agg [iv r.s, roP r.ps]) := lodA_off (cs := [iv r.c, iv r.v, iv r.s, roP r.ps]) F5 rfl rfl (by simp)
  have d60 := lod_at (σ := σ5) (φ := φ6) (st := 0) (i := 0) (off := 0) (c := iv r'.c) F6 rfl rfl
  have d61 := lod_at (σ := σ5) (φ := φ6) (st := 0) (i := 0) (off := 1) (c := iv r'.v) F6 rfl rfl
  have d62 : lodA 2 (.ptr φ6 0 0 2) σ5 = some (.agg [iv r'.s, roP r'.ps]) := lodA_off (cs := [iv r'.c, iv r'.v, iv r'.s, roP r'.ps]) F6 rfl rfl (by simp)
  have d7 := lod_at (σ := σ5) (φ := φ7) (st := 0) (i := 0) (off := 1) (c := roN ps.flatten) F7 rfl rfl
  have N8 : Ns σ5 (roN (ps.flatten ++ [item])) (ps.flatten ++ [item]) := Cs.ro ..
  have N7 : Ns σ5 (roN ps.flatten) ps.flatten := Cs.ro ..
  have hfl := tot_flatten ps
  have len8 : lenS (roN (ps.flatten ++ [item])) = some (iv (ps.flatten.length + 1)) := by rw [N8.len]; simp
  have hadd : ibin .add (iv (ps.flatten.length : Int)) (.val (.int .i64 1)) = some (iv (ps.flatten.length + 1)) := ibin_add (by omega) (by omega)
  have hsub : ibin .sub (iv ((ps.flatten.length : Int) + 1)) (.val (.int .i64 1)) = some (iv (ps.flatten.length : Int)) := by rw [ibin_sub (by omega) (by omega)]; congr 3; omega
  obtain ⟨p, p1, p2, _⟩ := N8.at (i := ps.flatten.length) (by simp)
  rw [List.getElem_append_right (Nat.le_refl _)] at p2
  simp only [Nat.sub_self, List.getElem_cons_zero] at p2
  obtain ⟨b, b1, b2⟩ := N8.slc (lo := none) (hi := some (iv (ps.flatten.length : Int))) (l := 0) (k := ps.flatten.length) rfl (abd_nat _ _) (Nat.zero_le _) (by simp)
  rw [List.drop_zero, List.take_left] at b2
  have S := (((s1.trans s2).trans s3).trans s4).trans s5
  simp only [jn, d8, d5, len8, og_some', onr_ret, gval_true, gval_false, pickV_true, pickV_false, apick_true, apick_false, gpick_true, gpick_false, ibin_leq, ibin_geq, ibin_lss, ibin_gtr, ibin_eql, ibin_neq, sbin_eql, sbin_neq, aun_not, Bool.not_true, Bool.not_false, decide_true, decide_false, if_true, if_false, Bool.false_eq_true, fldA_ptr, fldA_rop, anil_ptr, lenStr_str, amm_max, amm_min, Nat.zero_add, Nat.add_zero, List.length_cons, List.length_nil, Nat.reduceAdd]
  refine c_impl_SegsFault (Ps.ro ..) (by omega) ?_
  simp only [q2, d60, q3, d61, q4, d7, N7.len, hadd, d8, hsub, p1, p2, b1, true_and, og_some', onr_ret, gval_true, gval_false, pickV_true, pickV_false, apick_true, apick_false, gpick_true, gpick_false, ibin_leq, ibin_geq, ibin_lss, ibin_gtr, ibin_eql, ibin_neq, sbin_eql, sbin_neq, aun_not, Bool.not_true, Bool.not_false, decide_true, decide_false, if_true, if_false, Bool.false_eq_true, fldA_ptr, fldA_rop, anil_ptr, lenStr_str, amm_max, amm_min, Nat.zero_add, Nat.add_zero, List.length_cons, List.length_nil, Nat.reduceAdd]
  refine c_laws_lwNums b2 N7 (by omega) rfl ?_
  simp only [d62, d7, true_and, og_some', onr_ret, gval_true, gval_false, pickV_true, pickV_false, apick_true, apick_false, gpick_true, gpick_false, ibin_leq, ibin_geq, ibin_lss, ibin_gtr, ibin_eql, ibin_neq, sbin_eql, sbin_neq, aun_not, Bool.not_true, Bool.not_false, decide_true, decide_false, if_true, if_false, Bool.false_eq_true, fldA_ptr, fldA_rop, anil_ptr, lenStr_str, amm_max, amm_min, Nat.zero_add, Nat.add_zero, List.length_cons, List.length_nil, Nat.reduceAdd]
  refine c_impl_ListSegs_ro (Ps.ro ..) hps ?_
  have fv1 : fldV 1 (.agg [iv 0, roN ps.flatten]) = some (roN ps.flatten) := rfl
  simp only [l3, d7, fv1, true_and, og_some', onr_ret, gval_true, gval_false, pickV_true, pickV_false, apick_true, apick_false, gpick_true, gpick_false, ibin_leq, ibin_geq, ibin_lss, ibin_gtr, ibin_eql, ibin_neq, sbin_eql, sbin_neq, aun_not, Bool.not_true, Bool.not_false, decide_true, decide_false, if_true, if_false, Bool.false_eq_true, fldA_ptr, fldA_rop, anil_ptr, lenStr_str, amm_max, amm_min, Nat.zero_add, Nat.add_zero, List.length_cons, List.length_nil, Nat.reduceAdd]
  refine c_laws_lwNums N7 N7 (by omega) rfl ?_
  simp only [d5, true_and, og_some', onr_ret, gval_true, gval_false, pickV_true, pickV_false, apick_true, apick_false, gpick_true, gpick_false, ibin_leq, ibin_geq, ibin_lss, ibin_gtr, ibin_eql, ibin_neq, sbin_eql, sbin_neq, aun_not, Bool.not_true, Bool.not_false, decide_true, decide_false, if_true, if_false, Bool.false_eq_true, fldA_ptr, fldA_rop, anil_ptr, lenStr_str, amm_max, amm_min, Nat.zero_add, Nat.add_zero, List.length_cons, List.length_nil, Nat.reduceAdd]
  refine c_impl_DepthSegs (Ps.ro ..) (by omega) ?_
  have l4 : depR r.s r.ps = (0, ((ps.flatten.length + 1 : Nat) : Int)) := by unfold depR; rw [if_pos q2, ← tot_flatten, q5, List.length_append]; rfl
  have fv2 : fldV 1 (intR 0 ((ps.flatten.length + 1 : Nat) : Int)) = some (iv ((ps.flatten.length + 1 : Nat) : Int)) := rfl
  simp only [l4, fv2, true_and, og_some', onr_ret, gval_true, gval_false, pickV_true, pickV_false, apick_true, apick_false, gpick_true, gpick_false, ibin_leq, ibin_geq, ibin_lss, ibin_gtr, ibin_eql, ibin_neq, sbin_eql, sbin_neq, aun_not, Bool.not_true, Bool.not_false, decide_true, decide_false, if_true, if_false, Bool.false_eq_true, fldA_ptr, fldA_rop, anil_ptr, lenStr_str, amm_max, amm_min, Nat.zero_add, Nat.add_zero, List.length_cons, List.length_nil, Nat.reduceAdd]
  have l5 : decide (((ps.flatten.length + 1 : Nat) : Int) = (ps.flatten.length : Int) + 1) = true := decide_eq_true (by omega)
  simp only [l5, d62, og_some', onr_ret, gval_true, gval_false, pickV_true, pickV_false, apick_true, apick_false, gpick_true, gpick_false, ibin_leq, ibin_geq, ibin_lss, ibin_gtr, ibin_eql, ibin_neq, sbin_eql, sbin_neq, aun_not, Bool.not_true, Bool.not_false, decide_true, decide_false, if_true, if_false, Bool.false_eq_true, fldA_ptr, fldA_rop, anil_ptr, lenStr_str, amm_max, amm_min, Nat.zero_add, Nat.add_zero, List.length_cons, List.length_nil, Nat.reduceAdd]
  refine c_impl_SegsFault (Ps.ro ..) hps ?_
  simp only [q6, true_and, og_some', onr_ret, gval_true, gval_false, pickV_true, pickV_false, apick_true, apick_false, gpick_true, gpick_false, ibin_leq, ibin_geq, ibin_lss, ibin_gtr, ibin_eql, ibin_neq, sbin_eql, sbin_neq, aun_not, Bool.not_true, Bool.not_false, decide_true, decide_false, if_true, if_false, Bool.false_eq_true, fldA_ptr, fldA_rop, anil_ptr, lenStr_str, amm_max, amm_min, Nat.zero_add, Nat.add_zero, List.length_cons, List.length_nil, Nat.reduceAdd]
  exact aret_sub S h
theorem resize_back {size n : Int} {ps : List (List Int)} {r r' : SgR} (h : ResizeR size ps n r) (hc : r.c = 0) (h' : ResizeR n r.ps size r') :
    segF size ps = 0 ∧ r.s = n ∧ segF n r.ps = 0 ∧ r.ps.flatten = ps.flatten ∧ OpenR n ps.flatten 0 n r.ps ∧ r'.s = size ∧ r'.ps = ps := by
  obtain ⟨_, h⟩ := h
  by_cases c : segF size ps = 0
  case neg => rw [if_neg c] at h; exact absurd (h.1 ▸ hc) c
  rw [if_pos c] at h
  have ho := h
  unfold OpenR at h
  obtain ⟨c1, c2, c3⟩ := seg_ok c
  split at h
  case isFalse => rw [h.1] at hc; cases hc
  rename_i hn
  split at h
  case isFalse => rw [h.1] at hc; cases hc
  rename_i hl
  obtain ⟨_, e1, e2, e3⟩ := h
  have t1 : tot r.ps ≤ 4000 := by rw [← tot_flatten, e3]; exact hl
  have s1 : segF n r.ps = 0 := segF_of hn e2 t1
  rw [hc, e1] at ho
  obtain ⟨_, h'⟩ := h'
  rw [if_pos s1, e3] at h'
  unfold OpenR at h'
  rw [if_pos c1, if_pos hl] at h'
  obtain ⟨_, g1, g2, g3⟩ := h'
  exact ⟨c, e1, s1, e3, ho, g1, okp_unique g2 c2 g3⟩
set_option maxRecDepth 100000 in
theorem c_laws_FnResizes {ns : List Int} (hb : ∀ x, x ∈ ns → 0 ≤ x ∧ x ≤ 255) (h : R (.ret (bv true)) σ) : acall TP fn_laws_FnResizes [roB ns] σ R := by
  refine s_laws_FnResizes_ok ?_
  unfold s_laws_FnResizes
  refine c_laws_lwBig ?_
  simp only [og_some', onr_ret, gval_true, gval_false, pickV_true, pickV_false, apick_true, apick_false, gpick_true, gpick_false, ibin_leq, ibin_geq, ibin_lss, ibin_gtr, ibin_eql, ibin_neq, sbin_eql, sbin_neq, aun_not, Bool.not_true, Bool.not_false, decide_true, decide_false, if_true, if_false, Bool.false_eq_true, fldA_ptr, fldA_rop, anil_ptr, lenStr_str, amm_max, amm_min, Nat.zero_add, Nat.add_zero, List.length_cons, List.length_nil, Nat.reduceAdd]
  by_cases big : 1048576 < ns.length
  · simp only [big, og_some', onr_ret, gval_true, gval_false, pickV_true, pickV_false, apick_true, apick_false, gpick_true, gpick_false, ibin_leq, ibin_geq, ibin_lss, ibin_gtr, ibin_eql, ibin_neq, sbin_eql, sbin_neq, aun_not, Bool.not_true, Bool.not_false, decide_true, decide_false, if_true, if_false, Bool.false_eq_true, fldA_ptr, fldA_rop, anil_ptr, lenStr_str, amm_max, amm_min, Nat.zero_add, Nat.add_zero, List.length_cons, List.length_nil, Nat.reduceAdd]; exact ret_here h
  have hB : Bts ns := ⟨hb, by omega⟩
  simp only [big, og_some', onr_ret, gval_true, gval_false, pickV_true, pickV_false, apick_true, apick_false, gpick_true, gpick_false, ibin_leq, ibin_geq, ibin_lss, ibin_gtr, ibin_eql, ibin_neq, sbin_eql, sbin_neq, aun_not, Bool.not_true, Bool.not_false, decide_true, decide_false, if_true, if_false, Bool.false_eq_true, fldA_ptr, fldA_rop, anil_ptr, lenStr_str, amm_max, amm_min, Nat.zero_add, Nat.add_zero, List.length_cons, List.length_nil, Nat.reduceAdd]
  refine c_spec_DrawResizeSegs hB fun size ps n hsm => ?_
  simp only [aext_tup, List.getElem?_cons_zero, List.getElem?_cons_succ, new_eq, og_some', onr_ret, gval_true, gval_false, pickV_true, pickV_false, apick_true, apick_false, gpick_true, gpick_false, ibin_leq, ibin_geq, ibin_lss, ibin_gtr, ibin_eql, ibin_neq, sbin_eql, sbin_neq, aun_not, Bool.not_true, Bool.not_false, decide_true, decide_false, if_true, if_false, Bool.false_eq_true, fldA_ptr, fldA_rop, anil_ptr, lenStr_str, amm_max, amm_min, Nat.zero_add, Nat.add_zero, List.length_cons, List.length_nil, Nat.reduceAdd]
  intro φ3 h3
  refine put_new h3 rfl rfl (one2 rfl) fun σ1 s1 f1 k1 => ?_
  have e1 := lodA_at (st := 0) (i := 0) (n := 2) (cs := [iv size, roP ps]) f1 rfl rfl rfl
  simp only [e1, og_some', onr_ret, gval_true, gval_false, pickV_true, pickV_false, apick_true, apick_false, gpick_true, gpick_false, ibin_leq, ibin_geq, ibin_lss, ibin_gtr, ibin_eql, ibin_neq, sbin_eql, sbin_neq, aun_not, Bool.not_true, Bool.not_false, decide_true, decide_false, if_true, if_false, Bool.false_eq_true, fldA_ptr, fldA_rop, anil_ptr, lenStr_str, amm_max, amm_min, Nat.zero_add, Nat.add_zero, List.length_cons, List.length_nil, Nat.reduceAdd]
  refine c_impl_ResizeSegs_ro (Ps.ro ..) (by omega) fun r hr => ?_
  have hrs : r.ps.length + tot r.ps ≤ 8000 := hr.small
  simp only [new_eq, og_some', onr_ret, gval_true, gval_false, pickV_true, pickV_false, apick_true, apick_false, gpick_true, gpick_false, ibin_leq, ibin_geq, ibin_lss, ibin_gtr, ibin_eql, ibin_neq, sbin_eql, sbin_neq, aun_not, Bool.not_true, Bool.not_false, decide_true, decide_false, if_true, if_false, Bool.false_eq_true, fldA_ptr, fldA_rop, anil_ptr, lenStr_str, amm_max, amm_min, Nat.zero_add, Nat.add_zero, List.length_cons, List.length_nil, Nat.reduceAdd]
  intro φ5 h5
  refine put_new4 h5 rfl rfl fun σ2 s2 f2 k2 => ?_
  have e2 := lod_at (st := 0) (i := 0) (off := 0) (c := iv r.c) f2 rfl rfl
  have e1' := lodA_at (st := 0) (i := 0) (n := 2) (cs := [iv size, roP ps]) (s2.at f1) rfl rfl rfl
  simp only [e2, og_some', onr_ret, gval_true, gval_false, pickV_true, pickV_false, apick_true, apick_false, gpick_true, gpick_false, ibin_leq, ibin_geq, ibin_lss, ibin_gtr, ibin_eql, ibin_neq, sbin_eql, sbin_neq, aun_not, Bool.not_true, Bool.not_false, decide_true, decide_false, if_true, if_false, Bool.false_eq_true, fldA_ptr, fldA_rop, anil_ptr, lenStr_str, amm_max, amm_min, Nat.zero_add, Nat.add_zero, List.length_cons, List.length_nil, Nat.reduceAdd]
  by_cases c : r.c = 0
  case neg =>
    simp only [c, e1', e2, og_some', onr_ret, gval_true, gval_false, pickV_true, pickV_false, apick_true, apick_false, gpick_true, gpick_false, ibin_leq, ibin_geq, ibin_lss, ibin_gtr, ibin_eql, ibin_neq, sbin_eql, sbin_neq, aun_not, Bool.not_true, Bool.not_false, decide_true, decide_false, if_true, if_false, Bool.false_eq_true, fldA_ptr, fldA_rop, anil_ptr, lenStr_str, amm_max, amm_min, Nat.zero_add, Nat.add_zero, List.length_cons, List.length_nil, Nat.reduceAdd]
    refine c_spec_ResizeSegs (Ps.ro ..) (by omega) fun r' hr' => ?_
    obtain rfl := hr.unique hr'
    have fv : fldV 0 (.agg [iv r.c, iv r.v, iv r.s, roP r.ps]) = some (iv r.c) := rfl
    simp only [e2, fv, true_and, og_some', onr_ret, gval_true, gval_false, pickV_true, pickV_false, apick_true, apick_false, gpick_true, gpick_false, ibin_leq, ibin_geq, ibin_lss, ibin_gtr, ibin_eql, ibin_neq, sbin_eql, sbin_neq, aun_not, Bool.not_true, Bool.not_false, decide_true, decide_false, if_true, if_false, Bool.false_eq_true, fldA_ptr, fldA_rop, anil_ptr, lenStr_str, amm_max, amm_min, Nat.zero_add, Nat.add_zero, List.length_cons, List.length_nil, Nat.reduceAdd]
    exact aret_sub ((s1.trans s2)) h
  simp only [c, e1', og_some', onr_ret, gval_true, gval_false, pickV_true, pickV_false, apick_true, apick_false, gpick_true, gpick_false, ibin_leq, ibin_geq, ibin_lss, ibin_gtr, ibin_eql, ibin_neq, sbin_eql, sbin_neq, aun_not, Bool.not_true, Bool.not_false, decide_true, decide_false, if_true, if_false, Bool.false_eq_true, fldA_ptr, fldA_rop, anil_ptr, lenStr_str, amm_max, amm_min, Nat.zero_add, Nat.add_zero, List.length_cons, List.length_nil, Nat.reduceAdd]
  refine c_impl_ListSegs_ro (Ps.ro ..) (by omega) ?_
  by_cases q1 : segF size ps = 0
  case neg => obtain ⟨_, hr⟩ := hr; rw [if_neg q1] at hr; exact absurd (hr.1 ▸ c) q1
  have l1 : lisR size ps = (0, ps.flatten) := by unfold lisR; rw [if_pos q1]
  have hfl := tot_flatten ps
  simp only [l1, new_eq, og_some', onr_ret, gval_true, gval_false, pickV_true, pickV_false, apick_true, apick_false, gpick_true, gpick_false, ibin_leq, ibin_geq, ibin_lss, ibin_gtr, ibin_eql, ibin_neq, sbin_eql, sbin_neq, aun_not, Bool.not_true, Bool.not_false, decide_true, decide_false, if_true, if_false, Bool.false_eq_true, fldA_ptr, fldA_rop, anil_ptr, lenStr_str, amm_max, amm_min, Nat.zero_add, Nat.add_zero, List.length_cons, List.length_nil, Nat.reduceAdd]
  intro φ6 h6
  refine put_new h6 rfl rfl (one2 rfl) fun σ3 s3 f3 k3 => ?_
  have d6 := lod_at (st := 0) (i := 0) (off := 1) (c := roN ps.flatten) f3 rfl rfl
  simp only [d6, og_some', onr_ret, gval_true, gval_false, pickV_true, pickV_false, apick_true, apick_false, gpick_true, gpick_false, ibin_leq, ibin_geq, ibin_lss, ibin_gtr, ibin_eql, ibin_neq, sbin_eql, sbin_neq, aun_not, Bool.not_true, Bool.not_false, decide_true, decide_false, if_true, if_false, Bool.false_eq_true, fldA_ptr, fldA_rop, anil_ptr, lenStr_str, amm_max, amm_min, Nat.zero_add, Nat.add_zero, List.length_cons, List.length_nil, Nat.reduceAdd]
  refine c_impl_OpenSegs_ro (Cs.ro ..) (by omega) fun oc os ops ho => ?_
  simp only [new_eq, og_some', onr_ret, gval_true, gval_false, pickV_true, pickV_false, apick_true, apick_false, gpick_true, gpick_false, ibin_leq, ibin_geq, ibin_lss, ibin_gtr, ibin_eql, ibin_neq, sbin_eql, sbin_neq, aun_not, Bool.not_true, Bool.not_false, decide_true, decide_false, if_true, if_false, Bool.false_eq_true, fldA_ptr, fldA_rop, anil_ptr, lenStr_str, amm_max, amm_min, Nat.zero_add, Nat.add_zero, List.length_cons, List.length_nil, Nat.reduceAdd]
  intro φ7 h7
  refine put_new4 h7 rfl rfl fun σ4 s4 f4 k4 => ?_
  have F5 := (s3.trans s4).at f2
  have F3 := ((s2.trans s3).trans s4).at f1
  have e5 : lodA 2 (.ptr φ5 0 0 2) σ4 = some (.agg [iv r.s, roP r.ps]) := lodA_off (cs := [iv r.c, iv r.v, iv r.s, roP r.ps]) F5 rfl rfl (by simp)
  have e3 := lod_at (σ := σ4) (φ := φ3) (st := 0) (i := 0) (off := 0) (c := iv size) F3 rfl rfl
  have hrn : r.s = n := by
    obtain ⟨_, hr⟩ := hr
    rw [if_pos q1] at hr
    unfold OpenR at hr
    split at hr
    · split at hr
      · exact hr.2.1
      · rw [hr.1] at c; cases c
    · rw [hr.1] at c; cases c
  simp only [e5, e3, og_some', onr_ret, gval_true, gval_false, pickV_true, pickV_false, apick_true, apick_false, gpick_true, gpick_false, ibin_leq, ibin_geq, ibin_lss, ibin_gtr, ibin_eql, ibin_neq, sbin_eql, sbin_neq, aun_not, Bool.not_true, Bool.not_false, decide_true, decide_false, if_true, if_false, Bool.false_eq_true, fldA_ptr, fldA_rop, anil_ptr, lenStr_str, amm_max, amm_min, Nat.zero_add, Nat.add_zero, List.length_cons, List.length_nil, Nat.reduceAdd]
  rw [hrn]
  refine c_impl_ResizeSegs_ro (Ps.ro ..) (by omega) fun r' hr' => ?_
  obtain ⟨_, _, q3, q4, q5, q6, q7⟩ := resize_back hr c hr'
  obtain ⟨o1, o2, o3⟩ := ho.unique q5
  subst o1 o2 o3
  have oseg := q3
  simp only [new_eq, og_some', onr_ret, gval_true, gval_false, pickV_true, pickV_false, apick_true, apick_false, gpick_true, gpick_false, ibin_leq, ibin_geq, ibin_lss, ibin_gtr, ibin_eql, ibin_neq, sbin_eql, sbin_neq, aun_not, Bool.not_true, Bool.not_false, decide_true, decide_false, if_true, if_false, Bool.false_eq_true, fldA_ptr, fldA_rop, anil_ptr, lenStr_str, amm_max, amm_min, Nat.zero_add, Nat.add_zero, List.length_cons, List.length_nil, Nat.reduceAdd]
  intro φ8 h8
  refine put_new4 h8 rfl rfl fun σ5 s5 f5 k5 => ?_
  have G5 := s5.at F5
  have G3 := s5.at F3
  have G6 := (s4.trans s5).at f3
  have G7 := s5.at f4
  have d5 : lodA 2 (.ptr φ5 0 0 2) σ5 = some (.agg [iv r.s, roP r.ps]) := lodA_off (cs := [iv r.c, iv r.v, iv r.s, roP r.ps]) G5 rfl rfl (by simp)
  have d6' := lod_at (σ := σ5) (φ := φ6) (st := 0) (i := 0) (off := 1) (c := roN ps.flatten) G6 rfl rfl
  have d70 := lod_at (σ := σ5) (φ := φ7) (st := 0) (i := 0) (off := 0) (c := iv 0) G7 rfl rfl
  have d72 : lodA 2 (.ptr φ7 0 0 2) σ5 = some (.agg [iv os, roP r.ps]) := lodA_off (cs := [iv 0, iv 0, iv os, roP r.ps]) G7 rfl rfl (by simp)
  have d83 := lod_at (σ := σ5) (φ := φ8) (st := 0) (i := 0) (off := 3) (c := roP r'.ps) f5 rfl rfl
  have d82 : lodA 2 (.ptr φ8 0 0 2) σ5 = some (.agg [iv r'.s, roP r'.ps]) := lodA_off (cs := [iv r'.c, iv r'.v, iv r'.s, roP r'.ps]) f5 rfl rfl (by simp)
  have d31 := lod_at (σ := σ5) (φ := φ3) (st := 0) (i := 0) (off := 1) (c := roP ps) G3 rfl rfl
  have d3 := lodA_at (σ := σ5) (φ := φ3) (st := 0) (i := 0) (n := 2) (cs := [iv size, roP ps]) G3 rfl rfl rfl
  have len : lenS (roP ps) = some (iv (ps.length : Int)) := (Ps.ro σ5 ps).len
  have N7 : Ns σ5 (roN ps.flatten) ps.flatten := Cs.ro ..
  have S := (((s1.trans s2).trans s3).trans s4).trans s5
  rw [hrn] at d5
  rw [q6, q7] at d82
  rw [q7] at d83
  have l2 : lisR os r.ps = (0, ps.flatten) := by unfold lisR; rw [if_pos q3, q4]
  have fv1 : fldV 1 (.agg [iv 0, roN ps.flatten]) = some (roN ps.flatten) := rfl
  have l4 : depR size ps = (0, (tot ps : Int)) := by unfold depR; rw [if_pos q1]
  have fv2 : fldV 1 (intR 0 (tot ps : Int)) = some (iv (tot ps : Int)) := rfl
  simp only [jn, d5, og_some', onr_ret, gval_true, gval_false, pickV_true, pickV_false, apick_true, apick_false, gpick_true, gpick_false, ibin_leq, ibin_geq, ibin_lss, ibin_gtr, ibin_eql, ibin_neq, sbin_eql, sbin_neq, aun_not, Bool.not_true, Bool.not_false, decide_true, decide_false, if_true, if_false, Bool.false_eq_true, fldA_ptr, fldA_rop, anil_ptr, lenStr_str, amm_max, amm_min, Nat.zero_add, Nat.add_zero, List.length_cons, List.length_nil, Nat.reduceAdd]
  refine c_impl_SegsFault (Ps.ro ..) (by omega) ?_
  simp only [q3, d5, d6', true_and, og_some', onr_ret, gval_true, gval_false, pickV_true, pickV_false, apick_true, apick_false, gpick_true, gpick_false, ibin_leq, ibin_geq, ibin_lss, ibin_gtr, ibin_eql, ibin_neq, sbin_eql, sbin_neq, aun_not, Bool.not_true, Bool.not_false, decide_true, decide_false, if_true, if_false, Bool.false_eq_true, fldA_ptr, fldA_rop, anil_ptr, lenStr_str, amm_max, amm_min, Nat.zero_add, Nat.add_zero, List.length_cons, List.length_nil, Nat.reduceAdd]
  refine c_impl_ListSegs_ro (Ps.ro ..) (by omega) ?_
  simp only [l2, fv1, d6', true_and, og_some', onr_ret, gval_true, gval_false, pickV_true, pickV_false, apick_true, apick_false, gpick_true, gpick_false, ibin_leq, ibin_geq, ibin_lss, ibin_gtr, ibin_eql, ibin_neq, sbin_eql, sbin_neq, aun_not, Bool.not_true, Bool.not_false, decide_true, decide_false, if_true, if_false, Bool.false_eq_true, fldA_ptr, fldA_rop, anil_ptr, lenStr_str, amm_max, amm_min, Nat.zero_add, Nat.add_zero, List.length_cons, List.length_nil, Nat.reduceAdd]
  refine c_laws_lwNums N7 N7 (by omega) rfl ?_
  simp only [d70, d72, d6', true_and, og_some', onr_ret, gval_true, gval_false, pickV_true, pickV_false, apick_true, apick_false, gpick_true, gpick_false, ibin_leq, ibin_geq, ibin_lss, ibin_gtr, ibin_eql, ibin_neq, sbin_eql, sbin_neq, aun_not, Bool.not_true, Bool.not_false, decide_true, decide_false, if_true, if_false, Bool.false_eq_true, fldA_ptr, fldA_rop, anil_ptr, lenStr_str, amm_max, amm_min, Nat.zero_add, Nat.add_zero, List.length_cons, List.length_nil, Nat.reduceAdd]
  refine c_impl_ListSegs_ro (Ps.ro ..) (by omega) ?_
  simp only [l2, fv1, d6', true_and, og_some', onr_ret, gval_true, gval_false, pickV_true, pickV_false, apick_true, apick_false, gpick_true, gpick_false, ibin_leq, ibin_geq, ibin_lss, ibin_gtr, ibin_eql, ibin_neq, sbin_eql, sbin_neq, aun_not, Bool.not_true, Bool.not_false, decide_true, decide_false, if_true, if_false, Bool.false_eq_true, fldA_ptr, fldA_rop, anil_ptr, lenStr_str, amm_max, amm_min, Nat.zero_add, Nat.add_zero, List.length_cons, List.length_nil, Nat.reduceAdd]
  refine c_laws_lwNums N7 N7 (by omega) rfl ?_
  simp only [d83, d31, len, d82, d3, true_and, og_some', onr_ret, gval_true, gval_false, pickV_true, pickV_false, apick_true, apick_false, gpick_true, gpick_false, ibin_leq, ibin_geq, ibin_lss, ibin_gtr, ibin_eql, ibin_neq, sbin_eql, sbin_neq, aun_not, Bool.not_true, Bool.not_false, decide_true, decide_false, if_true, if_false, Bool.false_eq_true, fldA_ptr, fldA_rop, anil_ptr, lenStr_str, amm_max, amm_min, Nat.zero_add, Nat.add_zero, List.length_cons, List.length_nil, Nat.reduceAdd]
  refine c_impl_DepthSegs (Ps.ro ..) (by omega) ?_
  simp only [l4, fv2, d3, true_and, og_some', onr_ret, gval_true, gval_false, pickV_true, pickV_false, apick_true, apick_false, gpick_true, gpick_false, ibin_leq, ibin_geq, ibin_lss, ibin_gtr, ibin_eql, ibin_neq, sbin_eql, sbin_neq, aun_not, Bool.not_true, Bool.not_false, decide_true, decide_false, if_true, if_false, Bool.false_eq_true, fldA_ptr, fldA_rop, anil_ptr, lenStr_str, amm_max, amm_min, Nat.zero_add, Nat.add_zero, List.length_cons, List.length_nil, Nat.reduceAdd]
  refine c_impl_DepthSegs (Ps.ro ..) (by omega) ?_
  have eb : bld [(.val (.int .i64 0)), (.val (.slice none 0 0))] [(0, 1), (1, 1)] [(0, iv os)] = some (.agg [iv os, nilS]) := rfl
  simp only [l4, fv2, eb, true_and, og_some', onr_ret, gval_true, gval_false, pickV_true, pickV_false, apick_true, apick_false, gpick_true, gpick_false, ibin_leq, ibin_geq, ibin_lss, ibin_gtr, ibin_eql, ibin_neq, sbin_eql, sbin_neq, aun_not, Bool.not_true, Bool.not_false, decide_true, decide_false, if_true, if_false, Bool.false_eq_true, fldA_ptr, fldA_rop, anil_ptr, lenStr_str, amm_max, amm_min, Nat.zero_add, Nat.add_zero, List.length_cons, List.length_nil, Nat.reduceAdd]
  refine c_impl_PopSegs_ro (ps := []) ⟨[], rfl, Cs.nil .., fun q hq => by cases hq⟩ (by simp [tot]) fun z hz => ?_
  have sn : segF os [] = 0 := segF_of (seg_ok q3).1 (fun i hi => by simp at hi) (by simp [tot])
  have hz4 : z = ⟨4, 0, 0, []⟩ := by unfold PopR at hz; rw [if_pos sn, if_pos rfl] at hz; exact hz
  have fv3 : fldV 0 (.agg [iv z.c, iv z.v, iv z.s, roP z.ps]) = some (iv 4) := by rw [hz4]; rfl
  simp only [fv3, true_and, og_some', onr_ret, gval_true, gval_false, pickV_true, pickV_false, apick_true, apick_false, gpick_true, gpick_false, ibin_leq, ibin_geq, ibin_lss, ibin_gtr, ibin_eql, ibin_neq, sbin_eql, sbin_neq, aun_not, Bool.not_true, Bool.not_false, decide_true, decide_false, if_true, if_false, Bool.false_eq_true, fldA_ptr, fldA_rop, anil_ptr, lenStr_str, amm_max, amm_min, Nat.zero_add, Nat.add_zero, List.length_cons, List.length_nil, Nat.reduceAdd]
  exact aret_sub S h
end Go.Proofs.Ytjfdgijgkbojnaa.E
namespace Go.Proofs.Ytjfdgijgkbojnaa.E
open Go
theorem u8_wf {n : Int} (h : (Lit.int .u8 n).wf = true) : 0 ≤ n ∧ n ≤ 255 := by
  simp [Lit.wf, IntKind.min, IntKind.max, IntKind.bits, IntKind.signed] at h
  omega
end Go.Proofs.Ytjfdgijgkbojnaa.E
