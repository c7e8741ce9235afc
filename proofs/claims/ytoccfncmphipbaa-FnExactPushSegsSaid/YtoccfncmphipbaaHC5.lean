import Derived.Test.YtoccfncmphipbaaHB5

/- The laws on PushSegs, ResizeSegs, PopSegs. Printed by mksegs.py. -/
set_option linter.unusedSectionVars false
set_option linter.unusedSimpArgs false
set_option linter.unusedVariables false
namespace Go.Proofs.Ytoccfncmphipbaa.E
open Go Go.RowKit
variable [L : Lam]
variable {σ : AH} {R : AEnd → AH → Prop}
set_option maxRecDepth 100000 in
theorem c_laws_FnExactPushSegs {size : Int} {x : Int} {ps : List (List Int)} (hl : ps.length ≤ maxLen) (hm : ∀ p, p ∈ ps → p.length ≤ maxLen)
    (h : R (.ret (bv true)) σ) : acall TP fn_laws_FnExactPushSegs [roG size ps, iv x] σ R := by
  refine s_laws_FnExactPushSegs_ok ?_
  unfold s_laws_FnExactPushSegs
  simp only [abox_agg, og_some', onr_ret, gval_true, gval_false, pickV_true, pickV_false, apick_true, apick_false, gpick_true, gpick_false, ibin_leq, ibin_geq, ibin_lss, ibin_gtr, ibin_eql, ibin_neq, sbin_eql, sbin_neq, aun_not, Bool.not_true, Bool.not_false, decide_true, decide_false, if_true, if_false, Bool.false_eq_true, fldA_ptr, fldA_rop, anil_ptr, lenStr_str, amm_max, amm_min, Nat.zero_add, Nat.add_zero, List.length_cons, List.length_nil, Nat.reduceAdd]
  intro φ1 h1
  have hs1 : AH.Sub σ (σ.set φ1 ⟨0, 2, [[iv size, roP ps]]⟩) := sub_set (.refl σ) h1
  have f1 : (σ.set φ1 ⟨0, 2, [[iv size, roP ps]]⟩) φ1 = some ⟨0, 2, [[iv size, roP ps]]⟩ := AH.set_same ..
  generalize hg1 : σ.set φ1 ⟨0, 2, [[iv size, roP ps]]⟩ = σ1 at hs1 f1 ⊢
  clear hg1
  have e := lodA_at (st := 0) (i := 0) (n := 2) (cs := [iv size, roP ps]) f1 rfl rfl rfl
  simp only [e, og_some', onr_ret, gval_true, gval_false, pickV_true, pickV_false, apick_true, apick_false, gpick_true, gpick_false, ibin_leq, ibin_geq, ibin_lss, ibin_gtr, ibin_eql, ibin_neq, sbin_eql, sbin_neq, aun_not, Bool.not_true, Bool.not_false, decide_true, decide_false, if_true, if_false, Bool.false_eq_true, fldA_ptr, fldA_rop, anil_ptr, lenStr_str, amm_max, amm_min, Nat.zero_add, Nat.add_zero, List.length_cons, List.length_nil, Nat.reduceAdd]
  refine c_laws_szSegs (Ps.ro ..) (by omega) (by omega) hl hm fun r0 r00 r01 r02 => ?_
  simp only [og_some', onr_ret, gval_true, gval_false, pickV_true, pickV_false, apick_true, apick_false, gpick_true, gpick_false, ibin_leq, ibin_geq, ibin_lss, ibin_gtr, ibin_eql, ibin_neq, sbin_eql, sbin_neq, aun_not, Bool.not_true, Bool.not_false, decide_true, decide_false, if_true, if_false, Bool.false_eq_true, fldA_ptr, fldA_rop, anil_ptr, lenStr_str, amm_max, amm_min, Nat.zero_add, Nat.add_zero, List.length_cons, List.length_nil, Nat.reduceAdd]
  by_cases c1 : r0 < 0
  · simp only [c1, og_some', onr_ret, gval_true, gval_false, pickV_true, pickV_false, apick_true, apick_false, gpick_true, gpick_false, ibin_leq, ibin_geq, ibin_lss, ibin_gtr, ibin_eql, ibin_neq, sbin_eql, sbin_neq, aun_not, Bool.not_true, Bool.not_false, decide_true, decide_false, if_true, if_false, Bool.false_eq_true, fldA_ptr, fldA_rop, anil_ptr, lenStr_str, amm_max, amm_min, Nat.zero_add, Nat.add_zero, List.length_cons, List.length_nil, Nat.reduceAdd]; exact aret_sub hs1 h
  simp only [c1, e, og_some', onr_ret, gval_true, gval_false, pickV_true, pickV_false, apick_true, apick_false, gpick_true, gpick_false, ibin_leq, ibin_geq, ibin_lss, ibin_gtr, ibin_eql, ibin_neq, sbin_eql, sbin_neq, aun_not, Bool.not_true, Bool.not_false, decide_true, decide_false, if_true, if_false, Bool.false_eq_true, fldA_ptr, fldA_rop, anil_ptr, lenStr_str, amm_max, amm_min, Nat.zero_add, Nat.add_zero, List.length_cons, List.length_nil, Nat.reduceAdd]
  have b1 : ps.length ≤ 1099511627776 := by omega
  have b2 : ∀ p, p ∈ ps → p.length ≤ 1099511627776 := tot_mem (by omega)
  have b3 : ps.length + tot ps ≤ 1099511627776 := by omega
  have b5 : (tot ps : Int) ≤ 1048576 := by omega
  refine c_laws_toSegs_ro (Ps.ro ..) b1 b2 ?_
  simp only [og_some', onr_ret, gval_true, gval_false, pickV_true, pickV_false, apick_true, apick_false, gpick_true, gpick_false, ibin_leq, ibin_geq, ibin_lss, ibin_gtr, ibin_eql, ibin_neq, sbin_eql, sbin_neq, aun_not, Bool.not_true, Bool.not_false, decide_true, decide_false, if_true, if_false, Bool.false_eq_true, fldA_ptr, fldA_rop, anil_ptr, lenStr_str, amm_max, amm_min, Nat.zero_add, Nat.add_zero, List.length_cons, List.length_nil, Nat.reduceAdd]
  refine c_spec_PushSegs (Ps.ro ..) b3 fun r hR => ?_
  have hsm : r.ps.length + tot r.ps ≤ 8000 := hR.small
  have rb1 : r.ps.length ≤ 1099511627776 := by omega
  have rb2 : ∀ p, p ∈ r.ps → p.length ≤ 1099511627776 := tot_mem (by omega)
  simp only [new_eq, og_some', onr_ret, gval_true, gval_false, pickV_true, pickV_false, apick_true, apick_false, gpick_true, gpick_false, ibin_leq, ibin_geq, ibin_lss, ibin_gtr, ibin_eql, ibin_neq, sbin_eql, sbin_neq, aun_not, Bool.not_true, Bool.not_false, decide_true, decide_false, if_true, if_false, Bool.false_eq_true, fldA_ptr, fldA_rop, anil_ptr, lenStr_str, amm_max, amm_min, Nat.zero_add, Nat.add_zero, List.length_cons, List.length_nil, Nat.reduceAdd]
  intro φ4 h4
  refine put_new4 h4 rfl rfl fun σ2 s2 f4 k2 => ?_
  have e := lodA_at (st := 0) (i := 0) (n := 2) (cs := [iv size, roP ps]) (s2.at f1) rfl rfl rfl
  simp only [e, og_some', onr_ret, gval_true, gval_false, pickV_true, pickV_false, apick_true, apick_false, gpick_true, gpick_false, ibin_leq, ibin_geq, ibin_lss, ibin_gtr, ibin_eql, ibin_neq, sbin_eql, sbin_neq, aun_not, Bool.not_true, Bool.not_false, decide_true, decide_false, if_true, if_false, Bool.false_eq_true, fldA_ptr, fldA_rop, anil_ptr, lenStr_str, amm_max, amm_min, Nat.zero_add, Nat.add_zero, List.length_cons, List.length_nil, Nat.reduceAdd]
  refine c_laws_toSegs (Ps.ro ..) b1 b2 fun x0 σ3 qs s3 hq x0B => ?_
  simp only [new_eq, og_some', onr_ret, gval_true, gval_false, pickV_true, pickV_false, apick_true, apick_false, gpick_true, gpick_false, ibin_leq, ibin_geq, ibin_lss, ibin_gtr, ibin_eql, ibin_neq, sbin_eql, sbin_neq, aun_not, Bool.not_true, Bool.not_false, decide_true, decide_false, if_true, if_false, Bool.false_eq_true, fldA_ptr, fldA_rop, anil_ptr, lenStr_str, amm_max, amm_min, Nat.zero_add, Nat.add_zero, List.length_cons, List.length_nil, Nat.reduceAdd]
  intro φ5 h5
  refine put_new h5 rfl rfl (one2 x0B.out.one.2) fun σ4 s4 f5 k4 => ?_
  have e := lodA_at (st := 0) (i := 0) (n := 2) (cs := [iv size, x0]) f5 rfl rfl rfl
  simp only [e, og_some', onr_ret, gval_true, gval_false, pickV_true, pickV_false, apick_true, apick_false, gpick_true, gpick_false, ibin_leq, ibin_geq, ibin_lss, ibin_gtr, ibin_eql, ibin_neq, sbin_eql, sbin_neq, aun_not, Bool.not_true, Bool.not_false, decide_true, decide_false, if_true, if_false, Bool.false_eq_true, fldA_ptr, fldA_rop, anil_ptr, lenStr_str, amm_max, amm_min, Nat.zero_add, Nat.add_zero, List.length_cons, List.length_nil, Nat.reduceAdd]
  have x0B4 : PB σ4 x0 qs := (x0B.sub (dif_sub _ _)).sub s4
  have x0P4 : Ps σ4 x0 ps := hq ▸ x0B4.ps
  refine c_impl_PushSegs x0P4 b3 fun σ5 r' g gs s5 gB hgs hR' => ?_
  obtain rfl := hR.unique hR'
  simp only [new_eq, og_some', onr_ret, gval_true, gval_false, pickV_true, pickV_false, apick_true, apick_false, gpick_true, gpick_false, ibin_leq, ibin_geq, ibin_lss, ibin_gtr, ibin_eql, ibin_neq, sbin_eql, sbin_neq, aun_not, Bool.not_true, Bool.not_false, decide_true, decide_false, if_true, if_false, Bool.false_eq_true, fldA_ptr, fldA_rop, anil_ptr, lenStr_str, amm_max, amm_min, Nat.zero_add, Nat.add_zero, List.length_cons, List.length_nil, Nat.reduceAdd]
  intro φ6 h6
  refine put_new4 h6 rfl gB.out.one.2 fun σ6 s6 f6 k6 => ?_
  have e6 := lodA_at (st := 0) (i := 0) (n := 4) (cs := [iv r.c, iv r.v, iv r.s, g]) f6 rfl rfl rfl
  have s26 := ((s3.trans s4).trans s5).trans s6
  have f4' := s26.at f4
  have f1' := (s2.trans s26).at f1
  have f5' := (s5.trans s6).at f5
  have e4 := lodA_at (st := 0) (i := 0) (n := 4) (cs := [iv r.c, iv r.v, iv r.s, roP r.ps]) f4' rfl rfl rfl
  have e5 := lodA_at (st := 0) (i := 0) (n := 2) (cs := [iv size, x0]) f5' rfl rfl rfl
  have e1 := lodA_at (st := 0) (i := 0) (n := 2) (cs := [iv size, roP ps]) f1' rfl rfl rfl
  have gB6 : PB σ6 g gs := (gB.sub (dif_sub _ _)).sub s6
  have gP6 : Ps σ6 g r.ps := hgs ▸ gB6.ps
  simp only [e6, e4, og_some', onr_ret, gval_true, gval_false, pickV_true, pickV_false, apick_true, apick_false, gpick_true, gpick_false, ibin_leq, ibin_geq, ibin_lss, ibin_gtr, ibin_eql, ibin_neq, sbin_eql, sbin_neq, aun_not, Bool.not_true, Bool.not_false, decide_true, decide_false, if_true, if_false, Bool.false_eq_true, fldA_ptr, fldA_rop, anil_ptr, lenStr_str, amm_max, amm_min, Nat.zero_add, Nat.add_zero, List.length_cons, List.length_nil, Nat.reduceAdd]
  refine c_laws_eqSegsResult gP6 (Ps.ro ..) rb1 rb2 ?_
  simp only [Bool.and_self, e5, e1, og_some', onr_ret, gval_true, gval_false, pickV_true, pickV_false, apick_true, apick_false, gpick_true, gpick_false, ibin_leq, ibin_geq, ibin_lss, ibin_gtr, ibin_eql, ibin_neq, sbin_eql, sbin_neq, aun_not, Bool.not_true, Bool.not_false, decide_true, decide_false, if_true, if_false, Bool.false_eq_true, fldA_ptr, fldA_rop, anil_ptr, lenStr_str, amm_max, amm_min, Nat.zero_add, Nat.add_zero, List.length_cons, List.length_nil, Nat.reduceAdd]
  refine c_laws_toSegs_ro (Ps.ro ..) b1 b2 ?_
  have x0B6 : PB σ6 x0 qs := x0B4.sub (s5.trans s6)
  have x0P6 : Ps σ6 x0 ps := hq ▸ x0B6.ps
  simp only [e5, true_and, og_some', onr_ret, gval_true, gval_false, pickV_true, pickV_false, apick_true, apick_false, gpick_true, gpick_false, ibin_leq, ibin_geq, ibin_lss, ibin_gtr, ibin_eql, ibin_neq, sbin_eql, sbin_neq, aun_not, Bool.not_true, Bool.not_false, decide_true, decide_false, if_true, if_false, Bool.false_eq_true, fldA_ptr, fldA_rop, anil_ptr, lenStr_str, amm_max, amm_min, Nat.zero_add, Nat.add_zero, List.length_cons, List.length_nil, Nat.reduceAdd]
  refine c_laws_eqSegs x0P6 (Ps.ro ..) b1 b2 ?_
  simp only [Bool.and_self, e5, true_and, og_some', onr_ret, gval_true, gval_false, pickV_true, pickV_false, apick_true, apick_false, gpick_true, gpick_false, ibin_leq, ibin_geq, ibin_lss, ibin_gtr, ibin_eql, ibin_neq, sbin_eql, sbin_neq, aun_not, Bool.not_true, Bool.not_false, decide_true, decide_false, if_true, if_false, Bool.false_eq_true, fldA_ptr, fldA_rop, anil_ptr, lenStr_str, amm_max, amm_min, Nat.zero_add, Nat.add_zero, List.length_cons, List.length_nil, Nat.reduceAdd]
  refine c_laws_markSegs x0B6 (by omega) (by have := congrArg List.length hq; simp at this; omega) (by rw [hq]; omega) fun σ7 _ m7 => ?_
  rw [hq]
  -- what is not x0's stays
  have keep : ∀ χ F, σ6 χ = some F → (σ2 χ ≠ none ∨ σ3 χ = none) → σ7 χ = some F := by
    intro χ F hF hor
    rw [m7 χ ?_ (by rw [hF]; simp)]; · exact hF
    intro q hqm hf
    obtain ⟨d1, d2⟩ := x0B.new (.inr ⟨q, hqm, hf⟩)
    rcases hor with h | h
    · exact h d1
    · exact d2 h
  have F1 := keep φ1 _ f1' (.inl (by rw [s2.at f1]; simp))
  have F4 := keep φ4 _ f4' (.inl (by rw [f4]; simp))
  have h56 : σ3 φ6 = none := (s4.trans s5).none h6
  have F6 := keep φ6 _ f6 (.inr h56)
  have gB7 : PB σ7 g gs := gB6.keep fun χ hf => by
    obtain ⟨d1, d2⟩ := gB.new hf
    obtain ⟨F, hF, _⟩ := gB6.foot hf
    rw [hF]; exact keep χ F hF (.inr (s4.none d1))
  have gP7 : Ps σ7 g r.ps := hgs ▸ gB7.ps
  have E4 := lodA_at (st := 0) (i := 0) (n := 4) (cs := [iv r.c, iv r.v, iv r.s, roP r.ps]) F4 rfl rfl rfl
  have E6 := lodA_at (st := 0) (i := 0) (n := 4) (cs := [iv r.c, iv r.v, iv r.s, g]) F6 rfl rfl rfl
  have g36 : ¬ 1 + (tot ps : Int) < 0 := by omega
  simp only [jn, g36, E6, E4, og_some', onr_ret, gval_true, gval_false, pickV_true, pickV_false, apick_true, apick_false, gpick_true, gpick_false, ibin_leq, ibin_geq, ibin_lss, ibin_gtr, ibin_eql, ibin_neq, sbin_eql, sbin_neq, aun_not, Bool.not_true, Bool.not_false, decide_true, decide_false, if_true, if_false, Bool.false_eq_true, fldA_ptr, fldA_rop, anil_ptr, lenStr_str, amm_max, amm_min, Nat.zero_add, Nat.add_zero, List.length_cons, List.length_nil, Nat.reduceAdd]
  refine c_laws_eqSegsResult gP7 (Ps.ro ..) rb1 rb2 ?_
  simp only [Bool.and_self, E6, og_some', onr_ret, gval_true, gval_false, pickV_true, pickV_false, apick_true, apick_false, gpick_true, gpick_false, ibin_leq, ibin_geq, ibin_lss, ibin_gtr, ibin_eql, ibin_neq, sbin_eql, sbin_neq, aun_not, Bool.not_true, Bool.not_false, decide_true, decide_false, if_true, if_false, Bool.false_eq_true, fldA_ptr, fldA_rop, anil_ptr, lenStr_str, amm_max, amm_min, Nat.zero_add, Nat.add_zero, List.length_cons, List.length_nil, Nat.reduceAdd]
  have hgl : gs.length = r.ps.length := by rw [← hgs]; simp
  refine c_laws_markSegsResult gB7 (by omega) (by omega) (by rw [hgs]; omega) fun σ8 gB8 m8 => ?_
  rw [hgs]
  have keep8 : ∀ χ F, σ7 χ = some F → (σ4 χ ≠ none ∨ σ5 χ = none) → σ8 χ = some F := by
    intro χ F hF hor
    rw [m8 χ ?_ (by rw [hF]; simp)]; · exact hF
    intro hf
    obtain ⟨d1, d2⟩ := gB.new hf
    rcases hor with h | h
    · exact h d1
    · exact d2 h
  have K1 := keep8 φ1 _ F1 (.inl (by rw [(s3.trans s4).at (s2.at f1)]; simp))
  have K4 := keep8 φ4 _ F4 (.inl (by rw [(s3.trans s4).at f4]; simp))
  have K6 := keep8 φ6 _ F6 (.inr h6)
  have L4 := lodA_at (st := 0) (i := 0) (n := 4) (cs := [iv r.c, iv r.v, iv r.s, roP r.ps]) K4 rfl rfl rfl
  have L6 := lodA_at (st := 0) (i := 0) (n := 4) (cs := [iv r.c, iv r.v, iv r.s, g]) K6 rfl rfl rfl
  have L1 := lodA_at (st := 0) (i := 0) (n := 2) (cs := [iv size, roP ps]) K1 rfl rfl rfl
  have gP8 : Ps σ8 g (mkl 1 (gs.map fun q => q.2.length)) := marks_mkl gs 1 ▸ gB8.ps
  have hsum : sum (gs.map fun q => q.2.length) = tot r.ps := by rw [sum_tot, hgs]
  have hb : (1 : Int) + (gs.map fun q => q.2.length).length + sum (gs.map fun q => q.2.length) ≤ 1099511627776 := by rw [hsum, List.length_map]; omega
  simp only [L6, og_some', onr_ret, gval_true, gval_false, pickV_true, pickV_false, apick_true, apick_false, gpick_true, gpick_false, ibin_leq, ibin_geq, ibin_lss, ibin_gtr, ibin_eql, ibin_neq, sbin_eql, sbin_neq, aun_not, Bool.not_true, Bool.not_false, decide_true, decide_false, if_true, if_false, Bool.false_eq_true, fldA_ptr, fldA_rop, anil_ptr, lenStr_str, amm_max, amm_min, Nat.zero_add, Nat.add_zero, List.length_cons, List.length_nil, Nat.reduceAdd]
  refine c_laws_heldSegsResult gP8 (by omega) hb ?_
  rw [hsum]
  have g50 : ¬ 1 + (tot r.ps : Int) < 0 := by omega
  simp only [g50, L1, og_some', onr_ret, gval_true, gval_false, pickV_true, pickV_false, apick_true, apick_false, gpick_true, gpick_false, ibin_leq, ibin_geq, ibin_lss, ibin_gtr, ibin_eql, ibin_neq, sbin_eql, sbin_neq, aun_not, Bool.not_true, Bool.not_false, decide_true, decide_false, if_true, if_false, Bool.false_eq_true, fldA_ptr, fldA_rop, anil_ptr, lenStr_str, amm_max, amm_min, Nat.zero_add, Nat.add_zero, List.length_cons, List.length_nil, Nat.reduceAdd]
  refine c_laws_toSegs_ro (Ps.ro ..) b1 b2 ?_
  simp only [og_some', onr_ret, gval_true, gval_false, pickV_true, pickV_false, apick_true, apick_false, gpick_true, gpick_false, ibin_leq, ibin_geq, ibin_lss, ibin_gtr, ibin_eql, ibin_neq, sbin_eql, sbin_neq, aun_not, Bool.not_true, Bool.not_false, decide_true, decide_false, if_true, if_false, Bool.false_eq_true, fldA_ptr, fldA_rop, anil_ptr, lenStr_str, amm_max, amm_min, Nat.zero_add, Nat.add_zero, List.length_cons, List.length_nil, Nat.reduceAdd]
  refine c_impl_PushSegs (Ps.ro ..) b3 fun σ9 r2 g2 gs2 s9 gB9 hgs2 hR2 => ?_
  obtain rfl := hR.unique hR2
  simp only [new_eq, og_some', onr_ret, gval_true, gval_false, pickV_true, pickV_false, apick_true, apick_false, gpick_true, gpick_false, ibin_leq, ibin_geq, ibin_lss, ibin_gtr, ibin_eql, ibin_neq, sbin_eql, sbin_neq, aun_not, Bool.not_true, Bool.not_false, decide_true, decide_false, if_true, if_false, Bool.false_eq_true, fldA_ptr, fldA_rop, anil_ptr, lenStr_str, amm_max, amm_min, Nat.zero_add, Nat.add_zero, List.length_cons, List.length_nil, Nat.reduceAdd]
  intro φ10 h10
  refine put_new4 h10 rfl gB9.out.one.2 fun σ10 s10 f10 k10 => ?_
  have e10 := lodA_at (st := 0) (i := 0) (n := 4) (cs := [iv r.c, iv r.v, iv r.s, g2]) f10 rfl rfl rfl
  have M4 := lodA_at (st := 0) (i := 0) (n := 4) (cs := [iv r.c, iv r.v, iv r.s, roP r.ps]) ((s9.trans s10).at K4) rfl rfl rfl
  have M6 := lodA_at (st := 0) (i := 0) (n := 4) (cs := [iv r.c, iv r.v, iv r.s, g]) ((s9.trans s10).at K6) rfl rfl rfl
  have hP : Ps σ10 g2 r.ps := hgs2 ▸ ((gB9.sub (dif_sub _ _)).sub s10).ps
  simp only [e10, M4, og_some', onr_ret, gval_true, gval_false, pickV_true, pickV_false, apick_true, apick_false, gpick_true, gpick_false, ibin_leq, ibin_geq, ibin_lss, ibin_gtr, ibin_eql, ibin_neq, sbin_eql, sbin_neq, aun_not, Bool.not_true, Bool.not_false, decide_true, decide_false, if_true, if_false, Bool.false_eq_true, fldA_ptr, fldA_rop, anil_ptr, lenStr_str, amm_max, amm_min, Nat.zero_add, Nat.add_zero, List.length_cons, List.length_nil, Nat.reduceAdd]
  refine c_laws_eqSegsResult hP (Ps.ro ..) rb1 rb2 ?_
  simp only [Bool.and_self, M6, og_some', onr_ret, gval_true, gval_false, pickV_true, pickV_false, apick_true, apick_false, gpick_true, gpick_false, ibin_leq, ibin_geq, ibin_lss, ibin_gtr, ibin_eql, ibin_neq, sbin_eql, sbin_neq, aun_not, Bool.not_true, Bool.not_false, decide_true, decide_false, if_true, if_false, Bool.false_eq_true, fldA_ptr, fldA_rop, anil_ptr, lenStr_str, amm_max, amm_min, Nat.zero_add, Nat.add_zero, List.length_cons, List.length_nil, Nat.reduceAdd]
  refine c_laws_heldSegsResult (gP8.sub (s9.trans s10)) (by omega) hb ?_
  rw [hsum]
  simp only [g50, og_some', onr_ret, gval_true, gval_false, pickV_true, pickV_false, apick_true, apick_false, gpick_true, gpick_false, ibin_leq, ibin_geq, ibin_lss, ibin_gtr, ibin_eql, ibin_neq, sbin_eql, sbin_neq, aun_not, Bool.not_true, Bool.not_false, decide_true, decide_false, if_true, if_false, Bool.false_eq_true, fldA_ptr, fldA_rop, anil_ptr, lenStr_str, amm_max, amm_min, Nat.zero_add, Nat.add_zero, List.length_cons, List.length_nil, Nat.reduceAdd]
  -- the caller's heap is as it was
  refine aret_sub (σ' := σ) ?_ h
  intro χ F hF
  have a1 := hs1 χ F hF
  have a2 := s2.at a1
  have a6 := s26.at a2
  have a7 := keep χ F a6 (.inl (by rw [a2]; simp))
  exact (s9.trans s10).at (keep8 χ F a7 (.inl (by rw [(s3.trans s4).at a2]; simp)))
set_option maxRecDepth 100000 in
theorem c_laws_FnExactResizeSegs {size : Int} {x : Int} {ps : List (List Int)} (hl : ps.length ≤ maxLen) (hm : ∀ p, p ∈ ps → p.length ≤ maxLen)
    (h : R (.ret (bv true)) σ) : acall TP fn_laws_FnExactResizeSegs [roG size ps, iv x] σ R := by
  refine s_laws_FnExactResizeSegs_ok ?_
  unfold s_laws_FnExactResizeSegs
  simp only [abox_agg, og_some', onr_ret, gval_true, gval_false, pickV_true, pickV_false, apick_true, apick_false, gpick_true, gpick_false, ibin_leq, ibin_geq, ibin_lss, ibin_gtr, ibin_eql, ibin_neq, sbin_eql, sbin_neq, aun_not, Bool.not_true, Bool.not_false, decide_true, decide_false, if_true, if_false, Bool.false_eq_true, fldA_ptr, fldA_rop, anil_ptr, lenStr_str, amm_max, amm_min, Nat.zero_add, Nat.add_zero, List.length_cons, List.length_nil, Nat.reduceAdd]
  intro φ1 h1
  have hs1 : AH.Sub σ (σ.set φ1 ⟨0, 2, [[iv size, roP ps]]⟩) := sub_set (.refl σ) h1
  have f1 : (σ.set φ1 ⟨0, 2, [[iv size, roP ps]]⟩) φ1 = some ⟨0, 2, [[iv size, roP ps]]⟩ := AH.set_same ..
  generalize hg1 : σ.set φ1 ⟨0, 2, [[iv size, roP ps]]⟩ = σ1 at hs1 f1 ⊢
  clear hg1
  have e := lodA_at (st := 0) (i := 0) (n := 2) (cs := [iv size, roP ps]) f1 rfl rfl rfl
  simp only [e, og_some', onr_ret, gval_true, gval_false, pickV_true, pickV_false, apick_true, apick_false, gpick_true, gpick_false, ibin_leq, ibin_geq, ibin_lss, ibin_gtr, ibin_eql, ibin_neq, sbin_eql, sbin_neq, aun_not, Bool.not_true, Bool.not_false, decide_true, decide_false, if_true, if_false, Bool.false_eq_true, fldA_ptr, fldA_rop, anil_ptr, lenStr_str, amm_max, amm_min, Nat.zero_add, Nat.add_zero, List.length_cons, List.length_nil, Nat.reduceAdd]
  refine c_laws_szSegs (Ps.ro ..) (by omega) (by omega) hl hm fun r0 r00 r01 r02 => ?_
  simp only [og_some', onr_ret, gval_true, gval_false, pickV_true, pickV_false, apick_true, apick_false, gpick_true, gpick_false, ibin_leq, ibin_geq, ibin_lss, ibin_gtr, ibin_eql, ibin_neq, sbin_eql, sbin_neq, aun_not, Bool.not_true, Bool.not_false, decide_true, decide_false, if_true, if_false, Bool.false_eq_true, fldA_ptr, fldA_rop, anil_ptr, lenStr_str, amm_max, amm_min, Nat.zero_add, Nat.add_zero, List.length_cons, List.length_nil, Nat.reduceAdd]
  by_cases c1 : r0 < 0
  · simp only [c1, og_some', onr_ret, gval_true, gval_false, pickV_true, pickV_false, apick_true, apick_false, gpick_true, gpick_false, ibin_leq, ibin_geq, ibin_lss, ibin_gtr, ibin_eql, ibin_neq, sbin_eql, sbin_neq, aun_not, Bool.not_true, Bool.not_false, decide_true, decide_false, if_true, if_false, Bool.false_eq_true, fldA_ptr, fldA_rop, anil_ptr, lenStr_str, amm_max, amm_min, Nat.zero_add, Nat.add_zero, List.length_cons, List.length_nil, Nat.reduceAdd]; exact aret_sub hs1 h
  simp only [c1, e, og_some', onr_ret, gval_true, gval_false, pickV_true, pickV_false, apick_true, apick_false, gpick_true, gpick_false, ibin_leq, ibin_geq, ibin_lss, ibin_gtr, ibin_eql, ibin_neq, sbin_eql, sbin_neq, aun_not, Bool.not_true, Bool.not_false, decide_true, decide_false, if_true, if_false, Bool.false_eq_true, fldA_ptr, fldA_rop, anil_ptr, lenStr_str, amm_max, amm_min, Nat.zero_add, Nat.add_zero, List.length_cons, List.length_nil, Nat.reduceAdd]
  have b1 : ps.length ≤ 1099511627776 := by omega
  have b2 : ∀ p, p ∈ ps → p.length ≤ 1099511627776 := tot_mem (by omega)
  have b3 : ps.length + tot ps ≤ 1099511627776 := by omega
  have b5 : (tot ps : Int) ≤ 1048576 := by omega
  refine c_laws_toSegs_ro (Ps.ro ..) b1 b2 ?_
  simp only [og_some', onr_ret, gval_true, gval_false, pickV_true, pickV_false, apick_true, apick_false, gpick_true, gpick_false, ibin_leq, ibin_geq, ibin_lss, ibin_gtr, ibin_eql, ibin_neq, sbin_eql, sbin_neq, aun_not, Bool.not_true, Bool.not_false, decide_true, decide_false, if_true, if_false, Bool.false_eq_true, fldA_ptr, fldA_rop, anil_ptr, lenStr_str, amm_max, amm_min, Nat.zero_add, Nat.add_zero, List.length_cons, List.length_nil, Nat.reduceAdd]
  refine c_spec_ResizeSegs (Ps.ro ..) b3 fun r hR => ?_
  have hsm : r.ps.length + tot r.ps ≤ 8000 := hR.small
  have rb1 : r.ps.length ≤ 1099511627776 := by omega
  have rb2 : ∀ p, p ∈ r.ps → p.length ≤ 1099511627776 := tot_mem (by omega)
  simp only [new_eq, og_some', onr_ret, gval_true, gval_false, pickV_true, pickV_false, apick_true, apick_false, gpick_true, gpick_false, ibin_leq, ibin_geq, ibin_lss, ibin_gtr, ibin_eql, ibin_neq, sbin_eql, sbin_neq, aun_not, Bool.not_true, Bool.not_false, decide_true, decide_false, if_true, if_false, Bool.false_eq_true, fldA_ptr, fldA_rop, anil_ptr, lenStr_str, amm_max, amm_min, Nat.zero_add, Nat.add_zero, List.length_cons, List.length_nil, Nat.reduceAdd]
  intro φ4 h4
  refine put_new4 h4 rfl rfl fun σ2 s2 f4 k2 => ?_
  have e := lodA_at (st := 0) (i := 0) (n := 2) (cs := [iv size, roP ps]) (s2.at f1) rfl rfl rfl
  simp only [e, og_some', onr_ret, gval_true, gval_false, pickV_true, pickV_false, apick_true, apick_false, gpick_true, gpick_false, ibin_leq, ibin_geq, ibin_lss, ibin_gtr, ibin_eql, ibin_neq, sbin_eql, sbin_neq, aun_not, Bool.not_true, Bool.not_false, decide_true, decide_false, if_true, if_false, Bool.false_eq_true, fldA_ptr, fldA_rop, anil_ptr, lenStr_str, amm_max, amm_min, Nat.zero_add, Nat.add_zero, List.length_cons, List.length_nil, Nat.reduceAdd]
  refine c_laws_toSegs (Ps.ro ..) b1 b2 fun x0 σ3 qs s3 hq x0B => ?_
  simp only [new_eq, og_some', onr_ret, gval_true, gval_false, pickV_true, pickV_false, apick_true, apick_false, gpick_true, gpick_false, ibin_leq, ibin_geq, ibin_lss, ibin_gtr, ibin_eql, ibin_neq, sbin_eql, sbin_neq, aun_not, Bool.not_true, Bool.not_false, decide_true, decide_false, if_true, if_false, Bool.false_eq_true, fldA_ptr, fldA_rop, anil_ptr, lenStr_str, amm_max, amm_min, Nat.zero_add, Nat.add_zero, List.length_cons, List.length_nil, Nat.reduceAdd]
  intro φ5 h5
  refine put_new h5 rfl rfl (one2 x0B.out.one.2) fun σ4 s4 f5 k4 => ?_
  have e := lodA_at (st := 0) (i := 0) (n := 2) (cs := [iv size, x0]) f5 rfl rfl rfl
  simp only [e, og_some', onr_ret, gval_true, gval_false, pickV_true, pickV_false, apick_true, apick_false, gpick_true, gpick_false, ibin_leq, ibin_geq, ibin_lss, ibin_gtr, ibin_eql, ibin_neq, sbin_eql, sbin_neq, aun_not, Bool.not_true, Bool.not_false, decide_true, decide_false, if_true, if_false, Bool.false_eq_true, fldA_ptr, fldA_rop, anil_ptr, lenStr_str, amm_max, amm_min, Nat.zero_add, Nat.add_zero, List.length_cons, List.length_nil, Nat.reduceAdd]
  have x0B4 : PB σ4 x0 qs := (x0B.sub (dif_sub _ _)).sub s4
  have x0P4 : Ps σ4 x0 ps := hq ▸ x0B4.ps
  refine c_impl_ResizeSegs x0P4 b3 fun σ5 r' g gs s5 gB hgs hR' => ?_
  obtain rfl := hR.unique hR'
  simp only [new_eq, og_some', onr_ret, gval_true, gval_false, pickV_true, pickV_false, apick_true, apick_false, gpick_true, gpick_false, ibin_leq, ibin_geq, ibin_lss, ibin_gtr, ibin_eql, ibin_neq, sbin_eql, sbin_neq, aun_not, Bool.not_true, Bool.not_false, decide_true, decide_false, if_true, if_false, Bool.false_eq_true, fldA_ptr, fldA_rop, anil_ptr, lenStr_str, amm_max, amm_min, Nat.zero_add, Nat.add_zero, List.length_cons, List.length_nil, Nat.reduceAdd]
  intro φ6 h6
  refine put_new4 h6 rfl gB.out.one.2 fun σ6 s6 f6 k6 => ?_
  have e6 := lodA_at (st := 0) (i := 0) (n := 4) (cs := [iv r.c, iv r.v, iv r.s, g]) f6 rfl rfl rfl
  have s26 := ((s3.trans s4).trans s5).trans s6
  have f4' := s26.at f4
  have f1' := (s2.trans s26).at f1
  have f5' := (s5.trans s6).at f5
  have e4 := lodA_at (st := 0) (i := 0) (n := 4) (cs := [iv r.c, iv r.v, iv r.s, roP r.ps]) f4' rfl rfl rfl
  have e5 := lodA_at (st := 0) (i := 0) (n := 2) (cs := [iv size, x0]) f5' rfl rfl rfl
  have e1 := lodA_at (st := 0) (i := 0) (n := 2) (cs := [iv size, roP ps]) f1' rfl rfl rfl
  have gB6 : PB σ6 g gs := (gB.sub (dif_sub _ _)).sub s6
  have gP6 : Ps σ6 g r.ps := hgs ▸ gB6.ps
  simp only [e6, e4, og_some', onr_ret, gval_true, gval_false, pickV_true, pickV_false, apick_true, apick_false, gpick_true, gpick_false, ibin_leq, ibin_geq, ibin_lss, ibin_gtr, ibin_eql, ibin_neq, sbin_eql, sbin_neq, aun_not, Bool.not_true, Bool.not_false, decide_true, decide_false, if_true, if_false, Bool.false_eq_true, fldA_ptr, fldA_rop, anil_ptr, lenStr_str, amm_max, amm_min, Nat.zero_add, Nat.add_zero, List.length_cons, List.length_nil, Nat.reduceAdd]
  refine c_laws_eqSegsResult gP6 (Ps.ro ..) rb1 rb2 ?_
  simp only [Bool.and_self, e5, e1, og_some', onr_ret, gval_true, gval_false, pickV_true, pickV_false, apick_true, apick_false, gpick_true, gpick_false, ibin_leq, ibin_geq, ibin_lss, ibin_gtr, ibin_eql, ibin_neq, sbin_eql, sbin_neq, aun_not, Bool.not_true, Bool.not_false, decide_true, decide_false, if_true, if_false, Bool.false_eq_true, fldA_ptr, fldA_rop, anil_ptr, lenStr_str, amm_max, amm_min, Nat.zero_add, Nat.add_zero, List.length_cons, List.length_nil, Nat.reduceAdd]
  refine c_laws_toSegs_ro (Ps.ro ..) b1 b2 ?_
  have x0B6 : PB σ6 x0 qs := x0B4.sub (s5.trans s6)
  have x0P6 : Ps σ6 x0 ps := hq ▸ x0B6.ps
  simp only [e5, true_and, og_some', onr_ret, gval_true, gval_false, pickV_true, pickV_false, apick_true, apick_false, gpick_true, gpick_false, ibin_leq, ibin_geq, ibin_lss, ibin_gtr, ibin_eql, ibin_neq, sbin_eql, sbin_neq, aun_not, Bool.not_true, Bool.not_false, decide_true, decide_false, if_true, if_false, Bool.false_eq_true, fldA_ptr, fldA_rop, anil_ptr, lenStr_str, amm_max, amm_min, Nat.zero_add, Nat.add_zero, List.length_cons, List.length_nil, Nat.reduceAdd]
  refine c_laws_eqSegs x0P6 (Ps.ro ..) b1 b2 ?_
  simp only [Bool.and_self, e5, true_and, og_some', onr_ret, gval_true, gval_false, pickV_true, pickV_false, apick_true, apick_false, gpick_true, gpick_false, ibin_leq, ibin_geq, ibin_lss, ibin_gtr, ibin_eql, ibin_neq, sbin_eql, sbin_neq, aun_not, Bool.not_true, Bool.not_false, decide_true, decide_false, if_true, if_false, Bool.false_eq_true, fldA_ptr, fldA_rop, anil_ptr, lenStr_str, amm_max, amm_min, Nat.zero_add, Nat.add_zero, List.length_cons, List.length_nil, Nat.reduceAdd]
  refine c_laws_markSegs x0B6 (by omega) (by have := congrArg List.length hq; simp at this; omega) (by rw [hq]; omega) fun σ7 _ m7 => ?_
  rw [hq]
  -- what is not x0's stays
  have keep : ∀ χ F, σ6 χ = some F → (σ2 χ ≠ none ∨ σ3 χ = none) → σ7 χ = some F := by
    intro χ F hF hor
    rw [m7 χ ?_ (by rw [hF]; simp)]; · exact hF
    intro q hqm hf
    obtain ⟨d1, d2⟩ := x0B.new (.inr ⟨q, hqm, hf⟩)
    rcases hor with h | h
    · exact h d1
    · exact d2 h
  have F1 := keep φ1 _ f1' (.inl (by rw [s2.at f1]; simp))
  have F4 := keep φ4 _ f4' (.inl (by rw [f4]; simp))
  have h56 : σ3 φ6 = none := (s4.trans s5).none h6
  have F6 := keep φ6 _ f6 (.inr h56)
  have gB7 : PB σ7 g gs := gB6.keep fun χ hf => by
    obtain ⟨d1, d2⟩ := gB.new hf
    obtain ⟨F, hF, _⟩ := gB6.foot hf
    rw [hF]; exact keep χ F hF (.inr (s4.none d1))
  have gP7 : Ps σ7 g r.ps := hgs ▸ gB7.ps
  have E4 := lodA_at (st := 0) (i := 0) (n := 4) (cs := [iv r.c, iv r.v, iv r.s, roP r.ps]) F4 rfl rfl rfl
  have E6 := lodA_at (st := 0) (i := 0) (n := 4) (cs := [iv r.c, iv r.v, iv r.s, g]) F6 rfl rfl rfl
  have g36 : ¬ 1 + (tot ps : Int) < 0 := by omega
  simp only [jn, g36, E6, E4, og_some', onr_ret, gval_true, gval_false, pickV_true, pickV_false, apick_true, apick_false, gpick_true, gpick_false, ibin_leq, ibin_geq, ibin_lss, ibin_gtr, ibin_eql, ibin_neq, sbin_eql, sbin_neq, aun_not, Bool.not_true, Bool.not_false, decide_true, decide_false, if_true, if_false, Bool.false_eq_true, fldA_ptr, fldA_rop, anil_ptr, lenStr_str, amm_max, amm_min, Nat.zero_add, Nat.add_zero, List.length_cons, List.length_nil, Nat.reduceAdd]
  refine c_laws_eqSegsResult gP7 (Ps.ro ..) rb1 rb2 ?_
  simp only [Bool.and_self, E6, og_some', onr_ret, gval_true, gval_false, pickV_true, pickV_false, apick_true, apick_false, gpick_true, gpick_false, ibin_leq, ibin_geq, ibin_lss, ibin_gtr, ibin_eql, ibin_neq, sbin_eql, sbin_neq, aun_not, Bool.not_true, Bool.not_false, decide_true, decide_false, if_true, if_false, Bool.false_eq_true, fldA_ptr, fldA_rop, anil_ptr, lenStr_str, amm_max, amm_min, Nat.zero_add, Nat.add_zero, List.length_cons, List.length_nil, Nat.reduceAdd]
  have hgl : gs.length = r.ps.length := by rw [← hgs]; simp
  refine c_laws_markSegsResult gB7 (by omega) (by omega) (by rw [hgs]; omega) fun σ8 gB8 m8 => ?_
  rw [hgs]
  have keep8 : ∀ χ F, σ7 χ = some F → (σ4 χ ≠ none ∨ σ5 χ = none) → σ8 χ = some F := by
    intro χ F hF hor
    rw [m8 χ ?_ (by rw [hF]; simp)]; · exact hF
    intro hf
    obtain ⟨d1, d2⟩ := gB.new hf
    rcases hor with h | h
    · exact h d1
    · exact d2 h
  have K1 := keep8 φ1 _ F1 (.inl (by rw [(s3.trans s4).at (s2.at f1)]; simp))
  have K4 := keep8 φ4 _ F4 (.inl (by rw [(s3.trans s4).at f4]; simp))
  have K6 := keep8 φ6 _ F6 (.inr h6)
  have L4 := lodA_at (st := 0) (i := 0) (n := 4) (cs := [iv r.c, iv r.v, iv r.s, roP r.ps]) K4 rfl rfl rfl
  have L6 := lodA_at (st := 0) (i := 0) (n := 4) (cs := [iv r.c, iv r.v, iv r.s, g]) K6 rfl rfl rfl
  have L1 := lodA_at (st := 0) (i := 0) (n := 2) (cs := [iv size, roP ps]) K1 rfl rfl rfl
  have gP8 : Ps σ8 g (mkl 1 (gs.map fun q => q.2.length)) := marks_mkl gs 1 ▸ gB8.ps
  have hsum : sum (gs.map fun q => q.2.length) = tot r.ps := by rw [sum_tot, hgs]
  have hb : (1 : Int) + (gs.map fun q => q.2.length).length + sum (gs.map fun q => q.2.length) ≤ 1099511627776 := by rw [hsum, List.length_map]; omega
  simp only [L6, og_some', onr_ret, gval_true, gval_false, pickV_true, pickV_false, apick_true, apick_false, gpick_true, gpick_false, ibin_leq, ibin_geq, ibin_lss, ibin_gtr, ibin_eql, ibin_neq, sbin_eql, sbin_neq, aun_not, Bool.not_true, Bool.not_false, decide_true, decide_false, if_true, if_false, Bool.false_eq_true, fldA_ptr, fldA_rop, anil_ptr, lenStr_str, amm_max, amm_min, Nat.zero_add, Nat.add_zero, List.length_cons, List.length_nil, Nat.reduceAdd]
  refine c_laws_heldSegsResult gP8 (by omega) hb ?_
  rw [hsum]
  have g50 : ¬ 1 + (tot r.ps : Int) < 0 := by omega
  simp only [g50, L1, og_some', onr_ret, gval_true, gval_false, pickV_true, pickV_false, apick_true, apick_false, gpick_true, gpick_false, ibin_leq, ibin_geq, ibin_lss, ibin_gtr, ibin_eql, ibin_neq, sbin_eql, sbin_neq, aun_not, Bool.not_true, Bool.not_false, decide_true, decide_false, if_true, if_false, Bool.false_eq_true, fldA_ptr, fldA_rop, anil_ptr, lenStr_str, amm_max, amm_min, Nat.zero_add, Nat.add_zero, List.length_cons, List.length_nil, Nat.reduceAdd]
  refine c_laws_toSegs_ro (Ps.ro ..) b1 b2 ?_
  simp only [og_some', onr_ret, gval_true, gval_false, pickV_true, pickV_false, apick_true, apick_false, gpick_true, gpick_false, ibin_leq, ibin_geq, ibin_lss, ibin_gtr, ibin_eql, ibin_neq, sbin_eql, sbin_neq, aun_not, Bool.not_true, Bool.not_false, decide_true, decide_false, if_true, if_false, Bool.false_eq_true, fldA_ptr, fldA_rop, anil_ptr, lenStr_str, amm_max, amm_min, Nat.zero_add, Nat.add_zero, List.length_cons, List.length_nil, Nat.reduceAdd]
  refine c_impl_ResizeSegs (Ps.ro ..) b3 fun σ9 r2 g2 gs2 s9 gB9 hgs2 hR2 => ?_
  obtain rfl := hR.unique hR2
  simp only [new_eq, og_some', onr_ret, gval_true, gval_false, pickV_true, pickV_false, apick_true, apick_false, gpick_true, gpick_false, ibin_leq, ibin_geq, ibin_lss, ibin_gtr, ibin_eql, ibin_neq, sbin_eql, sbin_neq, aun_not, Bool.not_true, Bool.not_false, decide_true, decide_false, if_true, if_false, Bool.false_eq_true, fldA_ptr, fldA_rop, anil_ptr, lenStr_str, amm_max, amm_min, Nat.zero_add, Nat.add_zero, List.length_cons, List.length_nil, Nat.reduceAdd]
  intro φ10 h10
  refine put_new4 h10 rfl gB9.out.one.2 fun σ10 s10 f10 k10 => ?_
  have e10 := lodA_at (st := 0) (i := 0) (n := 4) (cs := [iv r.c, iv r.v, iv r.s, g2]) f10 rfl rfl rfl
  have M4 := lodA_at (st := 0) (i := 0) (n := 4) (cs := [iv r.c, iv r.v, iv r.s, roP r.ps]) ((s9.trans s10).at K4) rfl rfl rfl
  have M6 := lodA_at (st := 0) (i := 0) (n := 4) (cs := [iv r.c, iv r.v, iv r.s, g]) ((s9.trans s10).at K6) rfl rfl rfl
  have hP : Ps σ10 g2 r.ps := hgs2 ▸ ((gB9.sub (dif_sub _ _)).sub s10).ps
  simp only [e10, M4, og_some', onr_ret, gval_true, gval_false, pickV_true, pickV_false, apick_true, apick_false, gpick_true, gpick_false, ibin_leq, ibin_geq, ibin_lss, ibin_gtr, ibin_eql, ibin_neq, sbin_eql, sbin_neq, aun_not, Bool.not_true, Bool.not_false, decide_true, decide_false, if_true, if_false, Bool.false_eq_true, fldA_ptr, fldA_rop, anil_ptr, lenStr_str, amm_max, amm_min, Nat.zero_add, Nat.add_zero, List.length_cons, List.length_nil, Nat.reduceAdd]
  refine c_laws_eqSegsResult hP (Ps.ro ..) rb1 rb2 ?_
  simp only [Bool.and_self, M6, og_some', onr_ret, gval_true, gval_false, pickV_true, pickV_false, apick_true, apick_false, gpick_true, gpick_false, ibin_leq, ibin_geq, ibin_lss, ibin_gtr, ibin_eql, ibin_neq, sbin_eql, sbin_neq, aun_not, Bool.not_true, Bool.not_false, decide_true, decide_false, if_true, if_false, Bool.false_eq_true, fldA_ptr, fldA_rop, anil_ptr, lenStr_str, amm_max, amm_min, Nat.zero_add, Nat.add_zero, List.length_cons, List.length_nil, Nat.reduceAdd]
  refine c_laws_heldSegsResult (gP8.sub (s9.trans s10)) (by omega) hb ?_
  rw [hsum]
  simp only [g50, og_some', onr_ret, gval_true, gval_false, pickV_true, pickV_false, apick_true, apick_false, gpick_true, gpick_false, ibin_leq, ibin_geq, ibin_lss, ibin_gtr, ibin_eql, ibin_neq, sbin_eql, sbin_neq, aun_not, Bool.not_true, Bool.not_false, decide_true, decide_false, if_true, if_false, Bool.false_eq_true, fldA_ptr, fldA_rop, anil_ptr, lenStr_str, amm_max, amm_min, Nat.zero_add, Nat.add_zero, List.length_cons, List.length_nil, Nat.reduceAdd]
  -- the caller's heap is as it was
  refine aret_sub (σ' := σ) ?_ h
  intro χ F hF
  have a1 := hs1 χ F hF
  have a2 := s2.at a1
  have a6 := s26.at a2
  have a7 := keep χ F a6 (.inl (by rw [a2]; simp))
  exact (s9.trans s10).at (keep8 χ F a7 (.inl (by rw [(s3.trans s4).at a2]; simp)))
set_option maxRecDepth 100000 in
theorem c_laws_FnExactPopSegs {size : Int} {ps : List (List Int)} (hl : ps.length ≤ maxLen) (hm : ∀ p, p ∈ ps → p.length ≤ maxLen)
    (h : R (.ret (bv true)) σ) : acall TP fn_laws_FnExactPopSegs [roG size ps] σ R := by
  refine s_laws_FnExactPopSegs_ok ?_
  unfold s_laws_FnExactPopSegs
  simp only [abox_agg, og_some', onr_ret, gval_true, gval_false, pickV_true, pickV_false, apick_true, apick_false, gpick_true, gpick_false, ibin_leq, ibin_geq, ibin_lss, ibin_gtr, ibin_eql, ibin_neq, sbin_eql, sbin_neq, aun_not, Bool.not_true, Bool.not_false, decide_true, decide_false, if_true, if_false, Bool.false_eq_true, fldA_ptr, fldA_rop, anil_ptr, lenStr_str, amm_max, amm_min, Nat.zero_add, Nat.add_zero, List.length_cons, List.length_nil, Nat.reduceAdd]
  intro φ1 h1
  have hs1 : AH.Sub σ (σ.set φ1 ⟨0, 2, [[iv size, roP ps]]⟩) := sub_set (.refl σ) h1
  have f1 : (σ.set φ1 ⟨0, 2, [[iv size, roP ps]]⟩) φ1 = some ⟨0, 2, [[iv size, roP ps]]⟩ := AH.set_same ..
  generalize hg1 : σ.set φ1 ⟨0, 2, [[iv size, roP ps]]⟩ = σ1 at hs1 f1 ⊢
  clear hg1
  have e := lodA_at (st := 0) (i := 0) (n := 2) (cs := [iv size, roP ps]) f1 rfl rfl rfl
  simp only [e, og_some', onr_ret, gval_true, gval_false, pickV_true, pickV_false, apick_true, apick_false, gpick_true, gpick_false, ibin_leq, ibin_geq, ibin_lss, ibin_gtr, ibin_eql, ibin_neq, sbin_eql, sbin_neq, aun_not, Bool.not_true, Bool.not_false, decide_true, decide_false, if_true, if_false, Bool.false_eq_true, fldA_ptr, fldA_rop, anil_ptr, lenStr_str, amm_max, amm_min, Nat.zero_add, Nat.add_zero, List.length_cons, List.length_nil, Nat.reduceAdd]
  refine c_laws_szSegs (Ps.ro ..) (by omega) (by omega) hl hm fun r0 r00 r01 r02 => ?_
  simp only [og_some', onr_ret, gval_true, gval_false, pickV_true, pickV_false, apick_true, apick_false, gpick_true, gpick_false, ibin_leq, ibin_geq, ibin_lss, ibin_gtr, ibin_eql, ibin_neq, sbin_eql, sbin_neq, aun_not, Bool.not_true, Bool.not_false, decide_true, decide_false, if_true, if_false, Bool.false_eq_true, fldA_ptr, fldA_rop, anil_ptr, lenStr_str, amm_max, amm_min, Nat.zero_add, Nat.add_zero, List.length_cons, List.length_nil, Nat.reduceAdd]
  by_cases c1 : r0 < 0
  · simp only [c1, og_some', onr_ret, gval_true, gval_false, pickV_true, pickV_false, apick_true, apick_false, gpick_true, gpick_false, ibin_leq, ibin_geq, ibin_lss, ibin_gtr, ibin_eql, ibin_neq, sbin_eql, sbin_neq, aun_not, Bool.not_true, Bool.not_false, decide_true, decide_false, if_true, if_false, Bool.false_eq_true, fldA_ptr, fldA_rop, anil_ptr, lenStr_str, amm_max, amm_min, Nat.zero_add, Nat.add_zero, List.length_cons, List.length_nil, Nat.reduceAdd]; exact aret_sub hs1 h
  simp only [c1, e, og_some', onr_ret, gval_true, gval_false, pickV_true, pickV_false, apick_true, apick_false, gpick_true, gpick_false, ibin_leq, ibin_geq, ibin_lss, ibin_gtr, ibin_eql, ibin_neq, sbin_eql, sbin_neq, aun_not, Bool.not_true, Bool.not_false, decide_true, decide_false, if_true, if_false, Bool.false_eq_true, fldA_ptr, fldA_rop, anil_ptr, lenStr_str, amm_max, amm_min, Nat.zero_add, Nat.add_zero, List.length_cons, List.length_nil, Nat.reduceAdd]
  have b1 : ps.length ≤ 1099511627776 := by omega
  have b2 : ∀ p, p ∈ ps → p.length ≤ 1099511627776 := tot_mem (by omega)
  have b3 : ps.length + tot ps ≤ 1099511627776 := by omega
  have b5 : (tot ps : Int) ≤ 1048576 := by omega
  refine c_laws_toSegs_ro (Ps.ro ..) b1 b2 ?_
  simp only [og_some', onr_ret, gval_true, gval_false, pickV_true, pickV_false, apick_true, apick_false, gpick_true, gpick_false, ibin_leq, ibin_geq, ibin_lss, ibin_gtr, ibin_eql, ibin_neq, sbin_eql, sbin_neq, aun_not, Bool.not_true, Bool.not_false, decide_true, decide_false, if_true, if_false, Bool.false_eq_true, fldA_ptr, fldA_rop, anil_ptr, lenStr_str, amm_max, amm_min, Nat.zero_add, Nat.add_zero, List.length_cons, List.length_nil, Nat.reduceAdd]
  refine c_spec_PopSegs (Ps.ro ..) b3 fun r hR => ?_
  have hsm : r.ps.length + tot r.ps ≤ 8000 := hR.small
  have rb1 : r.ps.length ≤ 1099511627776 := by omega
  have rb2 : ∀ p, p ∈ r.ps → p.length ≤ 1099511627776 := tot_mem (by omega)
  simp only [new_eq, og_some', onr_ret, gval_true, gval_false, pickV_true, pickV_false, apick_true, apick_false, gpick_true, gpick_false, ibin_leq, ibin_geq, ibin_lss, ibin_gtr, ibin_eql, ibin_neq, sbin_eql, sbin_neq, aun_not, Bool.not_true, Bool.not_false, decide_true, decide_false, if_true, if_false, Bool.false_eq_true, fldA_ptr, fldA_rop, anil_ptr, lenStr_str, amm_max, amm_min, Nat.zero_add, Nat.add_zero, List.length_cons, List.length_nil, Nat.reduceAdd]
  intro φ4 h4
  refine put_new4 h4 rfl rfl fun σ2 s2 f4 k2 => ?_
  have e := lodA_at (st := 0) (i := 0) (n := 2) (cs := [iv size, roP ps]) (s2.at f1) rfl rfl rfl
  simp only [e, og_some', onr_ret, gval_true, gval_false, pickV_true, pickV_false, apick_true, apick_false, gpick_true, gpick_false, ibin_leq, ibin_geq, ibin_lss, ibin_gtr, ibin_eql, ibin_neq, sbin_eql, sbin_neq, aun_not, Bool.not_true, Bool.not_false, decide_true, decide_false, if_true, if_false, Bool.false_eq_true, fldA_ptr, fldA_rop, anil_ptr, lenStr_str, amm_max, amm_min, Nat.zero_add, Nat.add_zero, List.length_cons, List.length_nil, Nat.reduceAdd]
  refine c_laws_toSegs (Ps.ro ..) b1 b2 fun x0 σ3 qs s3 hq x0B => ?_
  simp only [new_eq, og_some', onr_ret, gval_true, gval_false, pickV_true, pickV_false, apick_true, apick_false, gpick_true, gpick_false, ibin_leq, ibin_geq, ibin_lss, ibin_gtr, ibin_eql, ibin_neq, sbin_eql, sbin_neq, aun_not, Bool.not_true, Bool.not_false, decide_true, decide_false, if_true, if_false, Bool.false_eq_true, fldA_ptr, fldA_rop, anil_ptr, lenStr_str, amm_max, amm_min, Nat.zero_add, Nat.add_zero, List.length_cons, List.length_nil, Nat.reduceAdd]
  intro φ5 h5
  refine put_new h5 rfl rfl (one2 x0B.out.one.2) fun σ4 s4 f5 k4 => ?_
  have e := lodA_at (st := 0) (i := 0) (n := 2) (cs := [iv size, x0]) f5 rfl rfl rfl
  simp only [e, og_some', onr_ret, gval_true, gval_false, pickV_true, pickV_false, apick_true, apick_false, gpick_true, gpick_false, ibin_leq, ibin_geq, ibin_lss, ibin_gtr, ibin_eql, ibin_neq, sbin_eql, sbin_neq, aun_not, Bool.not_true, Bool.not_false, decide_true, decide_false, if_true, if_false, Bool.false_eq_true, fldA_ptr, fldA_rop, anil_ptr, lenStr_str, amm_max, amm_min, Nat.zero_add, Nat.add_zero, List.length_cons, List.length_nil, Nat.reduceAdd]
  have x0B4 : PB σ4 x0 qs := (x0B.sub (dif_sub _ _)).sub s4
  have x0P4 : Ps σ4 x0 ps := hq ▸ x0B4.ps
  refine c_impl_PopSegs x0P4 b3 fun σ5 r' g gs s5 gB hgs hR' => ?_
  obtain rfl := hR.unique hR'
  simp only [new_eq, og_some', onr_ret, gval_true, gval_false, pickV_true, pickV_false, apick_true, apick_false, gpick_true, gpick_false, ibin_leq, ibin_geq, ibin_lss, ibin_gtr, ibin_eql, ibin_neq, sbin_eql, sbin_neq, aun_not, Bool.not_true, Bool.not_false, decide_true, decide_false, if_true, if_false, Bool.false_eq_true, fldA_ptr, fldA_rop, anil_ptr, lenStr_str, amm_max, amm_min, Nat.zero_add, Nat.add_zero, List.length_cons, List.length_nil, Nat.reduceAdd]
  intro φ6 h6
  refine put_new4 h6 rfl gB.out.one.2 fun σ6 s6 f6 k6 => ?_
  have e6 := lodA_at (st := 0) (i := 0) (n := 4) (cs := [iv r.c, iv r.v, iv r.s, g]) f6 rfl rfl rfl
  have s26 := ((s3.trans s4).trans s5).trans s6
  have f4' := s26.at f4
  have f1' := (s2.trans s26).at f1
  have f5' := (s5.trans s6).at f5
  have e4 := lodA_at (st := 0) (i := 0) (n := 4) (cs := [iv r.c, iv r.v, iv r.s, roP r.ps]) f4' rfl rfl rfl
  have e5 := lodA_at (st := 0) (i := 0) (n := 2) (cs := [iv size, x0]) f5' rfl rfl rfl
  have e1 := lodA_at (st := 0) (i := 0) (n := 2) (cs := [iv size, roP ps]) f1' rfl rfl rfl
  have gB6 : PB σ6 g gs := (gB.sub (dif_sub _ _)).sub s6
  have gP6 : Ps σ6 g r.ps := hgs ▸ gB6.ps
  simp only [e6, e4, og_some', onr_ret, gval_true, gval_false, pickV_true, pickV_false, apick_true, apick_false, gpick_true, gpick_false, ibin_leq, ibin_geq, ibin_lss, ibin_gtr, ibin_eql, ibin_neq, sbin_eql, sbin_neq, aun_not, Bool.not_true, Bool.not_false, decide_true, decide_false, if_true, if_false, Bool.false_eq_true, fldA_ptr, fldA_rop, anil_ptr, lenStr_str, amm_max, amm_min, Nat.zero_add, Nat.add_zero, List.length_cons, List.length_nil, Nat.reduceAdd]
  refine c_laws_eqSegsResult gP6 (Ps.ro ..) rb1 rb2 ?_
  simp only [Bool.and_self, e5, e1, og_some', onr_ret, gval_true, gval_false, pickV_true, pickV_false, apick_true, apick_false, gpick_true, gpick_false, ibin_leq, ibin_geq, ibin_lss, ibin_gtr, ibin_eql, ibin_neq, sbin_eql, sbin_neq, aun_not, Bool.not_true, Bool.not_false, decide_true, decide_false, if_true, if_false, Bool.false_eq_true, fldA_ptr, fldA_rop, anil_ptr, lenStr_str, amm_max, amm_min, Nat.zero_add, Nat.add_zero, List.length_cons, List.length_nil, Nat.reduceAdd]
  refine c_laws_toSegs_ro (Ps.ro ..) b1 b2 ?_
  have x0B6 : PB σ6 x0 qs := x0B4.sub (s5.trans s6)
  have x0P6 : Ps σ6 x0 ps := hq ▸ x0B6.ps
  simp only [e5, true_and, og_some', onr_ret, gval_true, gval_false, pickV_true, pickV_false, apick_true, apick_false, gpick_true, gpick_false, ibin_leq, ibin_geq, ibin_lss, ibin_gtr, ibin_eql, ibin_neq, sbin_eql, sbin_neq, aun_not, Bool.not_true, Bool.not_false, decide_true, decide_false, if_true, if_false, Bool.false_eq_true, fldA_ptr, fldA_rop, anil_ptr, lenStr_str, amm_max, amm_min, Nat.zero_add, Nat.add_zero, List.length_cons, List.length_nil, Nat.reduceAdd]
  refine c_laws_eqSegs x0P6 (Ps.ro ..) b1 b2 ?_
  simp only [Bool.and_self, e5, true_and, og_some', onr_ret, gval_true, gval_false, pickV_true, pickV_false, apick_true, apick_false, gpick_true, gpick_false, ibin_leq, ibin_geq, ibin_lss, ibin_gtr, ibin_eql, ibin_neq, sbin_eql, sbin_neq, aun_not, Bool.not_true, Bool.not_false, decide_true, decide_false, if_true, if_false, Bool.false_eq_true, fldA_ptr, fldA_rop, anil_ptr, lenStr_str, amm_max, amm_min, Nat.zero_add, Nat.add_zero, List.length_cons, List.length_nil, Nat.reduceAdd]
  refine c_laws_markSegs x0B6 (by omega) (by have := congrArg List.length hq; simp at this; omega) (by rw [hq]; omega) fun σ7 _ m7 => ?_
  rw [hq]
  -- what is not x0's stays
  have keep : ∀ χ F, σ6 χ = some F → (σ2 χ ≠ none ∨ σ3 χ = none) → σ7 χ = some F := by
    intro χ F hF hor
    rw [m7 χ ?_ (by rw [hF]; simp)]; · exact hF
    intro q hqm hf
    obtain ⟨d1, d2⟩ := x0B.new (.inr ⟨q, hqm, hf⟩)
    rcases hor with h | h
    · exact h d1
    · exact d2 h
  have F1 := keep φ1 _ f1' (.inl (by rw [s2.at f1]; simp))
  have F4 := keep φ4 _ f4' (.inl (by rw [f4]; simp))
  have h56 : σ3 φ6 = none := (s4.trans s5).none h6
  have F6 := keep φ6 _ f6 (.inr h56)
  have gB7 : PB σ7 g gs := gB6.keep fun χ hf => by
    obtain ⟨d1, d2⟩ := gB.new hf
    obtain ⟨F, hF, _⟩ := gB6.foot hf
    rw [hF]; exact keep χ F hF (.inr (s4.none d1))
  have gP7 : Ps σ7 g r.ps := hgs ▸ gB7.ps
  have E4 := lodA_at (st := 0) (i := 0) (n := 4) (cs := [iv r.c, iv r.v, iv r.s, roP r.ps]) F4 rfl rfl rfl
  have E6 := lodA_at (st := 0) (i := 0) (n := 4) (cs := [iv r.c, iv r.v, iv r.s, g]) F6 rfl rfl rfl
  have g36 : ¬ 1 + (tot ps : Int) < 0 := by omega
  simp only [jn, g36, E6, E4, og_some', onr_ret, gval_true, gval_false, pickV_true, pickV_false, apick_true, apick_false, gpick_true, gpick_false, ibin_leq, ibin_geq, ibin_lss, ibin_gtr, ibin_eql, ibin_neq, sbin_eql, sbin_neq, aun_not, Bool.not_true, Bool.not_false, decide_true, decide_false, if_true, if_false, Bool.false_eq_true, fldA_ptr, fldA_rop, anil_ptr, lenStr_str, amm_max, amm_min, Nat.zero_add, Nat.add_zero, List.length_cons, List.length_nil, Nat.reduceAdd]
  refine c_laws_eqSegsResult gP7 (Ps.ro ..) rb1 rb2 ?_
  simp only [Bool.and_self, E6, og_some', onr_ret, gval_true, gval_false, pickV_true, pickV_false, apick_true, apick_false, gpick_true, gpick_false, ibin_leq, ibin_geq, ibin_lss, ibin_gtr, ibin_eql, ibin_neq, sbin_eql, sbin_neq, aun_not, Bool.not_true, Bool.not_false, decide_true, decide_false, if_true, if_false, Bool.false_eq_true, fldA_ptr, fldA_rop, anil_ptr, lenStr_str, amm_max, amm_min, Nat.zero_add, Nat.add_zero, List.length_cons, List.length_nil, Nat.reduceAdd]
  have hgl : gs.length = r.ps.length := by rw [← hgs]; simp
  refine c_laws_markSegsResult gB7 (by omega) (by omega) (by rw [hgs]; omega) fun σ8 gB8 m8 => ?_
  rw [hgs]
  have keep8 : ∀ χ F, σ7 χ = some F → (σ4 χ ≠ none ∨ σ5 χ = none) → σ8 χ = some F := by
    intro χ F hF hor
    rw [m8 χ ?_ (by rw [hF]; simp)]; · exact hF
    intro hf
    obtain ⟨d1, d2⟩ := gB.new hf
    rcases hor with h | h
    · exact h d1
    · exact d2 h
  have K1 := keep8 φ1 _ F1 (.inl (by rw [(s3.trans s4).at (s2.at f1)]; simp))
  have K4 := keep8 φ4 _ F4 (.inl (by rw [(s3.trans s4).at f4]; simp))
  have K6 := keep8 φ6 _ F6 (.inr h6)
  have L4 := lodA_at (st := 0) (i := 0) (n := 4) (cs := [iv r.c, iv r.v, iv r.s, roP r.ps]) K4 rfl rfl rfl
  have L6 := lodA_at (st := 0) (i := 0) (n := 4) (cs := [iv r.c, iv r.v, iv r.s, g]) K6 rfl rfl rfl
  have L1 := lodA_at (st := 0) (i := 0) (n := 2) (cs := [iv size, roP ps]) K1 rfl rfl rfl
  have gP8 : Ps σ8 g (mkl 1 (gs.map fun q => q.2.length)) := marks_mkl gs 1 ▸ gB8.ps
  have hsum : sum (gs.map fun q => q.2.length) = tot r.ps := by rw [sum_tot, hgs]
  have hb : (1 : Int) + (gs.map fun q => q.2.length).length + sum (gs.map fun q => q.2.length) ≤ 1099511627776 := by rw [hsum, List.length_map]; omega
  simp only [L6, og_some', onr_ret, gval_true, gval_false, pickV_true, pickV_false, apick_true, apick_false, gpick_true, gpick_false, ibin_leq, ibin_geq, ibin_lss, ibin_gtr, ibin_eql, ibin_neq, sbin_eql, sbin_neq, aun_not, Bool.not_true, Bool.not_false, decide_true, decide_false, if_true, if_false, Bool.false_eq_true, fldA_ptr, fldA_rop, anil_ptr, lenStr_str, amm_max, amm_min, Nat.zero_add, Nat.add_zero, List.length_cons, List.length_nil, Nat.reduceAdd]
  refine c_laws_heldSegsResult gP8 (by omega) hb ?_
  rw [hsum]
  have g50 : ¬ 1 + (tot r.ps : Int) < 0 := by omega
  simp only [g50, L1, og_some', onr_ret, gval_true, gval_false, pickV_true, pickV_false, apick_true, apick_false, gpick_true, gpick_false, ibin_leq, ibin_geq, ibin_lss, ibin_gtr, ibin_eql, ibin_neq, sbin_eql, sbin_neq, aun_not, Bool.not_true, Bool.not_false, decide_true, decide_false, if_true, if_false, Bool.false_eq_true, fldA_ptr, fldA_rop, anil_ptr, lenStr_str, amm_max, amm_min, Nat.zero_add, Nat.add_zero, List.length_cons, List.length_nil, Nat.reduceAdd]
  refine c_laws_toSegs_ro (Ps.ro ..) b1 b2 ?_
  simp only [og_some', onr_ret, gval_true, gval_false, pickV_true, pickV_false, apick_true, apick_false, gpick_true, gpick_false, ibin_leq, ibin_geq, ibin_lss, ibin_gtr, ibin_eql, ibin_neq, sbin_eql, sbin_neq, aun_not, Bool.not_true, Bool.not_false, decide_true, decide_false, if_true, if_false, Bool.false_eq_true, fldA_ptr, fldA_rop, anil_ptr, lenStr_str, amm_max, amm_min, Nat.zero_add, Nat.add_zero, List.length_cons, List.length_nil, Nat.reduceAdd]
  refine c_impl_PopSegs (Ps.ro ..) b3 fun σ9 r2 g2 gs2 s9 gB9 hgs2 hR2 => ?_
  obtain rfl := hR.unique hR2
  simp only [new_eq, og_some', onr_ret, gval_true, gval_false, pickV_true, pickV_false, apick_true, apick_false, gpick_true, gpick_false, ibin_leq, ibin_geq, ibin_lss, ibin_gtr, ibin_eql, ibin_neq, sbin_eql, sbin_neq, aun_not, Bool.not_true, Bool.not_false, decide_true, decide_false, if_true, if_false, Bool.false_eq_true, fldA_ptr, fldA_rop, anil_ptr, lenStr_str, amm_max, amm_min, Nat.zero_add, Nat.add_zero, List.length_cons, List.length_nil, Nat.reduceAdd]
  intro φ10 h10
  refine put_new4 h10 rfl gB9.out.one.2 fun σ10 s10 f10 k10 => ?_
  have e10 := lodA_at (st := 0) (i := 0) (n := 4) (cs := [iv r.c, iv r.v, iv r.s, g2]) f10 rfl rfl rfl
  have M4 := lodA_at (st := 0) (i := 0) (n := 4) (cs := [iv r.c, iv r.v, iv r.s, roP r.ps]) ((s9.trans s10).at K4) rfl rfl rfl
  have M6 := lodA_at (st := 0) (i := 0) (n := 4) (cs := [iv r.c, iv r.v, iv r.s, g]) ((s9.trans s10).at K6) rfl rfl rfl
  have hP : Ps σ10 g2 r.ps := hgs2 ▸ ((gB9.sub (dif_sub _ _)).sub s10).ps
  simp only [e10, M4, og_some', onr_ret, gval_true, gval_false, pickV_true, pickV_false, apick_true, apick_false, gpick_true, gpick_false, ibin_leq, ibin_geq, ibin_lss, ibin_gtr, ibin_eql, ibin_neq, sbin_eql, sbin_neq, aun_not, Bool.not_true, Bool.not_false, decide_true, decide_false, if_true, if_false, Bool.false_eq_true, fldA_ptr, fldA_rop, anil_ptr, lenStr_str, amm_max, amm_min, Nat.zero_add, Nat.add_zero, List.length_cons, List.length_nil, Nat.reduceAdd]
  refine c_laws_eqSegsResult hP (Ps.ro ..) rb1 rb2 ?_
  simp only [Bool.and_self, M6, og_some', onr_ret, gval_true, gval_false, pickV_true, pickV_false, apick_true, apick_false, gpick_true, gpick_false, ibin_leq, ibin_geq, ibin_lss, ibin_gtr, ibin_eql, ibin_neq, sbin_eql, sbin_neq, aun_not, Bool.not_true, Bool.not_false, decide_true, decide_false, if_true, if_false, Bool.false_eq_true, fldA_ptr, fldA_rop, anil_ptr, lenStr_str, amm_max, amm_min, Nat.zero_add, Nat.add_zero, List.length_cons, List.length_nil, Nat.reduceAdd]
  refine c_laws_heldSegsResult (gP8.sub (s9.trans s10)) (by omega) hb ?_
  rw [hsum]
  simp only [g50, og_some', onr_ret, gval_true, gval_false, pickV_true, pickV_false, apick_true, apick_false, gpick_true, gpick_false, ibin_leq, ibin_geq, ibin_lss, ibin_gtr, ibin_eql, ibin_neq, sbin_eql, sbin_neq, aun_not, Bool.not_true, Bool.not_false, decide_true, decide_false, if_true, if_false, Bool.false_eq_true, fldA_ptr, fldA_rop, anil_ptr, lenStr_str, amm_max, amm_min, Nat.zero_add, Nat.add_zero, List.length_cons, List.length_nil, Nat.reduceAdd]
  -- the caller's heap is as it was
  refine aret_sub (σ' := σ) ?_ h
  intro χ F hF
  have a1 := hs1 χ F hF
  have a2 := s2.at a1
  have a6 := s26.at a2
  have a7 := keep χ F a6 (.inl (by rw [a2]; simp))
  exact (s9.trans s10).at (keep8 χ F a7 (.inl (by rw [(s3.trans s4).at a2]; simp)))
end Go.Proofs.Ytoccfncmphipbaa.E
