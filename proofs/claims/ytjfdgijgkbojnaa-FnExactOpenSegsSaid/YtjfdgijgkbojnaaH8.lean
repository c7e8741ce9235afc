/- The law on ListSegs. -/
import Derived.Test.YtjfdgijgkbojnaaH7
set_option linter.unusedSectionVars false
set_option linter.unusedSimpArgs false
set_option linter.unusedVariables false
namespace Go.Proofs.Ytjfdgijgkbojnaa.E
open Go Go.RowKit
variable [Lam]
variable {σ : AH} {R : AEnd → AH → Prop}
/-- A struct laid into a new cell: what is known behind it. -/
theorem put_new {σ : AH} {ψ : Nat} {n : Nat} {zs cs : List AV} {k : AH → Prop} (hψ : σ ψ = none) (hz : zs.length = n) (hc : cs.length = n) (h1 : ∀ x, x ∈ cs → x.one = true)
    (h : ∀ σ', AH.Sub σ σ' → σ' ψ = some ⟨0, n, [cs]⟩ → (∀ χ, χ ≠ ψ → σ' χ = σ χ) → k σ') : sto n (.ptr ψ 0 0 0) (.agg cs) (σ.set ψ ⟨0, n, [zs]⟩) k := by
  refine sto_own (es := [zs]) (cs := cs) (AH.set_same ..) (by simp) (by simpa using hz) rfl hc h1 ?_
  simp only [List.set_cons_zero, AH.set_set]
  exact h _ (sub_set (.refl σ) hψ) (AH.set_same ..) fun χ hχ => AH.set_ne' hχ
theorem one2 {n : Int} {v : AV} (hv : v.one = true) : ∀ x, x ∈ [iv n, v] → x.one = true := by
  intro x hx
  rcases List.mem_cons.1 hx with rfl | hx
  · rfl
  · obtain rfl := List.mem_singleton.1 hx; exact hv
theorem c_laws_FnExactListSegs {size : Int} {ps : List (List Int)} (hl : ps.length ≤ maxLen) (hm : ∀ p, p ∈ ps → p.length ≤ maxLen)
    (h : R (.ret (bv true)) σ) : acall TP fn_laws_FnExactListSegs [roG size ps] σ R := by
  refine s_laws_FnExactListSegs_ok ?_
  unfold s_laws_FnExactListSegs
  simp only [abox_agg, og_some', onr_ret, gval_true, gval_false, pickV_true, pickV_false, apick_true, apick_false, gpick_true, gpick_false, ibin_leq, ibin_geq, ibin_lss, ibin_gtr, ibin_eql, ibin_neq, sbin_eql, sbin_neq, aun_not, Bool.not_true, Bool.not_false, decide_true, decide_false, if_true, if_false, Bool.false_eq_true, fldA_ptr, fldA_rop, anil_ptr, lenStr_str, amm_max, amm_min, Nat.zero_add, Nat.add_zero, List.length_cons, List.length_nil, Nat.reduceAdd]
  intro φ1 h1
  have hs1 : AH.Sub σ (σ.set φ1 ⟨0, 2, [[iv size, roP ps]]⟩) := sub_set (.refl σ) h1
  have f1 : (σ.set φ1 ⟨0, 2, [[iv size, roP ps]]⟩) φ1 = some ⟨0, 2, [[iv size, roP ps]]⟩ := AH.set_same ..
  generalize hg1 : σ.set φ1 ⟨0, 2, [[iv size, roP ps]]⟩ = σ1 at hs1 f1 ⊢
  clear hg1
  have e := lodA_at (st := 0) (i := 0) (n := 2) (cs := [iv size, roP ps]) f1 rfl rfl rfl
  simp only [e, og_some', onr_ret, gval_true, gval_false, pickV_true, pickV_false, apick_true, apick_false, gpick_true, gpick_false, ibin_leq, ibin_geq, ibin_lss, ibin_gtr, ibin_eql, ibin_neq, sbin_eql, sbin_neq, aun_not, Bool.not_true, Bool.not_false, decide_true, decide_false, if_true, if_false, Bool.false_eq_true, fldA_ptr, fldA_rop, anil_ptr, lenStr_str, amm_max, amm_min, Nat.zero_add, Nat.add_zero, List.length_cons, List.length_nil, Nat.reduceAdd]
  refine c_laws_szSegs (Ps.ro ..) (by omega) (by omega) hl hm fun r r0 r1 r2 => ?_
  simp only [og_some', onr_ret, gval_true, gval_false, pickV_true, pickV_false, apick_true, apick_false, gpick_true, gpick_false, ibin_leq, ibin_geq, ibin_lss, ibin_gtr, ibin_eql, ibin_neq, sbin_eql, sbin_neq, aun_not, Bool.not_true, Bool.not_false, decide_true, decide_false, if_true, if_false, Bool.false_eq_true, fldA_ptr, fldA_rop, anil_ptr, lenStr_str, amm_max, amm_min, Nat.zero_add, Nat.add_zero, List.length_cons, List.length_nil, Nat.reduceAdd]
  by_cases c1 : r < 0
  · simp only [c1, og_some', onr_ret, gval_true, gval_false, pickV_true, pickV_false, apick_true, apick_false, gpick_true, gpick_false, ibin_leq, ibin_geq, ibin_lss, ibin_gtr, ibin_eql, ibin_neq, sbin_eql, sbin_neq, aun_not, Bool.not_true, Bool.not_false, decide_true, decide_false, if_true, if_false, Bool.false_eq_true, fldA_ptr, fldA_rop, anil_ptr, lenStr_str, amm_max, amm_min, Nat.zero_add, Nat.add_zero, List.length_cons, List.length_nil, Nat.reduceAdd]; exact aret_sub hs1 h
  simp only [c1, e, og_some', onr_ret, gval_true, gval_false, pickV_true, pickV_false, apick_true, apick_false, gpick_true, gpick_false, ibin_leq, ibin_geq, ibin_lss, ibin_gtr, ibin_eql, ibin_neq, sbin_eql, sbin_neq, aun_not, Bool.not_true, Bool.not_false, decide_true, decide_false, if_true, if_false, Bool.false_eq_true, fldA_ptr, fldA_rop, anil_ptr, lenStr_str, amm_max, amm_min, Nat.zero_add, Nat.add_zero, List.length_cons, List.length_nil, Nat.reduceAdd]
  have b1 : ps.length ≤ 1099511627776 := by omega
  have b2 : ∀ p, p ∈ ps → p.length ≤ 1099511627776 := tot_mem (by omega)
  have b3 : ps.length + tot ps ≤ 1099511627776 := by omega
  have b4 : ((lisR size ps).2.length : Int) ≤ 1048576 := by have := lisR_len size ps; omega
  have b5 : (tot ps : Int) ≤ 1048576 := by omega
  refine c_laws_toSegs_ro (Ps.ro ..) b1 b2 ?_
  simp only [og_some', onr_ret, gval_true, gval_false, pickV_true, pickV_false, apick_true, apick_false, gpick_true, gpick_false, ibin_leq, ibin_geq, ibin_lss, ibin_gtr, ibin_eql, ibin_neq, sbin_eql, sbin_neq, aun_not, Bool.not_true, Bool.not_false, decide_true, decide_false, if_true, if_false, Bool.false_eq_true, fldA_ptr, fldA_rop, anil_ptr, lenStr_str, amm_max, amm_min, Nat.zero_add, Nat.add_zero, List.length_cons, List.length_nil, Nat.reduceAdd]
  refine c_spec_ListSegs (Ps.ro ..) b3 ?_
  simp only [new_eq, og_some', onr_ret, gval_true, gval_false, pickV_true, pickV_false, apick_true, apick_false, gpick_true, gpick_false, ibin_leq, ibin_geq, ibin_lss, ibin_gtr, ibin_eql, ibin_neq, sbin_eql, sbin_neq, aun_not, Bool.not_true, Bool.not_false, decide_true, decide_false, if_true, if_false, Bool.false_eq_true, fldA_ptr, fldA_rop, anil_ptr, lenStr_str, amm_max, amm_min, Nat.zero_add, Nat.add_zero, List.length_cons, List.length_nil, Nat.reduceAdd]
  intro φ4 h4
  refine put_new h4 rfl rfl (by simp [AV.one, Value.oneCell']) fun σ2 s2 f4 k2 => ?_
  have e := lodA_at (st := 0) (i := 0) (n := 2) (cs := [iv size, roP ps]) (s2.at f1) rfl rfl rfl
  simp only [e, og_some', onr_ret, gval_true, gval_false, pickV_true, pickV_false, apick_true, apick_false, gpick_true, gpick_false, ibin_leq, ibin_geq, ibin_lss, ibin_gtr, ibin_eql, ibin_neq, sbin_eql, sbin_neq, aun_not, Bool.not_true, Bool.not_false, decide_true, decide_false, if_true, if_false, Bool.false_eq_true, fldA_ptr, fldA_rop, anil_ptr, lenStr_str, amm_max, amm_min, Nat.zero_add, Nat.add_zero, List.length_cons, List.length_nil, Nat.reduceAdd]
  refine c_laws_toSegs (Ps.ro ..) b1 b2 fun x0 σ3 qs s3 hq x0B => ?_
  have x0one := (Buf.cs x0B.out).one
  simp only [new_eq, og_some', onr_ret, gval_true, gval_false, pickV_true, pickV_false, apick_true, apick_false, gpick_true, gpick_false, ibin_leq, ibin_geq, ibin_lss, ibin_gtr, ibin_eql, ibin_neq, sbin_eql, sbin_neq, aun_not, Bool.not_true, Bool.not_false, decide_true, decide_false, if_true, if_false, Bool.false_eq_true, fldA_ptr, fldA_rop, anil_ptr, lenStr_str, amm_max, amm_min, Nat.zero_add, Nat.add_zero, List.length_cons, List.length_nil, Nat.reduceAdd]
  intro φ5 h5
  refine put_new h5 rfl rfl (one2 x0one.2) fun σ4 s4 f5 k4 => ?_
  have e := lodA_at (st := 0) (i := 0) (n := 2) (cs := [iv size, x0]) f5 rfl rfl rfl
  simp only [e, og_some', onr_ret, gval_true, gval_false, pickV_true, pickV_false, apick_true, apick_false, gpick_true, gpick_false, ibin_leq, ibin_geq, ibin_lss, ibin_gtr, ibin_eql, ibin_neq, sbin_eql, sbin_neq, aun_not, Bool.not_true, Bool.not_false, decide_true, decide_false, if_true, if_false, Bool.false_eq_true, fldA_ptr, fldA_rop, anil_ptr, lenStr_str, amm_max, amm_min, Nat.zero_add, Nat.add_zero, List.length_cons, List.length_nil, Nat.reduceAdd]
  have x0B4 : PB σ4 x0 qs := (x0B.sub (dif_sub _ _)).sub s4
  have x0P4 : Ps σ4 x0 ps := hq ▸ x0B4.ps
  refine c_impl_ListSegs x0P4 b3 fun g σ5 s5 gB => ?_
  have gone := (Buf.cs gB).one
  simp only [new_eq, og_some', onr_ret, gval_true, gval_false, pickV_true, pickV_false, apick_true, apick_false, gpick_true, gpick_false, ibin_leq, ibin_geq, ibin_lss, ibin_gtr, ibin_eql, ibin_neq, sbin_eql, sbin_neq, aun_not, Bool.not_true, Bool.not_false, decide_true, decide_false, if_true, if_false, Bool.false_eq_true, fldA_ptr, fldA_rop, anil_ptr, lenStr_str, amm_max, amm_min, Nat.zero_add, Nat.add_zero, List.length_cons, List.length_nil, Nat.reduceAdd]
  intro φ6 h6
  refine put_new h6 rfl rfl (one2 gone.2) fun σ6 s6 f6 k6 => ?_
  have e6 := lodA_at (st := 0) (i := 0) (n := 2) (cs := [iv (lisR size ps).1, g]) f6 rfl rfl rfl
  have s26 := ((s3.trans s4).trans s5).trans s6
  have f4' := s26.at f4
  have f1' := (s2.trans s26).at f1
  have f5' := (s5.trans s6).at f5
  have e4 := lodA_at (st := 0) (i := 0) (n := 2) (cs := [iv (lisR size ps).1, roN (lisR size ps).2]) f4' rfl rfl rfl
  have e5 := lodA_at (st := 0) (i := 0) (n := 2) (cs := [iv size, x0]) f5' rfl rfl rfl
  have e1 := lodA_at (st := 0) (i := 0) (n := 2) (cs := [iv size, roP ps]) f1' rfl rfl rfl
  have gB6 : Buf σ6 1 g ((lisR size ps).2.map fun x => [iv x]) := (gB.sub (dif_sub _ _)).sub s6
  simp only [e6, e4, og_some', onr_ret, gval_true, gval_false, pickV_true, pickV_false, apick_true, apick_false, gpick_true, gpick_false, ibin_leq, ibin_geq, ibin_lss, ibin_gtr, ibin_eql, ibin_neq, sbin_eql, sbin_neq, aun_not, Bool.not_true, Bool.not_false, decide_true, decide_false, if_true, if_false, Bool.false_eq_true, fldA_ptr, fldA_rop, anil_ptr, lenStr_str, amm_max, amm_min, Nat.zero_add, Nat.add_zero, List.length_cons, List.length_nil, Nat.reduceAdd]
  refine c_laws_eqIntsResult (Buf.cs gB6) (Cs.ro ..) (by omega) ?_
  simp only [Bool.and_self, e5, e1, og_some', onr_ret, gval_true, gval_false, pickV_true, pickV_false, apick_true, apick_false, gpick_true, gpick_false, ibin_leq, ibin_geq, ibin_lss, ibin_gtr, ibin_eql, ibin_neq, sbin_eql, sbin_neq, aun_not, Bool.not_true, Bool.not_false, decide_true, decide_false, if_true, if_false, Bool.false_eq_true, fldA_ptr, fldA_rop, anil_ptr, lenStr_str, amm_max, amm_min, Nat.zero_add, Nat.add_zero, List.length_cons, List.length_nil, Nat.reduceAdd]
  refine c_laws_toSegs_ro (Ps.ro ..) b1 b2 ?_
  have x0B6 : PB σ6 x0 qs := x0B4.sub (s5.trans s6)
  have x0P6 : Ps σ6 x0 ps := hq ▸ x0B6.ps
  simp only [e5, true_and, og_some', onr_ret, gval_true, gval_false, pickV_true, pickV_false, apick_true, apick_false, gpick_true, gpick_false, ibin_leq, ibin_geq, ibin_lss, ibin_gtr, ibin_eql, ibin_neq, sbin_eql, sbin_neq, aun_not, Bool.not_true, Bool.not_false, decide_true, decide_false, if_true, if_false, Bool.false_eq_true, fldA_ptr, fldA_rop, anil_ptr, lenStr_str, amm_max, amm_min, Nat.zero_add, Nat.add_zero, List.length_cons, List.length_nil, Nat.reduceAdd]
  refine c_laws_eqSegs x0P6 (Ps.ro ..) b1 b2 ?_
  simp only [Bool.and_self, e5, true_and, og_some', onr_ret, gval_true, gval_false, pickV_true, pickV_false, apick_true, apick_false, gpick_true, gpick_false, ibin_leq, ibin_geq, ibin_lss, ibin_gtr, ibin_eql, ibin_neq, sbin_eql, sbin_neq, aun_not, Bool.not_true, Bool.not_false, decide_true, decide_false, if_true, if_false, Bool.false_eq_true, fldA_ptr, fldA_rop, anil_ptr, lenStr_str, amm_max, amm_min, Nat.zero_add, Nat.add_zero, List.length_cons, List.length_nil, Nat.reduceAdd]
  refine c_laws_markSegs x0B6 (by omega) (by have := congrArg List.length hq; simp at this; omega) (by rw [hq]; omega) fun σ7 _ m7 => ?_
  rw [hq]
  -- what is not x0's stays
  have keep : ∀ χ F, σ6 χ = some F → (σ2 χ ≠ none ∨ σ3 χ = none) → σ7 χ = some F := by
    intro χ F hF hor
    rw [m7 χ ?_ (by rw [hF]; simp)]; · exact hF
    intro q hqm hf
    obtain ⟨G, hG⟩ := (x0B.ins q hqm).fam_some hf
    obtain ⟨d1, d2⟩ := dif_some hG
    rcases hor with h | h
    · exact h d1
    · rw [h] at d2; cases d2
  have F1 := keep φ1 _ f1' (.inl (by rw [s2.at f1]; simp))
  have F4 := keep φ4 _ f4' (.inl (by rw [f4]; simp))
  have h56 : σ3 φ6 = none := (s4.trans s5).none h6
  have F6 := keep φ6 _ f6 (.inr h56)
  have gB7 : Buf σ7 1 g ((lisR size ps).2.map fun x => [iv x]) := gB6.keep fun χ hf => by
    obtain ⟨G, hG⟩ := gB.fam_some hf
    obtain ⟨d1, d2⟩ := dif_some hG
    have d3 := s6.at d2
    rw [d3]; exact keep χ G d3 (.inr (s4.none d1))
  have E4 := lodA_at (st := 0) (i := 0) (n := 2) (cs := [iv (lisR size ps).1, roN (lisR size ps).2]) F4 rfl rfl rfl
  have E6 := lodA_at (st := 0) (i := 0) (n := 2) (cs := [iv (lisR size ps).1, g]) F6 rfl rfl rfl
  have g36 : ¬ 1 + (tot ps : Int) < 0 := by omega
  simp only [jn, g36, E6, E4, og_some', onr_ret, gval_true, gval_false, pickV_true, pickV_false, apick_true, apick_false, gpick_true, gpick_false, ibin_leq, ibin_geq, ibin_lss, ibin_gtr, ibin_eql, ibin_neq, sbin_eql, sbin_neq, aun_not, Bool.not_true, Bool.not_false, decide_true, decide_false, if_true, if_false, Bool.false_eq_true, fldA_ptr, fldA_rop, anil_ptr, lenStr_str, amm_max, amm_min, Nat.zero_add, Nat.add_zero, List.length_cons, List.length_nil, Nat.reduceAdd]
  refine c_laws_eqIntsResult (Buf.cs gB7) (Cs.ro ..) (by omega) ?_
  simp only [Bool.and_self, E6, og_some', onr_ret, gval_true, gval_false, pickV_true, pickV_false, apick_true, apick_false, gpick_true, gpick_false, ibin_leq, ibin_geq, ibin_lss, ibin_gtr, ibin_eql, ibin_neq, sbin_eql, sbin_neq, aun_not, Bool.not_true, Bool.not_false, decide_true, decide_false, if_true, if_false, Bool.false_eq_true, fldA_ptr, fldA_rop, anil_ptr, lenStr_str, amm_max, amm_min, Nat.zero_add, Nat.add_zero, List.length_cons, List.length_nil, Nat.reduceAdd]
  refine c_laws_markIntsResult gB7 (by omega) (by omega) fun σ8 gB8 m8 => ?_
  have keep8 : ∀ χ F, σ7 χ = some F → (∀ G, σ6 χ = some G → σ4 χ ≠ none ∨ σ5 χ = none) → σ6 χ ≠ none → σ8 χ = some F := by
    intro χ F hF hor hn
    rw [m8 χ ?_ (by rw [hF]; simp)]; · exact hF
    intro hf
    obtain ⟨G, hG⟩ := gB.fam_some hf
    obtain ⟨d1, d2⟩ := dif_some hG
    rcases hor G (s6.at d2) with h | h
    · exact h d1
    · rw [h] at d2; cases d2
  have K1 := keep8 φ1 _ F1 (fun _ _ => .inl (by rw [(s3.trans s4).at (s2.at f1)]; simp)) (by rw [f1']; simp)
  have K4 := keep8 φ4 _ F4 (fun _ _ => .inl (by rw [(s3.trans s4).at f4]; simp)) (by rw [f4']; simp)
  have K6 := keep8 φ6 _ F6 (fun _ _ => .inr h6) (by rw [f6]; simp)
  have L4 := lodA_at (st := 0) (i := 0) (n := 2) (cs := [iv (lisR size ps).1, roN (lisR size ps).2]) K4 rfl rfl rfl
  have L6 := lodA_at (st := 0) (i := 0) (n := 2) (cs := [iv (lisR size ps).1, g]) K6 rfl rfl rfl
  have L1 := lodA_at (st := 0) (i := 0) (n := 2) (cs := [iv size, roP ps]) K1 rfl rfl rfl
  simp only [L6, og_some', onr_ret, gval_true, gval_false, pickV_true, pickV_false, apick_true, apick_false, gpick_true, gpick_false, ibin_leq, ibin_geq, ibin_lss, ibin_gtr, ibin_eql, ibin_neq, sbin_eql, sbin_neq, aun_not, Bool.not_true, Bool.not_false, decide_true, decide_false, if_true, if_false, Bool.false_eq_true, fldA_ptr, fldA_rop, anil_ptr, lenStr_str, amm_max, amm_min, Nat.zero_add, Nat.add_zero, List.length_cons, List.length_nil, Nat.reduceAdd]
  refine c_laws_heldIntsResult (Buf.cs gB8) (by omega) (by omega) ?_
  have g50 : ¬ 1 + ((lisR size ps).2.length : Int) < 0 := by omega
  simp only [g50, L1, og_some', onr_ret, gval_true, gval_false, pickV_true, pickV_false, apick_true, apick_false, gpick_true, gpick_false, ibin_leq, ibin_geq, ibin_lss, ibin_gtr, ibin_eql, ibin_neq, sbin_eql, sbin_neq, aun_not, Bool.not_true, Bool.not_false, decide_true, decide_false, if_true, if_false, Bool.false_eq_true, fldA_ptr, fldA_rop, anil_ptr, lenStr_str, amm_max, amm_min, Nat.zero_add, Nat.add_zero, List.length_cons, List.length_nil, Nat.reduceAdd]
  refine c_laws_toSegs_ro (Ps.ro ..) b1 b2 ?_
  simp only [og_some', onr_ret, gval_true, gval_false, pickV_true, pickV_false, apick_true, apick_false, gpick_true, gpick_false, ibin_leq, ibin_geq, ibin_lss, ibin_gtr, ibin_eql, ibin_neq, sbin_eql, sbin_neq, aun_not, Bool.not_true, Bool.not_false, decide_true, decide_false, if_true, if_false, Bool.false_eq_true, fldA_ptr, fldA_rop, anil_ptr, lenStr_str, amm_max, amm_min, Nat.zero_add, Nat.add_zero, List.length_cons, List.length_nil, Nat.reduceAdd]
  refine c_impl_ListSegs (Ps.ro ..) b3 fun g' σ9 s9 gB9 => ?_
  have gone9 := (Buf.cs gB9).one
  simp only [new_eq, og_some', onr_ret, gval_true, gval_false, pickV_true, pickV_false, apick_true, apick_false, gpick_true, gpick_false, ibin_leq, ibin_geq, ibin_lss, ibin_gtr, ibin_eql, ibin_neq, sbin_eql, sbin_neq, aun_not, Bool.not_true, Bool.not_false, decide_true, decide_false, if_true, if_false, Bool.false_eq_true, fldA_ptr, fldA_rop, anil_ptr, lenStr_str, amm_max, amm_min, Nat.zero_add, Nat.add_zero, List.length_cons, List.length_nil, Nat.reduceAdd]
  intro φ10 h10
  refine put_new h10 rfl rfl (one2 gone9.2) fun σ10 s10 f10 k10 => ?_
  have e10 := lodA_at (st := 0) (i := 0) (n := 2) (cs := [iv (lisR size ps).1, g']) f10 rfl rfl rfl
  have M4 := lodA_at (st := 0) (i := 0) (n := 2) (cs := [iv (lisR size ps).1, roN (lisR size ps).2]) ((s9.trans s10).at K4) rfl rfl rfl
  have M6 := lodA_at (st := 0) (i := 0) (n := 2) (cs := [iv (lisR size ps).1, g]) ((s9.trans s10).at K6) rfl rfl rfl
  simp only [e10, M4, og_some', onr_ret, gval_true, gval_false, pickV_true, pickV_false, apick_true, apick_false, gpick_true, gpick_false, ibin_leq, ibin_geq, ibin_lss, ibin_gtr, ibin_eql, ibin_neq, sbin_eql, sbin_neq, aun_not, Bool.not_true, Bool.not_false, decide_true, decide_false, if_true, if_false, Bool.false_eq_true, fldA_ptr, fldA_rop, anil_ptr, lenStr_str, amm_max, amm_min, Nat.zero_add, Nat.add_zero, List.length_cons, List.length_nil, Nat.reduceAdd]
  refine c_laws_eqIntsResult (Buf.cs ((gB9.sub (dif_sub _ _)).sub s10)) (Cs.ro ..) (by omega) ?_
  simp only [Bool.and_self, M6, og_some', onr_ret, gval_true, gval_false, pickV_true, pickV_false, apick_true, apick_false, gpick_true, gpick_false, ibin_leq, ibin_geq, ibin_lss, ibin_gtr, ibin_eql, ibin_neq, sbin_eql, sbin_neq, aun_not, Bool.not_true, Bool.not_false, decide_true, decide_false, if_true, if_false, Bool.false_eq_true, fldA_ptr, fldA_rop, anil_ptr, lenStr_str, amm_max, amm_min, Nat.zero_add, Nat.add_zero, List.length_cons, List.length_nil, Nat.reduceAdd]
  refine c_laws_heldIntsResult ((Buf.cs gB8).sub (s9.trans s10)) (by omega) (by omega) ?_
  simp only [g50, og_some', onr_ret, gval_true, gval_false, pickV_true, pickV_false, apick_true, apick_false, gpick_true, gpick_false, ibin_leq, ibin_geq, ibin_lss, ibin_gtr, ibin_eql, ibin_neq, sbin_eql, sbin_neq, aun_not, Bool.not_true, Bool.not_false, decide_true, decide_false, if_true, if_false, Bool.false_eq_true, fldA_ptr, fldA_rop, anil_ptr, lenStr_str, amm_max, amm_min, Nat.zero_add, Nat.add_zero, List.length_cons, List.length_nil, Nat.reduceAdd]
  -- the caller's heap is as it was
  refine aret_sub (σ' := σ) ?_ h
  intro χ F hF
  have a1 := hs1 χ F hF
  have a2 := s2.at a1
  have a6 := s26.at a2
  have a7 := keep χ F a6 (.inl (by rw [a2]; simp))
  exact (s9.trans s10).at (keep8 χ F a7 (fun _ _ => .inl (by rw [(s3.trans s4).at a2]; simp)) (by rw [a6]; simp))
end Go.Proofs.Ytjfdgijgkbojnaa.E
