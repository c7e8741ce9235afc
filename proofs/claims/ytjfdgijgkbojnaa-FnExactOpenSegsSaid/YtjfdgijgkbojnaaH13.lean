/- The law on OpenSegs. -/
import Derived.Test.YtjfdgijgkbojnaaH12
set_option linter.unusedSectionVars false
set_option linter.unusedSimpArgs false
set_option linter.unusedVariables false
namespace Go.Proofs.Ytjfdgijgkbojnaa.E
open Go Go.RowKit
variable [L : Lam]
variable {σ : AH} {R : AEnd → AH → Prop}
theorem PB.new {σ0 σ1 : AH} {a : AV} {qs : List (AV × List Int)} (h : PB (E.dif σ0 σ1) a qs) {ψ : Nat} (hf : Foot a qs ψ) : σ0 ψ = none ∧ σ1 ψ ≠ none := by
  obtain ⟨F, hF, _⟩ := h.foot hf
  obtain ⟨h1, h2⟩ := dif_some hF
  exact ⟨h1, by rw [h2]; simp⟩
theorem put_new4 {σ : AH} {ψ : Nat} {a b c : Int} {v : AV} {zs : List AV} {k : AH → Prop} (hψ : σ ψ = none) (hz : zs.length = 4) (hv : v.one = true)
    (h : ∀ σ', AH.Sub σ σ' → σ' ψ = some ⟨0, 4, [[iv a, iv b, iv c, v]]⟩ → (∀ χ, χ ≠ ψ → σ' χ = σ χ) → k σ') : sto 4 (.ptr ψ 0 0 0) (.agg [iv a, iv b, iv c, v]) (σ.set ψ ⟨0, 4, [zs]⟩) k :=
  put_new hψ hz rfl (one4 hv) h
/-- An own copy of a list. -/
theorem copy_buf {σ : AH} {φ : Nat} {xs : List Int} : Buf (σ.set φ ⟨0, 1, xs.map fun x => [iv x]⟩) 1 (.own φ 0 0 xs.length) (xs.map fun x => [iv x]) := .inr ⟨φ, 0, by simp, AH.set_same ..⟩
set_option maxRecDepth 100000 in
theorem c_laws_FnExactOpenSegs {size : Int} {xs : List Int} (h : R (.ret (bv true)) σ) : acall TP fn_laws_FnExactOpenSegs [iv size, roN xs] σ R := by
  refine s_laws_FnExactOpenSegs_ok ?_
  unfold s_laws_FnExactOpenSegs
  have hN : ∀ σ : AH, Ns σ (roN xs) xs := fun σ => Cs.ro ..
  simp only [(hN σ).len, og_some', onr_ret, gval_true, gval_false, pickV_true, pickV_false, apick_true, apick_false, gpick_true, gpick_false, ibin_leq, ibin_geq, ibin_lss, ibin_gtr, ibin_eql, ibin_neq, sbin_eql, sbin_neq, aun_not, Bool.not_true, Bool.not_false, decide_true, decide_false, if_true, if_false, Bool.false_eq_true, fldA_ptr, fldA_rop, anil_ptr, lenStr_str, amm_max, amm_min, Nat.zero_add, Nat.add_zero, List.length_cons, List.length_nil, Nat.reduceAdd]
  by_cases c0 : (1048576 : Int) < xs.length
  · simp only [c0, og_some', onr_ret, gval_true, gval_false, pickV_true, pickV_false, apick_true, apick_false, gpick_true, gpick_false, ibin_leq, ibin_geq, ibin_lss, ibin_gtr, ibin_eql, ibin_neq, sbin_eql, sbin_neq, aun_not, Bool.not_true, Bool.not_false, decide_true, decide_false, if_true, if_false, Bool.false_eq_true, fldA_ptr, fldA_rop, anil_ptr, lenStr_str, amm_max, amm_min, Nat.zero_add, Nat.add_zero, List.length_cons, List.length_nil, Nat.reduceAdd]; exact ret_here h
  simp only [c0, og_some', onr_ret, gval_true, gval_false, pickV_true, pickV_false, apick_true, apick_false, gpick_true, gpick_false, ibin_leq, ibin_geq, ibin_lss, ibin_gtr, ibin_eql, ibin_neq, sbin_eql, sbin_neq, aun_not, Bool.not_true, Bool.not_false, decide_true, decide_false, if_true, if_false, Bool.false_eq_true, fldA_ptr, fldA_rop, anil_ptr, lenStr_str, amm_max, amm_min, Nat.zero_add, Nat.add_zero, List.length_cons, List.length_nil, Nat.reduceAdd]
  have b0 : xs.length ≤ 1099511627776 := by omega
  refine c_laws_toInt64S (hN _) b0 fun ψ0 g0 => ?_
  have s0 : AH.Sub σ (σ.set ψ0 ⟨0, 1, xs.map fun x => [iv x]⟩) := sub_set (.refl σ) g0
  have B0 := copy_buf (σ := σ) (φ := ψ0) (xs := xs)
  generalize σ.set ψ0 ⟨0, 1, xs.map fun x => [iv x]⟩ = σ1 at s0 B0 ⊢
  simp only [og_some', onr_ret, gval_true, gval_false, pickV_true, pickV_false, apick_true, apick_false, gpick_true, gpick_false, ibin_leq, ibin_geq, ibin_lss, ibin_gtr, ibin_eql, ibin_neq, sbin_eql, sbin_neq, aun_not, Bool.not_true, Bool.not_false, decide_true, decide_false, if_true, if_false, Bool.false_eq_true, fldA_ptr, fldA_rop, anil_ptr, lenStr_str, amm_max, amm_min, Nat.zero_add, Nat.add_zero, List.length_cons, List.length_nil, Nat.reduceAdd]
  refine c_spec_OpenSegs (Buf.cs B0) b0 fun c s ps hO => ?_
  have hsm := hO.small
  simp only [new_eq, og_some', onr_ret, gval_true, gval_false, pickV_true, pickV_false, apick_true, apick_false, gpick_true, gpick_false, ibin_leq, ibin_geq, ibin_lss, ibin_gtr, ibin_eql, ibin_neq, sbin_eql, sbin_neq, aun_not, Bool.not_true, Bool.not_false, decide_true, decide_false, if_true, if_false, Bool.false_eq_true, fldA_ptr, fldA_rop, anil_ptr, lenStr_str, amm_max, amm_min, Nat.zero_add, Nat.add_zero, List.length_cons, List.length_nil, Nat.reduceAdd]
  intro φ5 h5
  refine put_new4 h5 rfl rfl fun σ2 s2 f5 k2 => ?_
  refine c_laws_toInt64S (hN _) b0 fun ψ1 g1 => ?_
  have s3 : AH.Sub σ2 (σ2.set ψ1 ⟨0, 1, xs.map fun x => [iv x]⟩) := sub_set (.refl σ2) g1
  have XB := copy_buf (σ := σ2) (φ := ψ1) (xs := xs)
  have hX : (σ2.set ψ1 ⟨0, 1, xs.map fun x => [iv x]⟩) ψ1 ≠ none := by simp
  generalize σ2.set ψ1 ⟨0, 1, xs.map fun x => [iv x]⟩ = σ3 at s3 XB hX ⊢
  simp only [og_some', onr_ret, gval_true, gval_false, pickV_true, pickV_false, apick_true, apick_false, gpick_true, gpick_false, ibin_leq, ibin_geq, ibin_lss, ibin_gtr, ibin_eql, ibin_neq, sbin_eql, sbin_neq, aun_not, Bool.not_true, Bool.not_false, decide_true, decide_false, if_true, if_false, Bool.false_eq_true, fldA_ptr, fldA_rop, anil_ptr, lenStr_str, amm_max, amm_min, Nat.zero_add, Nat.add_zero, List.length_cons, List.length_nil, Nat.reduceAdd]
  refine c_impl_OpenSegs (Buf.cs XB) b0 fun σ4 c' s' p qs s4 gB hO' => ?_
  obtain ⟨rfl, rfl, hps⟩ := hO.unique hO'
  have hqs : qs.length = ps.length := by rw [hps]; simp
  simp only [new_eq, og_some', onr_ret, gval_true, gval_false, pickV_true, pickV_false, apick_true, apick_false, gpick_true, gpick_false, ibin_leq, ibin_geq, ibin_lss, ibin_gtr, ibin_eql, ibin_neq, sbin_eql, sbin_neq, aun_not, Bool.not_true, Bool.not_false, decide_true, decide_false, if_true, if_false, Bool.false_eq_true, fldA_ptr, fldA_rop, anil_ptr, lenStr_str, amm_max, amm_min, Nat.zero_add, Nat.add_zero, List.length_cons, List.length_nil, Nat.reduceAdd]
  intro φ7 h7
  refine put_new4 h7 rfl gB.out.one.2 fun σ5 s5 f7 k5 => ?_
  have f5' := ((s3.trans s4).trans s5).at f5
  have e7 := lodA_at (st := 0) (i := 0) (n := 4) (cs := [iv c, iv 0, iv s, p]) f7 rfl rfl rfl
  have e5 := lodA_at (st := 0) (i := 0) (n := 4) (cs := [iv c, iv 0, iv s, roP ps]) f5' rfl rfl rfl
  have gB5 : PB σ5 p qs := (gB.sub (dif_sub _ _)).sub s5
  have gP5 : Ps σ5 p ps := hps ▸ gB5.ps
  have b1 : ps.length ≤ 1099511627776 := by omega
  have b2 : ∀ p, p ∈ ps → p.length ≤ 1099511627776 := tot_mem (by omega)
  simp only [e7, e5, og_some', onr_ret, gval_true, gval_false, pickV_true, pickV_false, apick_true, apick_false, gpick_true, gpick_false, ibin_leq, ibin_geq, ibin_lss, ibin_gtr, ibin_eql, ibin_neq, sbin_eql, sbin_neq, aun_not, Bool.not_true, Bool.not_false, decide_true, decide_false, if_true, if_false, Bool.false_eq_true, fldA_ptr, fldA_rop, anil_ptr, lenStr_str, amm_max, amm_min, Nat.zero_add, Nat.add_zero, List.length_cons, List.length_nil, Nat.reduceAdd]
  refine c_laws_eqSegsResult gP5 (Ps.ro ..) b1 b2 ?_
  simp only [Bool.and_self, og_some', onr_ret, gval_true, gval_false, pickV_true, pickV_false, apick_true, apick_false, gpick_true, gpick_false, ibin_leq, ibin_geq, ibin_lss, ibin_gtr, ibin_eql, ibin_neq, sbin_eql, sbin_neq, aun_not, Bool.not_true, Bool.not_false, decide_true, decide_false, if_true, if_false, Bool.false_eq_true, fldA_ptr, fldA_rop, anil_ptr, lenStr_str, amm_max, amm_min, Nat.zero_add, Nat.add_zero, List.length_cons, List.length_nil, Nat.reduceAdd]
  refine c_laws_toInt64S (hN _) b0 fun ψ2 g2 => ?_
  have s6 : AH.Sub σ5 (σ5.set ψ2 ⟨0, 1, xs.map fun x => [iv x]⟩) := sub_set (.refl _) g2
  have CB := copy_buf (σ := σ5) (φ := ψ2) (xs := xs)
  generalize σ5.set ψ2 ⟨0, 1, xs.map fun x => [iv x]⟩ = σ6 at s6 CB ⊢
  have s36 : AH.Sub σ3 σ6 := (s4.trans s5).trans s6
  have XB6 := XB.sub s36
  simp only [og_some', onr_ret, gval_true, gval_false, pickV_true, pickV_false, apick_true, apick_false, gpick_true, gpick_false, ibin_leq, ibin_geq, ibin_lss, ibin_gtr, ibin_eql, ibin_neq, sbin_eql, sbin_neq, aun_not, Bool.not_true, Bool.not_false, decide_true, decide_false, if_true, if_false, Bool.false_eq_true, fldA_ptr, fldA_rop, anil_ptr, lenStr_str, amm_max, amm_min, Nat.zero_add, Nat.add_zero, List.length_cons, List.length_nil, Nat.reduceAdd]
  refine c_laws_eqInt64S (Buf.cs XB6) (Buf.cs CB) b0 ?_
  simp only [og_some', onr_ret, gval_true, gval_false, pickV_true, pickV_false, apick_true, apick_false, gpick_true, gpick_false, ibin_leq, ibin_geq, ibin_lss, ibin_gtr, ibin_eql, ibin_neq, sbin_eql, sbin_neq, aun_not, Bool.not_true, Bool.not_false, decide_true, decide_false, if_true, if_false, Bool.false_eq_true, fldA_ptr, fldA_rop, anil_ptr, lenStr_str, amm_max, amm_min, Nat.zero_add, Nat.add_zero, List.length_cons, List.length_nil, Nat.reduceAdd]
  refine c_laws_markInt64S XB6 (by omega) (by omega) fun σ7 XB7 k7 => ?_
  -- what is not x1's stays
  have xf : ∀ ψ, Buf.fam (.own ψ1 0 0 xs.length) ψ → ψ = ψ1 := by rintro ψ ⟨_, _, _, e⟩; cases e; rfl
  have keep7 : ∀ χ, χ ≠ ψ1 → σ7 χ = σ6 χ := fun χ hne => k7 χ fun hf => hne (xf χ hf)
  have n51 : φ5 ≠ ψ1 := by rintro rfl; rw [f5] at g1; cases g1
  have n71 : φ7 ≠ ψ1 := by rintro rfl; exact hX (s4.none h7)
  have F5 : σ7 φ5 = some ⟨0, 4, [[iv c, iv 0, iv s, roP ps]]⟩ := by rw [keep7 _ n51]; exact s6.at f5'
  have F7 : σ7 φ7 = some ⟨0, 4, [[iv c, iv 0, iv s, p]]⟩ := by rw [keep7 _ n71]; exact s6.at f7
  have gB7 : PB σ7 p qs := (gB5.sub s6).keep fun χ hf => keep7 χ (by rintro rfl; exact hX (gB.new hf).1)
  have gP7 : Ps σ7 p ps := hps ▸ gB7.ps
  have E5 := lodA_at (st := 0) (i := 0) (n := 4) (cs := [iv c, iv 0, iv s, roP ps]) F5 rfl rfl rfl
  have E7 := lodA_at (st := 0) (i := 0) (n := 4) (cs := [iv c, iv 0, iv s, p]) F7 rfl rfl rfl
  have gk : ¬ 1 + (xs.length : Int) < 0 := by omega
  simp only [jn, gk, E5, E7, og_some', onr_ret, gval_true, gval_false, pickV_true, pickV_false, apick_true, apick_false, gpick_true, gpick_false, ibin_leq, ibin_geq, ibin_lss, ibin_gtr, ibin_eql, ibin_neq, sbin_eql, sbin_neq, aun_not, Bool.not_true, Bool.not_false, decide_true, decide_false, if_true, if_false, Bool.false_eq_true, fldA_ptr, fldA_rop, anil_ptr, lenStr_str, amm_max, amm_min, Nat.zero_add, Nat.add_zero, List.length_cons, List.length_nil, Nat.reduceAdd]
  refine c_laws_eqSegsResult gP7 (Ps.ro ..) b1 b2 ?_
  simp only [Bool.and_self, E7, og_some', onr_ret, gval_true, gval_false, pickV_true, pickV_false, apick_true, apick_false, gpick_true, gpick_false, ibin_leq, ibin_geq, ibin_lss, ibin_gtr, ibin_eql, ibin_neq, sbin_eql, sbin_neq, aun_not, Bool.not_true, Bool.not_false, decide_true, decide_false, if_true, if_false, Bool.false_eq_true, fldA_ptr, fldA_rop, anil_ptr, lenStr_str, amm_max, amm_min, Nat.zero_add, Nat.add_zero, List.length_cons, List.length_nil, Nat.reduceAdd]
  refine c_laws_markSegsResult gB7 (by omega) (by omega) (by rw [← hps]; omega) fun σ8 gB8 k8 => ?_
  have keep8 : ∀ χ F, σ7 χ = some F → ¬ Foot p qs χ → σ8 χ = some F := fun χ F hF hf => by rw [k8 χ hf (by rw [hF]; simp)]; exact hF
  have K5 := keep8 φ5 _ F5 (fun hf => by have := (gB.new hf).1; rw [s3.at f5] at this; cases this)
  have K7 := keep8 φ7 _ F7 (fun hf => (gB.new hf).2 h7)
  have L7 := lodA_at (st := 0) (i := 0) (n := 4) (cs := [iv c, iv 0, iv s, p]) K7 rfl rfl rfl
  have gP8 : Ps σ8 p (mkl 1 (qs.map fun q => q.2.length)) := marks_mkl qs 1 ▸ gB8.ps
  have hsum : sum (qs.map fun q => q.2.length) = tot ps := by rw [sum_tot, hps]
  have hb : (1 : Int) + (qs.map fun q => q.2.length).length + sum (qs.map fun q => q.2.length) ≤ 1099511627776 := by rw [hsum, List.length_map]; omega
  rw [← hps]
  simp only [L7, og_some', onr_ret, gval_true, gval_false, pickV_true, pickV_false, apick_true, apick_false, gpick_true, gpick_false, ibin_leq, ibin_geq, ibin_lss, ibin_gtr, ibin_eql, ibin_neq, sbin_eql, sbin_neq, aun_not, Bool.not_true, Bool.not_false, decide_true, decide_false, if_true, if_false, Bool.false_eq_true, fldA_ptr, fldA_rop, anil_ptr, lenStr_str, amm_max, amm_min, Nat.zero_add, Nat.add_zero, List.length_cons, List.length_nil, Nat.reduceAdd]
  refine c_laws_heldSegsResult gP8 (by omega) hb ?_
  rw [hsum]
  have gm : ¬ 1 + (tot ps : Int) < 0 := by omega
  simp only [gm, og_some', onr_ret, gval_true, gval_false, pickV_true, pickV_false, apick_true, apick_false, gpick_true, gpick_false, ibin_leq, ibin_geq, ibin_lss, ibin_gtr, ibin_eql, ibin_neq, sbin_eql, sbin_neq, aun_not, Bool.not_true, Bool.not_false, decide_true, decide_false, if_true, if_false, Bool.false_eq_true, fldA_ptr, fldA_rop, anil_ptr, lenStr_str, amm_max, amm_min, Nat.zero_add, Nat.add_zero, List.length_cons, List.length_nil, Nat.reduceAdd]
  refine c_laws_toInt64S (hN _) b0 fun ψ3 g3 => ?_
  have s9 : AH.Sub σ8 (σ8.set ψ3 ⟨0, 1, xs.map fun x => [iv x]⟩) := sub_set (.refl _) g3
  have DB := copy_buf (σ := σ8) (φ := ψ3) (xs := xs)
  generalize σ8.set ψ3 ⟨0, 1, xs.map fun x => [iv x]⟩ = σ9 at s9 DB ⊢
  simp only [og_some', onr_ret, gval_true, gval_false, pickV_true, pickV_false, apick_true, apick_false, gpick_true, gpick_false, ibin_leq, ibin_geq, ibin_lss, ibin_gtr, ibin_eql, ibin_neq, sbin_eql, sbin_neq, aun_not, Bool.not_true, Bool.not_false, decide_true, decide_false, if_true, if_false, Bool.false_eq_true, fldA_ptr, fldA_rop, anil_ptr, lenStr_str, amm_max, amm_min, Nat.zero_add, Nat.add_zero, List.length_cons, List.length_nil, Nat.reduceAdd]
  refine c_impl_OpenSegs (Buf.cs DB) b0 fun σ10 c2 s2' p2 qs2 s10 hB hO2 => ?_
  obtain ⟨rfl, rfl, hps2⟩ := hO.unique hO2
  simp only [new_eq, og_some', onr_ret, gval_true, gval_false, pickV_true, pickV_false, apick_true, apick_false, gpick_true, gpick_false, ibin_leq, ibin_geq, ibin_lss, ibin_gtr, ibin_eql, ibin_neq, sbin_eql, sbin_neq, aun_not, Bool.not_true, Bool.not_false, decide_true, decide_false, if_true, if_false, Bool.false_eq_true, fldA_ptr, fldA_rop, anil_ptr, lenStr_str, amm_max, amm_min, Nat.zero_add, Nat.add_zero, List.length_cons, List.length_nil, Nat.reduceAdd]
  intro φ11 h11
  refine put_new4 h11 rfl hB.out.one.2 fun σ11 s11 f11 k11 => ?_
  have s811 := (s9.trans s10).trans s11
  have M5 := lodA_at (st := 0) (i := 0) (n := 4) (cs := [iv c, iv 0, iv s, roP ps]) (s811.at K5) rfl rfl rfl
  have M7 := lodA_at (st := 0) (i := 0) (n := 4) (cs := [iv c, iv 0, iv s, p]) (s811.at K7) rfl rfl rfl
  have M11 := lodA_at (st := 0) (i := 0) (n := 4) (cs := [iv c, iv 0, iv s, p2]) f11 rfl rfl rfl
  have hP : Ps σ11 p2 ps := hps2 ▸ ((hB.sub (dif_sub _ _)).sub s11).ps
  simp only [M5, M11, og_some', onr_ret, gval_true, gval_false, pickV_true, pickV_false, apick_true, apick_false, gpick_true, gpick_false, ibin_leq, ibin_geq, ibin_lss, ibin_gtr, ibin_eql, ibin_neq, sbin_eql, sbin_neq, aun_not, Bool.not_true, Bool.not_false, decide_true, decide_false, if_true, if_false, Bool.false_eq_true, fldA_ptr, fldA_rop, anil_ptr, lenStr_str, amm_max, amm_min, Nat.zero_add, Nat.add_zero, List.length_cons, List.length_nil, Nat.reduceAdd]
  refine c_laws_eqSegsResult hP (Ps.ro ..) b1 b2 ?_
  simp only [Bool.and_self, M7, og_some', onr_ret, gval_true, gval_false, pickV_true, pickV_false, apick_true, apick_false, gpick_true, gpick_false, ibin_leq, ibin_geq, ibin_lss, ibin_gtr, ibin_eql, ibin_neq, sbin_eql, sbin_neq, aun_not, Bool.not_true, Bool.not_false, decide_true, decide_false, if_true, if_false, Bool.false_eq_true, fldA_ptr, fldA_rop, anil_ptr, lenStr_str, amm_max, amm_min, Nat.zero_add, Nat.add_zero, List.length_cons, List.length_nil, Nat.reduceAdd]
  refine c_laws_heldSegsResult (gP8.sub s811) (by omega) hb ?_
  rw [hsum]
  simp only [gm, og_some', onr_ret, gval_true, gval_false, pickV_true, pickV_false, apick_true, apick_false, gpick_true, gpick_false, ibin_leq, ibin_geq, ibin_lss, ibin_gtr, ibin_eql, ibin_neq, sbin_eql, sbin_neq, aun_not, Bool.not_true, Bool.not_false, decide_true, decide_false, if_true, if_false, Bool.false_eq_true, fldA_ptr, fldA_rop, anil_ptr, lenStr_str, amm_max, amm_min, Nat.zero_add, Nat.add_zero, List.length_cons, List.length_nil, Nat.reduceAdd]
  -- the caller's heap is as it was
  refine aret_sub (σ' := σ) ?_ h
  intro χ F hF
  have a2 := s2.at (s0.at hF)
  have a6 := s36.at (s3.at a2)
  have n1 : χ ≠ ψ1 := by rintro rfl; rw [a2] at g1; cases g1
  have a7 : σ7 χ = some F := by rw [keep7 χ n1]; exact a6
  exact s811.at (keep8 χ F a7 fun hf => by have := (gB.new hf).1; rw [s3.at a2] at this; cases this)
end Go.Proofs.Ytjfdgijgkbojnaa.E
