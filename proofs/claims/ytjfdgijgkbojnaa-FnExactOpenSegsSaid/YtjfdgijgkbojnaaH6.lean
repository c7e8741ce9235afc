/- SegsFault, DepthSegs. -/
import Derived.Test.YtjfdgijgkbojnaaH5
import Derived.Test.YtjfdgijgkbojnaaD1
set_option linter.unusedSectionVars false
set_option linter.unusedSimpArgs false
set_option linter.unusedVariables false
namespace Go.Proofs.Ytjfdgijgkbojnaa.E
open Go Go.RowKit
variable [Lam]
variable {σ : AH} {R : AEnd → AH → Prop}
theorem c_laws_toSegs_ro {p : AV} {size : Int} {ps : List (List Int)} (hS : Ps σ p ps) (hl : ps.length ≤ 1099511627776) (hm : ∀ p, p ∈ ps → p.length ≤ 1099511627776)
    (h : R (.ret (roG size ps)) σ) : acall TP fn_laws_toSegs [.agg [iv size, p]] σ R := by
  refine acall_imp (Q := fun e σ' => ∃ v, e = .ret (.agg [iv size, v]) ∧ AH.Sub σ σ' ∧ Ps (dif σ σ') v ps) (c_laws_toSegs hS hl hm fun v σ' qs h1 hq h2 => ⟨v, rfl, h1, hq ▸ h2.ps⟩) ?_
  rintro e σ' ⟨v, rfl, h1, h2⟩
  exact ⟨_, rfl, _, σ, imp_freeze h1 (.agg2 (.same _) h2.fz), h⟩
theorem tot_mem {ps : List (List Int)} {n : Nat} (h : tot ps ≤ n) : ∀ p, p ∈ ps → p.length ≤ n := by
  intro p hp
  obtain ⟨i, hi, rfl⟩ := List.getElem_of_mem hp
  have := tot_at ps hi; omega
theorem c_laws_FnExactSegsFault {size : Int} {ps : List (List Int)} (hl : ps.length ≤ maxLen) (hm : ∀ p, p ∈ ps → p.length ≤ maxLen)
    (h : R (.ret (bv true)) σ) : acall TP fn_laws_FnExactSegsFault [roG size ps] σ R := by
  refine s_laws_FnExactSegsFault_ok ?_
  unfold s_laws_FnExactSegsFault
  simp only [abox_agg, og_some', onr_ret, gval_true, gval_false, pickV_true, pickV_false, apick_true, apick_false, gpick_true, gpick_false, ibin_leq, ibin_geq, ibin_lss, ibin_gtr, ibin_eql, ibin_neq, sbin_eql, sbin_neq, aun_not, Bool.not_true, Bool.not_false, decide_true, decide_false, if_true, if_false, Bool.false_eq_true, fldA_ptr, fldA_rop, anil_ptr, lenStr_str, amm_max, amm_min, Nat.zero_add, Nat.add_zero, List.length_cons, List.length_nil, Nat.reduceAdd]
  intro φ hφ
  have hs : AH.Sub σ (σ.set φ ⟨0, 2, [[iv size, roP ps]]⟩) := sub_set (.refl σ) hφ
  have hF : (σ.set φ ⟨0, 2, [[iv size, roP ps]]⟩) φ = some ⟨0, 2, [[iv size, roP ps]]⟩ := AH.set_same ..
  generalize hσ1 : σ.set φ ⟨0, 2, [[iv size, roP ps]]⟩ = σ1 at hs hF ⊢
  have e := lodA_at (st := 0) (i := 0) (n := 2) (cs := [iv size, roP ps]) hF rfl rfl rfl
  simp only [e, og_some', onr_ret, gval_true, gval_false, pickV_true, pickV_false, apick_true, apick_false, gpick_true, gpick_false, ibin_leq, ibin_geq, ibin_lss, ibin_gtr, ibin_eql, ibin_neq, sbin_eql, sbin_neq, aun_not, Bool.not_true, Bool.not_false, decide_true, decide_false, if_true, if_false, Bool.false_eq_true, fldA_ptr, fldA_rop, anil_ptr, lenStr_str, amm_max, amm_min, Nat.zero_add, Nat.add_zero, List.length_cons, List.length_nil, Nat.reduceAdd]
  refine c_laws_szSegs (Ps.ro ..) (by omega) (by omega) hl hm fun r r0 r1 r2 => ?_
  simp only [og_some', onr_ret, gval_true, gval_false, pickV_true, pickV_false, apick_true, apick_false, gpick_true, gpick_false, ibin_leq, ibin_geq, ibin_lss, ibin_gtr, ibin_eql, ibin_neq, sbin_eql, sbin_neq, aun_not, Bool.not_true, Bool.not_false, decide_true, decide_false, if_true, if_false, Bool.false_eq_true, fldA_ptr, fldA_rop, anil_ptr, lenStr_str, amm_max, amm_min, Nat.zero_add, Nat.add_zero, List.length_cons, List.length_nil, Nat.reduceAdd]
  by_cases c1 : r < 0
  · simp only [c1, og_some', onr_ret, gval_true, gval_false, pickV_true, pickV_false, apick_true, apick_false, gpick_true, gpick_false, ibin_leq, ibin_geq, ibin_lss, ibin_gtr, ibin_eql, ibin_neq, sbin_eql, sbin_neq, aun_not, Bool.not_true, Bool.not_false, decide_true, decide_false, if_true, if_false, Bool.false_eq_true, fldA_ptr, fldA_rop, anil_ptr, lenStr_str, amm_max, amm_min, Nat.zero_add, Nat.add_zero, List.length_cons, List.length_nil, Nat.reduceAdd]; exact aret_sub hs h
  simp only [c1, e, og_some', onr_ret, gval_true, gval_false, pickV_true, pickV_false, apick_true, apick_false, gpick_true, gpick_false, ibin_leq, ibin_geq, ibin_lss, ibin_gtr, ibin_eql, ibin_neq, sbin_eql, sbin_neq, aun_not, Bool.not_true, Bool.not_false, decide_true, decide_false, if_true, if_false, Bool.false_eq_true, fldA_ptr, fldA_rop, anil_ptr, lenStr_str, amm_max, amm_min, Nat.zero_add, Nat.add_zero, List.length_cons, List.length_nil, Nat.reduceAdd]
  have b1 : ps.length ≤ 1099511627776 := by omega
  have b2 : ∀ p, p ∈ ps → p.length ≤ 1099511627776 := tot_mem (by omega)
  have b3 : ps.length + tot ps ≤ 1099511627776 := by omega
  refine c_laws_toSegs_ro (Ps.ro ..) b1 b2 ?_
  simp only [og_some', onr_ret, gval_true, gval_false, pickV_true, pickV_false, apick_true, apick_false, gpick_true, gpick_false, ibin_leq, ibin_geq, ibin_lss, ibin_gtr, ibin_eql, ibin_neq, sbin_eql, sbin_neq, aun_not, Bool.not_true, Bool.not_false, decide_true, decide_false, if_true, if_false, Bool.false_eq_true, fldA_ptr, fldA_rop, anil_ptr, lenStr_str, amm_max, amm_min, Nat.zero_add, Nat.add_zero, List.length_cons, List.length_nil, Nat.reduceAdd]
  refine c_spec_SegsFault (Ps.ro ..) b3 ?_
  simp only [e, og_some', onr_ret, gval_true, gval_false, pickV_true, pickV_false, apick_true, apick_false, gpick_true, gpick_false, ibin_leq, ibin_geq, ibin_lss, ibin_gtr, ibin_eql, ibin_neq, sbin_eql, sbin_neq, aun_not, Bool.not_true, Bool.not_false, decide_true, decide_false, if_true, if_false, Bool.false_eq_true, fldA_ptr, fldA_rop, anil_ptr, lenStr_str, amm_max, amm_min, Nat.zero_add, Nat.add_zero, List.length_cons, List.length_nil, Nat.reduceAdd]
  refine c_laws_toSegs_ro (Ps.ro ..) b1 b2 ?_
  simp only [new_eq, og_some', onr_ret, gval_true, gval_false, pickV_true, pickV_false, apick_true, apick_false, gpick_true, gpick_false, ibin_leq, ibin_geq, ibin_lss, ibin_gtr, ibin_eql, ibin_neq, sbin_eql, sbin_neq, aun_not, Bool.not_true, Bool.not_false, decide_true, decide_false, if_true, if_false, Bool.false_eq_true, fldA_ptr, fldA_rop, anil_ptr, lenStr_str, amm_max, amm_min, Nat.zero_add, Nat.add_zero, List.length_cons, List.length_nil, Nat.reduceAdd]
  intro ψ hψ
  have hne : ψ ≠ φ := by rintro rfl; rw [hF] at hψ; cases hψ
  refine sto_own (es := [[iv 0, nilS]]) (cs := [iv size, roP ps]) (AH.set_same ..) (by simp) (by simp) rfl rfl (by simp [AV.one, Value.oneCell']) ?_
  simp only [List.set_cons_zero, AH.set_set]
  have hs2 : AH.Sub σ1 (σ1.set ψ ⟨0, 2, [[iv size, roP ps]]⟩) := sub_set (.refl _) hψ
  have e' := lodA_at (st := 0) (i := 0) (n := 2) (cs := [iv size, roP ps]) (hs2.at hF) rfl rfl rfl
  have e2 := lodA_at (σ := σ1.set ψ ⟨0, 2, [[iv size, roP ps]]⟩) (φ := ψ) (st := 0) (i := 0) (n := 2) (cs := [iv size, roP ps]) (AH.set_same ..) rfl rfl rfl
  simp only [e2, og_some', onr_ret, gval_true, gval_false, pickV_true, pickV_false, apick_true, apick_false, gpick_true, gpick_false, ibin_leq, ibin_geq, ibin_lss, ibin_gtr, ibin_eql, ibin_neq, sbin_eql, sbin_neq, aun_not, Bool.not_true, Bool.not_false, decide_true, decide_false, if_true, if_false, Bool.false_eq_true, fldA_ptr, fldA_rop, anil_ptr, lenStr_str, amm_max, amm_min, Nat.zero_add, Nat.add_zero, List.length_cons, List.length_nil, Nat.reduceAdd]
  refine c_impl_SegsFault (Ps.ro ..) b3 ?_
  simp only [e', e2, og_some', onr_ret, gval_true, gval_false, pickV_true, pickV_false, apick_true, apick_false, gpick_true, gpick_false, ibin_leq, ibin_geq, ibin_lss, ibin_gtr, ibin_eql, ibin_neq, sbin_eql, sbin_neq, aun_not, Bool.not_true, Bool.not_false, decide_true, decide_false, if_true, if_false, Bool.false_eq_true, fldA_ptr, fldA_rop, anil_ptr, lenStr_str, amm_max, amm_min, Nat.zero_add, Nat.add_zero, List.length_cons, List.length_nil, Nat.reduceAdd]
  refine c_laws_toSegs_ro (Ps.ro ..) b1 b2 ?_
  simp only [e2, true_and, og_some', onr_ret, gval_true, gval_false, pickV_true, pickV_false, apick_true, apick_false, gpick_true, gpick_false, ibin_leq, ibin_geq, ibin_lss, ibin_gtr, ibin_eql, ibin_neq, sbin_eql, sbin_neq, aun_not, Bool.not_true, Bool.not_false, decide_true, decide_false, if_true, if_false, Bool.false_eq_true, fldA_ptr, fldA_rop, anil_ptr, lenStr_str, amm_max, amm_min, Nat.zero_add, Nat.add_zero, List.length_cons, List.length_nil, Nat.reduceAdd]
  refine c_laws_eqSegs (Ps.ro ..) (Ps.ro ..) b1 b2 ?_
  simp only [Bool.and_self, true_and, og_some', onr_ret, gval_true, gval_false, pickV_true, pickV_false, apick_true, apick_false, gpick_true, gpick_false, ibin_leq, ibin_geq, ibin_lss, ibin_gtr, ibin_eql, ibin_neq, sbin_eql, sbin_neq, aun_not, Bool.not_true, Bool.not_false, decide_true, decide_false, if_true, if_false, Bool.false_eq_true, fldA_ptr, fldA_rop, anil_ptr, lenStr_str, amm_max, amm_min, Nat.zero_add, Nat.add_zero, List.length_cons, List.length_nil, Nat.reduceAdd]
  exact aret_sub (hs.trans hs2) h

/-! ### depth -/
def lastLen : List (List Int) → Nat
  | [] => 0
  | [p] => p.length
  | _ :: ps => lastLen ps
theorem okAt_tail {size : Int} {p : List Int} {ps : List (List Int)} (h : OkP size (p :: ps)) : OkP size ps := by
  intro i hi
  have := h (i + 1) (by simpa using hi)
  simpa using this
theorem tot_ok {size : Int} : ∀ {ps : List (List Int)}, OkP size ps → ps ≠ [] → (tot ps : Int) = ((ps.length : Int) - 1) * size + lastLen ps := by
  intro ps
  induction ps with
  | nil => intro _ h; exact absurd rfl h
  | cons p ps ih =>
    intro h _
    cases ps with
    | nil => simp [tot, lastLen]
    | cons q ps =>
      have h1 := ih (okAt_tail h) (by simp)
      have h2 := (h 0 (by simp)).2.2 (by simp)
      simp only [List.getElem_cons_zero] at h2
      have e1 : (((p :: q :: ps).length : Int) - 1) * size = (((q :: ps).length : Int) - 1) * size + size := by
        have : ((p :: q :: ps).length : Int) - 1 = (((q :: ps).length : Int) - 1) + 1 := by simp
        rw [this, Int.add_mul, Int.one_mul]
      have e2 : (tot (p :: q :: ps) : Int) = p.length + tot (q :: ps) := by simp [tot]
      rw [e1, e2, h1, h2]
      simp only [lastLen]
      omega
theorem lastLen_eq : ∀ {ps : List (List Int)} (h : ps.length - 1 < ps.length), lastLen ps = (ps[ps.length - 1]).length := by
  intro ps
  induction ps with
  | nil => intro h; simp at h
  | cons p ps ih =>
    intro h
    cases ps with
    | nil => rfl
    | cons q ps =>
      have := ih (by simp)
      simp only [lastLen, this]
      congr 1
theorem seg_ok {size : Int} {ps : List (List Int)} (h : segF size ps = 0) : (1 ≤ size ∧ size ≤ 64) ∧ OkP size ps ∧ tot ps ≤ 4000 := by
  unfold segF at h
  split at h
  · split at h
    · split at h
      · cases h
      · exact ⟨‹_›, ‹_›, by omega⟩
    · cases h
  · cases h
theorem c_spec_l12Depth {φ : Nat} {size : Int} {p : AV} {ps : List (List Int)} (hF : σ φ = some ⟨0, 2, [[iv size, p]]⟩) (hP : Ps σ p ps) (hsz : 1 ≤ size ∧ size ≤ 64) (hO : OkP size ps) (hb : ps.length + tot ps ≤ 1099511627776)
    (h : R (.ret (iv (tot ps))) σ) : acall TP fn_spec_l12Depth [.ptr φ 0 0 0] σ R := by
  refine s_spec_l12Depth_ok ?_
  unfold s_spec_l12Depth
  have e0 := lod_at (st := 0) (i := 0) (off := 0) (c := iv size) hF rfl rfl
  have e1 := lod_at (st := 0) (i := 0) (off := 1) (c := p) hF rfl rfl
  simp only [e0, e1, hP.len, og_some', onr_ret, gval_true, gval_false, pickV_true, pickV_false, apick_true, apick_false, gpick_true, gpick_false, ibin_leq, ibin_geq, ibin_lss, ibin_gtr, ibin_eql, ibin_neq, sbin_eql, sbin_neq, aun_not, Bool.not_true, Bool.not_false, decide_true, decide_false, if_true, if_false, Bool.false_eq_true, fldA_ptr, fldA_rop, anil_ptr, lenStr_str, amm_max, amm_min, Nat.zero_add, Nat.add_zero, List.length_cons, List.length_nil, Nat.reduceAdd]
  by_cases c : ps = []
  · subst c
    have : (([] : List (List Int)).length : Int) = 0 := rfl
    simp only [this, og_some', onr_ret, gval_true, gval_false, pickV_true, pickV_false, apick_true, apick_false, gpick_true, gpick_false, ibin_leq, ibin_geq, ibin_lss, ibin_gtr, ibin_eql, ibin_neq, sbin_eql, sbin_neq, aun_not, Bool.not_true, Bool.not_false, decide_true, decide_false, if_true, if_false, Bool.false_eq_true, fldA_ptr, fldA_rop, anil_ptr, lenStr_str, amm_max, amm_min, Nat.zero_add, Nat.add_zero, List.length_cons, List.length_nil, Nat.reduceAdd]
    exact ret_here h
  · have hpos : 0 < ps.length := List.length_pos_iff.2 c
    have c' : ¬ ((ps.length : Int) = 0) := by omega
    have hT := tot_ok hO c
    have hlt : ps.length - 1 < ps.length := by omega
    have hi : ((ps.length - 1 : Nat) : Int) = (ps.length : Int) - 1 := by omega
    obtain ⟨v, q, v', hp, hq, hf, hl, hN⟩ := hP.at hlt
    rw [hi] at hp
    have hL := lastLen_eq hlt
    have hmul : 0 ≤ ((ps.length : Int) - 1) * size := Int.mul_nonneg (by omega) (by omega)
    have s1 := ibin_sub (a := ps.length) (b := 1) (by omega) (by omega)
    have s2 := ibin_mul (a := (ps.length : Int) - 1) (b := size) (by omega) (by omega)
    have s3 : ibin .add (.val (.int .i64 (((ps.length : Int) - 1) * size))) (.val (.int .i64 ((ps[ps.length - 1]).length : Nat))) = some (.val (.int .i64 (tot ps : Nat))) := by
      rw [ibin_add (by omega) (by omega), hT, hL]
    simp only [c', s1, s2, hp, hf, hl, hN.len, s3, og_some', onr_ret, gval_true, gval_false, pickV_true, pickV_false, apick_true, apick_false, gpick_true, gpick_false, ibin_leq, ibin_geq, ibin_lss, ibin_gtr, ibin_eql, ibin_neq, sbin_eql, sbin_neq, aun_not, Bool.not_true, Bool.not_false, decide_true, decide_false, if_true, if_false, Bool.false_eq_true, fldA_ptr, fldA_rop, anil_ptr, lenStr_str, amm_max, amm_min, Nat.zero_add, Nat.add_zero, List.length_cons, List.length_nil, Nat.reduceAdd]
    exact ret_here h
theorem flat_take (ps : List (List Int)) {i : Nat} (hi : i < ps.length) : (ps.take (i + 1)).flatten = (ps.take i).flatten ++ ps[i] := by
  rw [List.take_succ_eq_append_getElem hi, List.flatten_append]; simp
theorem c_impl_Segs_items {size : Int} {p : AV} {ps : List (List Int)} (hP : Ps σ p ps) (hb : ps.length + tot ps ≤ 1099511627776) (hb2 : tot ps ≤ 4294967296)
    (h : ∀ v σ', AH.Sub σ σ' → Buf (dif σ σ') 1 v (ps.flatten.map fun x => [iv x]) → R (.ret v) σ') : acall TP fn_impl_Segs_items [.agg [iv size, p]] σ R := by
  refine s_impl_Segs_items_ok ?_
  unfold s_impl_Segs_items
  simp only [abox_agg, og_some', onr_ret, gval_true, gval_false, pickV_true, pickV_false, apick_true, apick_false, gpick_true, gpick_false, ibin_leq, ibin_geq, ibin_lss, ibin_gtr, ibin_eql, ibin_neq, sbin_eql, sbin_neq, aun_not, Bool.not_true, Bool.not_false, decide_true, decide_false, if_true, if_false, Bool.false_eq_true, fldA_ptr, fldA_rop, anil_ptr, lenStr_str, amm_max, amm_min, Nat.zero_add, Nat.add_zero, List.length_cons, List.length_nil, Nat.reduceAdd]
  intro φ1 h1
  have hs : AH.Sub σ (σ.set φ1 ⟨0, 2, [[iv size, p]]⟩) := sub_set (.refl σ) h1
  have hF : (σ.set φ1 ⟨0, 2, [[iv size, p]]⟩) φ1 = some ⟨0, 2, [[iv size, p]]⟩ := AH.set_same ..
  generalize hσ1 : σ.set φ1 ⟨0, 2, [[iv size, p]]⟩ = σ1 at hs hF ⊢
  refine ⟨by decide, fun φ hφ => ?_⟩
  have hs2 : AH.Sub σ1 (σ1.set φ ⟨0, 1, []⟩) := sub_set (.refl _) hφ
  have e1 := lod_at (st := 0) (i := 0) (off := 1) (c := p) (hs2.at hF) rfl rfl
  have hP2 := (hP.sub hs).sub hs2
  simp only [List.replicate_zero, e1, hP2.len, og_some', onr_ret, gval_true, gval_false, pickV_true, pickV_false, apick_true, apick_false, gpick_true, gpick_false, ibin_leq, ibin_geq, ibin_lss, ibin_gtr, ibin_eql, ibin_neq, sbin_eql, sbin_neq, aun_not, Bool.not_true, Bool.not_false, decide_true, decide_false, if_true, if_false, Bool.false_eq_true, fldA_ptr, fldA_rop, anil_ptr, lenStr_str, amm_max, amm_min, Nat.zero_add, Nat.add_zero, List.length_cons, List.length_nil, Nat.reduceAdd]
  refine lp_rel ps.length (fun i x σi => ∃ a, x = (a, p, iv ps.length, iv i, ()) ∧ AH.Sub σ1 σi ∧ Buf σi 1 a ((ps.take i).flatten.map fun x => [iv x]) ∧ ∀ ψ, Buf.fam a ψ → σ1 ψ = none) ?_ ?_
  · refine ⟨_, rfl, hs2, .inr ⟨φ, 0, by simp, by simp⟩, ?_⟩
    rintro ψ ⟨_, _, _, e⟩
    cases e; exact hφ
  rintro i x σi hi ⟨a, rfl, k1, k2, k3⟩ R' hR'
  have hPi := (hP.sub hs).sub k1
  by_cases hlt : i < ps.length
  · have g0 : (i : Int) < ps.length := by omega
    obtain ⟨v, q, v', hp, hq, hf, hl, hN⟩ := hPi.at hlt
    have hT2 := tot_at ps hlt
    simp only [g0, hp, hq, new_eq, og_some', onr_ret, gval_true, gval_false, pickV_true, pickV_false, apick_true, apick_false, gpick_true, gpick_false, ibin_leq, ibin_geq, ibin_lss, ibin_gtr, ibin_eql, ibin_neq, sbin_eql, sbin_neq, aun_not, Bool.not_true, Bool.not_false, decide_true, decide_false, if_true, if_false, Bool.false_eq_true, fldA_ptr, fldA_rop, anil_ptr, lenStr_str, amm_max, amm_min, Nat.zero_add, Nat.add_zero, List.length_cons, List.length_nil, Nat.reduceAdd]
    intro ψ hψ
    have hN1 := hN.one
    refine sto_own (es := [[nilS]]) (cs := [q]) (AH.set_same ..) (by simp) (by simp) rfl rfl (by simpa using hN1.2) ?_
    simp only [List.set_cons_zero, AH.set_set]
    have hs3 : AH.Sub σi (σi.set ψ ⟨0, 1, [[q]]⟩) := sub_set (.refl _) hψ
    have eq := lod_at (σ := σi.set ψ ⟨0, 1, [[q]]⟩) (φ := ψ) (st := 0) (i := 0) (off := 0) (c := q) (AH.set_same ..) rfl rfl
    simp only [eq, og_some', onr_ret, gval_true, gval_false, pickV_true, pickV_false, apick_true, apick_false, gpick_true, gpick_false, ibin_leq, ibin_geq, ibin_lss, ibin_gtr, ibin_eql, ibin_neq, sbin_eql, sbin_neq, aun_not, Bool.not_true, Bool.not_false, decide_true, decide_false, if_true, if_false, Bool.false_eq_true, fldA_ptr, fldA_rop, anil_ptr, lenStr_str, amm_max, amm_min, Nat.zero_add, Nat.add_zero, List.length_cons, List.length_nil, Nat.reduceAdd]
    generalize hσ5 : σi.set ψ ⟨0, 1, [[q]]⟩ = σ5 at hs3 ⊢
    have hfl : ((ps.take i).flatten.map fun x => [iv x]).length + (ps[i].map fun x => [iv x]).length ≤ 4294967296 := by
      simp only [List.length_map, tot_flatten]; omega
    refine Buf.app (k2.sub hs3) (Sl.elems (hN.sub hs3)) (by intro c hc; obtain ⟨x, _, rfl⟩ := List.mem_map.1 hc; rfl) (by intro c hc; obtain ⟨x, _, rfl⟩ := List.mem_map.1 hc; intro y hy; simp at hy; subst hy; rfl) hfl ?_
    intro a' σ' b1 b2 b3 b4
    rw [← List.map_append, ← flat_take ps hlt] at b1
    simp only [ibin_up hlt (by omega), og_some', onr_ret, gval_true, gval_false, pickV_true, pickV_false, apick_true, apick_false, gpick_true, gpick_false, ibin_leq, ibin_geq, ibin_lss, ibin_gtr, ibin_eql, ibin_neq, sbin_eql, sbin_neq, aun_not, Bool.not_true, Bool.not_false, decide_true, decide_false, if_true, if_false, Bool.false_eq_true, fldA_ptr, fldA_rop, anil_ptr, lenStr_str, amm_max, amm_min, Nat.zero_add, Nat.add_zero, List.length_cons, List.length_nil, Nat.reduceAdd]
    refine hR' _ _ _ hlt (.refl _) ⟨a', rfl, ?_, b1, ?_⟩
    · intro χ F hχ
      have hn : ¬ Buf.fam a χ := fun hf => by rw [k3 χ hf] at hχ; cases hχ
      have hx := (k1.trans hs3) χ F hχ
      rw [b2 χ hn (by rw [hx]; simp)]; exact hx
    · intro χ hχ
      rcases b3 χ hχ with hf | hn
      · exact k3 χ hf
      · exact (k1.trans hs3).none hn
  · have g0 : ¬ (i : Int) < ps.length := by omega
    obtain rfl : i = ps.length := by omega
    simp only [g0, og_some', onr_ret, gval_true, gval_false, pickV_true, pickV_false, apick_true, apick_false, gpick_true, gpick_false, ibin_leq, ibin_geq, ibin_lss, ibin_gtr, ibin_eql, ibin_neq, sbin_eql, sbin_neq, aun_not, Bool.not_true, Bool.not_false, decide_true, decide_false, if_true, if_false, Bool.false_eq_true, fldA_ptr, fldA_rop, anil_ptr, lenStr_str, amm_max, amm_min, Nat.zero_add, Nat.add_zero, List.length_cons, List.length_nil, Nat.reduceAdd]
    rw [List.take_length] at k2
    exact ret_here (h a σi (hs.trans k1) (k2.dif fun ψ hψ => hs.none (k3 ψ hψ)))
noncomputable def depR (size : Int) (ps : List (List Int)) : Int × Int := if segF size ps = 0 then (0, tot ps) else (segF size ps, 0)
theorem c_spec_DepthSegs {size : Int} {p : AV} {ps : List (List Int)} (hP : Ps σ p ps) (hb : ps.length + tot ps ≤ 1099511627776)
    (h : R (.ret (intR (depR size ps).1 (depR size ps).2)) σ) : acall TP fn_spec_DepthSegs [.agg [iv size, p]] σ R := by
  refine s_spec_DepthSegs_ok ?_
  unfold s_spec_DepthSegs
  simp only [abox_agg, new_eq, og_some', onr_ret, gval_true, gval_false, pickV_true, pickV_false, apick_true, apick_false, gpick_true, gpick_false, ibin_leq, ibin_geq, ibin_lss, ibin_gtr, ibin_eql, ibin_neq, sbin_eql, sbin_neq, aun_not, Bool.not_true, Bool.not_false, decide_true, decide_false, if_true, if_false, Bool.false_eq_true, fldA_ptr, fldA_rop, anil_ptr, lenStr_str, amm_max, amm_min, Nat.zero_add, Nat.add_zero, List.length_cons, List.length_nil, Nat.reduceAdd]
  intro φ hφ ψ hψ
  simp only [AH.set_none] at hψ
  obtain ⟨hne, hψ⟩ := hψ
  have hs : AH.Sub σ ((σ.set φ ⟨0, 2, [[iv size, p]]⟩).set ψ ⟨0, 2, [[iv 0, iv 0]]⟩) := sub_set (sub_set (.refl σ) hφ) hψ
  have hF : ((σ.set φ ⟨0, 2, [[iv size, p]]⟩).set ψ ⟨0, 2, [[iv 0, iv 0]]⟩) φ = some ⟨0, 2, [[iv size, p]]⟩ := by rw [AH.set_ne' (Ne.symm hne), AH.set_same]
  have fin : ∀ c v : Int, (c, v) = depR size ps → sto 2 (.ptr ψ 0 0 0) (.agg [iv c, iv v]) ((σ.set φ ⟨0, 2, [[iv size, p]]⟩).set ψ ⟨0, 2, [[iv 0, iv 0]]⟩) fun σ => og (lodA 2 (.ptr ψ 0 0 0) σ) fun r4 => aret r4 σ R := by
    intro c v e
    rw [← e] at h
    refine sto_own (AH.set_same ..) (by simp) (by simp) rfl rfl (by simp [AV.one, Value.oneCell']) ?_
    simp [lodA, acellsAt]
    exact aret_sub (sub_set (sub_set (.refl σ) hφ) hψ) h
  refine c_spec_l12Fault hF (hP.sub hs) hb ?_
  simp only [og_some', onr_ret, gval_true, gval_false, pickV_true, pickV_false, apick_true, apick_false, gpick_true, gpick_false, ibin_leq, ibin_geq, ibin_lss, ibin_gtr, ibin_eql, ibin_neq, sbin_eql, sbin_neq, aun_not, Bool.not_true, Bool.not_false, decide_true, decide_false, if_true, if_false, Bool.false_eq_true, fldA_ptr, fldA_rop, anil_ptr, lenStr_str, amm_max, amm_min, Nat.zero_add, Nat.add_zero, List.length_cons, List.length_nil, Nat.reduceAdd]
  by_cases c : segF size ps = 0
  · simp only [c, og_some', onr_ret, gval_true, gval_false, pickV_true, pickV_false, apick_true, apick_false, gpick_true, gpick_false, ibin_leq, ibin_geq, ibin_lss, ibin_gtr, ibin_eql, ibin_neq, sbin_eql, sbin_neq, aun_not, Bool.not_true, Bool.not_false, decide_true, decide_false, if_true, if_false, Bool.false_eq_true, fldA_ptr, fldA_rop, anil_ptr, lenStr_str, amm_max, amm_min, Nat.zero_add, Nat.add_zero, List.length_cons, List.length_nil, Nat.reduceAdd]
    obtain ⟨o1, o2, o3⟩ := seg_ok c
    refine c_spec_l12Depth hF (hP.sub hs) o1 o2 hb ?_
    simp only [bld2_1, og_some', onr_ret, gval_true, gval_false, pickV_true, pickV_false, apick_true, apick_false, gpick_true, gpick_false, ibin_leq, ibin_geq, ibin_lss, ibin_gtr, ibin_eql, ibin_neq, sbin_eql, sbin_neq, aun_not, Bool.not_true, Bool.not_false, decide_true, decide_false, if_true, if_false, Bool.false_eq_true, fldA_ptr, fldA_rop, anil_ptr, lenStr_str, amm_max, amm_min, Nat.zero_add, Nat.add_zero, List.length_cons, List.length_nil, Nat.reduceAdd]
    exact fin 0 _ (by simp [depR, c])
  · simp only [c, bld2_0, og_some', onr_ret, gval_true, gval_false, pickV_true, pickV_false, apick_true, apick_false, gpick_true, gpick_false, ibin_leq, ibin_geq, ibin_lss, ibin_gtr, ibin_eql, ibin_neq, sbin_eql, sbin_neq, aun_not, Bool.not_true, Bool.not_false, decide_true, decide_false, if_true, if_false, Bool.false_eq_true, fldA_ptr, fldA_rop, anil_ptr, lenStr_str, amm_max, amm_min, Nat.zero_add, Nat.add_zero, List.length_cons, List.length_nil, Nat.reduceAdd]
    exact fin _ 0 (by simp [depR, c])
theorem c_impl_DepthSegs {size : Int} {p : AV} {ps : List (List Int)} (hP : Ps σ p ps) (hb : ps.length + tot ps ≤ 1099511627776)
    (h : R (.ret (intR (depR size ps).1 (depR size ps).2)) σ) : acall TP fn_impl_DepthSegs [.agg [iv size, p]] σ R := by
  refine s_impl_DepthSegs_ok ?_
  unfold s_impl_DepthSegs
  simp only [abox_agg, new_eq, og_some', onr_ret, gval_true, gval_false, pickV_true, pickV_false, apick_true, apick_false, gpick_true, gpick_false, ibin_leq, ibin_geq, ibin_lss, ibin_gtr, ibin_eql, ibin_neq, sbin_eql, sbin_neq, aun_not, Bool.not_true, Bool.not_false, decide_true, decide_false, if_true, if_false, Bool.false_eq_true, fldA_ptr, fldA_rop, anil_ptr, lenStr_str, amm_max, amm_min, Nat.zero_add, Nat.add_zero, List.length_cons, List.length_nil, Nat.reduceAdd]
  intro φ hφ ψ hψ
  simp only [AH.set_none] at hψ
  obtain ⟨hne, hψ⟩ := hψ
  have hs : AH.Sub σ ((σ.set φ ⟨0, 2, [[iv size, p]]⟩).set ψ ⟨0, 2, [[iv 0, iv 0]]⟩) := sub_set (sub_set (.refl σ) hφ) hψ
  have hF : ((σ.set φ ⟨0, 2, [[iv size, p]]⟩).set ψ ⟨0, 2, [[iv 0, iv 0]]⟩) φ = some ⟨0, 2, [[iv size, p]]⟩ := by rw [AH.set_ne' (Ne.symm hne), AH.set_same]
  have hG : ((σ.set φ ⟨0, 2, [[iv size, p]]⟩).set ψ ⟨0, 2, [[iv 0, iv 0]]⟩) ψ = some ⟨0, 2, [[iv 0, iv 0]]⟩ := AH.set_same ..
  generalize hσ1 : (σ.set φ ⟨0, 2, [[iv size, p]]⟩).set ψ ⟨0, 2, [[iv 0, iv 0]]⟩ = σ1 at hs hF hG ⊢
  have fin : ∀ (c v : Int) (σ2 : AH), AH.Sub σ1 σ2 → (c, v) = depR size ps → sto 2 (.ptr ψ 0 0 0) (.agg [iv c, iv v]) σ2 fun σ => og (lodA 2 (.ptr ψ 0 0 0) σ) fun r4 => aret r4 σ R := by
    intro c v σ2 hs2 e
    rw [← e] at h
    refine sto_own (hs2.at hG) (by simp) (by simp) rfl rfl (by simp [AV.one, Value.oneCell']) ?_
    simp [lodA, acellsAt]
    exact aret_sub (sub_set (hs.trans hs2) hψ) h
  have e := lodA_at (st := 0) (i := 0) (n := 2) (cs := [iv size, p]) hF rfl rfl rfl
  simp only [e, og_some', onr_ret, gval_true, gval_false, pickV_true, pickV_false, apick_true, apick_false, gpick_true, gpick_false, ibin_leq, ibin_geq, ibin_lss, ibin_gtr, ibin_eql, ibin_neq, sbin_eql, sbin_neq, aun_not, Bool.not_true, Bool.not_false, decide_true, decide_false, if_true, if_false, Bool.false_eq_true, fldA_ptr, fldA_rop, anil_ptr, lenStr_str, amm_max, amm_min, Nat.zero_add, Nat.add_zero, List.length_cons, List.length_nil, Nat.reduceAdd]
  refine c_impl_SegsFault (hP.sub hs) hb ?_
  simp only [og_some', onr_ret, gval_true, gval_false, pickV_true, pickV_false, apick_true, apick_false, gpick_true, gpick_false, ibin_leq, ibin_geq, ibin_lss, ibin_gtr, ibin_eql, ibin_neq, sbin_eql, sbin_neq, aun_not, Bool.not_true, Bool.not_false, decide_true, decide_false, if_true, if_false, Bool.false_eq_true, fldA_ptr, fldA_rop, anil_ptr, lenStr_str, amm_max, amm_min, Nat.zero_add, Nat.add_zero, List.length_cons, List.length_nil, Nat.reduceAdd]
  by_cases c : segF size ps = 0
  · simp only [c, e, og_some', onr_ret, gval_true, gval_false, pickV_true, pickV_false, apick_true, apick_false, gpick_true, gpick_false, ibin_leq, ibin_geq, ibin_lss, ibin_gtr, ibin_eql, ibin_neq, sbin_eql, sbin_neq, aun_not, Bool.not_true, Bool.not_false, decide_true, decide_false, if_true, if_false, Bool.false_eq_true, fldA_ptr, fldA_rop, anil_ptr, lenStr_str, amm_max, amm_min, Nat.zero_add, Nat.add_zero, List.length_cons, List.length_nil, Nat.reduceAdd]
    obtain ⟨o1, o2, o3⟩ := seg_ok c
    refine c_impl_Segs_items (hP.sub hs) hb (by omega) fun v σ' k1 k2 => ?_
    simp only [k2.cs.len, bld2_1, og_some', onr_ret, gval_true, gval_false, pickV_true, pickV_false, apick_true, apick_false, gpick_true, gpick_false, ibin_leq, ibin_geq, ibin_lss, ibin_gtr, ibin_eql, ibin_neq, sbin_eql, sbin_neq, aun_not, Bool.not_true, Bool.not_false, decide_true, decide_false, if_true, if_false, Bool.false_eq_true, fldA_ptr, fldA_rop, anil_ptr, lenStr_str, amm_max, amm_min, Nat.zero_add, Nat.add_zero, List.length_cons, List.length_nil, Nat.reduceAdd]
    refine fin 0 _ σ' k1 ?_
    rw [tot_flatten]; simp [depR, c]
  · simp only [c, bld2_0, og_some', onr_ret, gval_true, gval_false, pickV_true, pickV_false, apick_true, apick_false, gpick_true, gpick_false, ibin_leq, ibin_geq, ibin_lss, ibin_gtr, ibin_eql, ibin_neq, sbin_eql, sbin_neq, aun_not, Bool.not_true, Bool.not_false, decide_true, decide_false, if_true, if_false, Bool.false_eq_true, fldA_ptr, fldA_rop, anil_ptr, lenStr_str, amm_max, amm_min, Nat.zero_add, Nat.add_zero, List.length_cons, List.length_nil, Nat.reduceAdd]
    exact fin _ 0 σ1 (.refl _) (by simp [depR, c])
theorem c_laws_FnExactDepthSegs {size : Int} {ps : List (List Int)} (hl : ps.length ≤ maxLen) (hm : ∀ p, p ∈ ps → p.length ≤ maxLen)
    (h : R (.ret (bv true)) σ) : acall TP fn_laws_FnExactDepthSegs [roG size ps] σ R := by
  refine s_laws_FnExactDepthSegs_ok ?_
  unfold s_laws_FnExactDepthSegs
  simp only [abox_agg, og_some', onr_ret, gval_true, gval_false, pickV_true, pickV_false, apick_true, apick_false, gpick_true, gpick_false, ibin_leq, ibin_geq, ibin_lss, ibin_gtr, ibin_eql, ibin_neq, sbin_eql, sbin_neq, aun_not, Bool.not_true, Bool.not_false, decide_true, decide_false, if_true, if_false, Bool.false_eq_true, fldA_ptr, fldA_rop, anil_ptr, lenStr_str, amm_max, amm_min, Nat.zero_add, Nat.add_zero, List.length_cons, List.length_nil, Nat.reduceAdd]
  intro φ hφ
  have hs : AH.Sub σ (σ.set φ ⟨0, 2, [[iv size, roP ps]]⟩) := sub_set (.refl σ) hφ
  have hF : (σ.set φ ⟨0, 2, [[iv size, roP ps]]⟩) φ = some ⟨0, 2, [[iv size, roP ps]]⟩ := AH.set_same ..
  generalize hσ1 : σ.set φ ⟨0, 2, [[iv size, roP ps]]⟩ = σ1 at hs hF ⊢
  have e := lodA_at (st := 0) (i := 0) (n := 2) (cs := [iv size, roP ps]) hF rfl rfl rfl
  simp only [e, og_some', onr_ret, gval_true, gval_false, pickV_true, pickV_false, apick_true, apick_false, gpick_true, gpick_false, ibin_leq, ibin_geq, ibin_lss, ibin_gtr, ibin_eql, ibin_neq, sbin_eql, sbin_neq, aun_not, Bool.not_true, Bool.not_false, decide_true, decide_false, if_true, if_false, Bool.false_eq_true, fldA_ptr, fldA_rop, anil_ptr, lenStr_str, amm_max, amm_min, Nat.zero_add, Nat.add_zero, List.length_cons, List.length_nil, Nat.reduceAdd]
  refine c_laws_szSegs (Ps.ro ..) (by omega) (by omega) hl hm fun r r0 r1 r2 => ?_
  simp only [og_some', onr_ret, gval_true, gval_false, pickV_true, pickV_false, apick_true, apick_false, gpick_true, gpick_false, ibin_leq, ibin_geq, ibin_lss, ibin_gtr, ibin_eql, ibin_neq, sbin_eql, sbin_neq, aun_not, Bool.not_true, Bool.not_false, decide_true, decide_false, if_true, if_false, Bool.false_eq_true, fldA_ptr, fldA_rop, anil_ptr, lenStr_str, amm_max, amm_min, Nat.zero_add, Nat.add_zero, List.length_cons, List.length_nil, Nat.reduceAdd]
  by_cases c1 : r < 0
  · simp only [c1, og_some', onr_ret, gval_true, gval_false, pickV_true, pickV_false, apick_true, apick_false, gpick_true, gpick_false, ibin_leq, ibin_geq, ibin_lss, ibin_gtr, ibin_eql, ibin_neq, sbin_eql, sbin_neq, aun_not, Bool.not_true, Bool.not_false, decide_true, decide_false, if_true, if_false, Bool.false_eq_true, fldA_ptr, fldA_rop, anil_ptr, lenStr_str, amm_max, amm_min, Nat.zero_add, Nat.add_zero, List.length_cons, List.length_nil, Nat.reduceAdd]; exact aret_sub hs h
  simp only [c1, e, og_some', onr_ret, gval_true, gval_false, pickV_true, pickV_false, apick_true, apick_false, gpick_true, gpick_false, ibin_leq, ibin_geq, ibin_lss, ibin_gtr, ibin_eql, ibin_neq, sbin_eql, sbin_neq, aun_not, Bool.not_true, Bool.not_false, decide_true, decide_false, if_true, if_false, Bool.false_eq_true, fldA_ptr, fldA_rop, anil_ptr, lenStr_str, amm_max, amm_min, Nat.zero_add, Nat.add_zero, List.length_cons, List.length_nil, Nat.reduceAdd]
  have b1 : ps.length ≤ 1099511627776 := by omega
  have b2 : ∀ p, p ∈ ps → p.length ≤ 1099511627776 := tot_mem (by omega)
  have b3 : ps.length + tot ps ≤ 1099511627776 := by omega
  refine c_laws_toSegs_ro (Ps.ro ..) b1 b2 ?_
  simp only [og_some', onr_ret, gval_true, gval_false, pickV_true, pickV_false, apick_true, apick_false, gpick_true, gpick_false, ibin_leq, ibin_geq, ibin_lss, ibin_gtr, ibin_eql, ibin_neq, sbin_eql, sbin_neq, aun_not, Bool.not_true, Bool.not_false, decide_true, decide_false, if_true, if_false, Bool.false_eq_true, fldA_ptr, fldA_rop, anil_ptr, lenStr_str, amm_max, amm_min, Nat.zero_add, Nat.add_zero, List.length_cons, List.length_nil, Nat.reduceAdd]
  refine c_spec_DepthSegs (Ps.ro ..) b3 ?_
  simp only [new_eq, og_some', onr_ret, gval_true, gval_false, pickV_true, pickV_false, apick_true, apick_false, gpick_true, gpick_false, ibin_leq, ibin_geq, ibin_lss, ibin_gtr, ibin_eql, ibin_neq, sbin_eql, sbin_neq, aun_not, Bool.not_true, Bool.not_false, decide_true, decide_false, if_true, if_false, Bool.false_eq_true, fldA_ptr, fldA_rop, anil_ptr, lenStr_str, amm_max, amm_min, Nat.zero_add, Nat.add_zero, List.length_cons, List.length_nil, Nat.reduceAdd]
  intro χ hχ
  refine sto_own (es := [[iv 0, iv 0]]) (cs := [iv (depR size ps).1, iv (depR size ps).2]) (AH.set_same ..) (by simp) (by simp) rfl rfl (by simp [AV.one, Value.oneCell']) ?_
  simp only [List.set_cons_zero, AH.set_set]
  have hsχ : AH.Sub σ1 (σ1.set χ ⟨0, 2, [[iv (depR size ps).1, iv (depR size ps).2]]⟩) := sub_set (.refl _) hχ
  have hχ1 : (σ1.set χ ⟨0, 2, [[iv (depR size ps).1, iv (depR size ps).2]]⟩) χ = some ⟨0, 2, [[iv (depR size ps).1, iv (depR size ps).2]]⟩ := AH.set_same ..
  generalize hσ2 : σ1.set χ ⟨0, 2, [[iv (depR size ps).1, iv (depR size ps).2]]⟩ = σ2 at hsχ hχ1 ⊢
  have e2 := lodA_at (st := 0) (i := 0) (n := 2) (cs := [iv size, roP ps]) (hsχ.at hF) rfl rfl rfl
  simp only [e2, og_some', onr_ret, gval_true, gval_false, pickV_true, pickV_false, apick_true, apick_false, gpick_true, gpick_false, ibin_leq, ibin_geq, ibin_lss, ibin_gtr, ibin_eql, ibin_neq, sbin_eql, sbin_neq, aun_not, Bool.not_true, Bool.not_false, decide_true, decide_false, if_true, if_false, Bool.false_eq_true, fldA_ptr, fldA_rop, anil_ptr, lenStr_str, amm_max, amm_min, Nat.zero_add, Nat.add_zero, List.length_cons, List.length_nil, Nat.reduceAdd]
  refine c_laws_toSegs_ro (Ps.ro ..) b1 b2 ?_
  simp only [new_eq, og_some', onr_ret, gval_true, gval_false, pickV_true, pickV_false, apick_true, apick_false, gpick_true, gpick_false, ibin_leq, ibin_geq, ibin_lss, ibin_gtr, ibin_eql, ibin_neq, sbin_eql, sbin_neq, aun_not, Bool.not_true, Bool.not_false, decide_true, decide_false, if_true, if_false, Bool.false_eq_true, fldA_ptr, fldA_rop, anil_ptr, lenStr_str, amm_max, amm_min, Nat.zero_add, Nat.add_zero, List.length_cons, List.length_nil, Nat.reduceAdd]
  intro ψ hψ
  refine sto_own (es := [[iv 0, nilS]]) (cs := [iv size, roP ps]) (AH.set_same ..) (by simp) (by simp) rfl rfl (by simp [AV.one, Value.oneCell']) ?_
  simp only [List.set_cons_zero, AH.set_set]
  have hs3 : AH.Sub σ2 (σ2.set ψ ⟨0, 2, [[iv size, roP ps]]⟩) := sub_set (.refl _) hψ
  have hψ3 : (σ2.set ψ ⟨0, 2, [[iv size, roP ps]]⟩) ψ = some ⟨0, 2, [[iv size, roP ps]]⟩ := AH.set_same ..
  generalize hσ3 : σ2.set ψ ⟨0, 2, [[iv size, roP ps]]⟩ = σ3 at hs3 hψ3 ⊢
  have e3 := lodA_at (st := 0) (i := 0) (n := 2) (cs := [iv size, roP ps]) hψ3 rfl rfl rfl
  simp only [e3, og_some', onr_ret, gval_true, gval_false, pickV_true, pickV_false, apick_true, apick_false, gpick_true, gpick_false, ibin_leq, ibin_geq, ibin_lss, ibin_gtr, ibin_eql, ibin_neq, sbin_eql, sbin_neq, aun_not, Bool.not_true, Bool.not_false, decide_true, decide_false, if_true, if_false, Bool.false_eq_true, fldA_ptr, fldA_rop, anil_ptr, lenStr_str, amm_max, amm_min, Nat.zero_add, Nat.add_zero, List.length_cons, List.length_nil, Nat.reduceAdd]
  refine c_impl_DepthSegs (Ps.ro ..) b3 ?_
  simp only [new_eq, og_some', onr_ret, gval_true, gval_false, pickV_true, pickV_false, apick_true, apick_false, gpick_true, gpick_false, ibin_leq, ibin_geq, ibin_lss, ibin_gtr, ibin_eql, ibin_neq, sbin_eql, sbin_neq, aun_not, Bool.not_true, Bool.not_false, decide_true, decide_false, if_true, if_false, Bool.false_eq_true, fldA_ptr, fldA_rop, anil_ptr, lenStr_str, amm_max, amm_min, Nat.zero_add, Nat.add_zero, List.length_cons, List.length_nil, Nat.reduceAdd]
  intro ω hω
  refine sto_own (es := [[iv 0, iv 0]]) (cs := [iv (depR size ps).1, iv (depR size ps).2]) (AH.set_same ..) (by simp) (by simp) rfl rfl (by simp [AV.one, Value.oneCell']) ?_
  simp only [List.set_cons_zero, AH.set_set]
  have hs4 : AH.Sub σ3 (σ3.set ω ⟨0, 2, [[iv (depR size ps).1, iv (depR size ps).2]]⟩) := sub_set (.refl _) hω
  have hω4 : (σ3.set ω ⟨0, 2, [[iv (depR size ps).1, iv (depR size ps).2]]⟩) ω = some ⟨0, 2, [[iv (depR size ps).1, iv (depR size ps).2]]⟩ := AH.set_same ..
  generalize hσ4 : σ3.set ω ⟨0, 2, [[iv (depR size ps).1, iv (depR size ps).2]]⟩ = σ4 at hs4 hω4 ⊢
  have e4 := lodA_at (st := 0) (i := 0) (n := 2) (cs := [iv (depR size ps).1, iv (depR size ps).2]) hω4 rfl rfl rfl
  have e5 := lodA_at (st := 0) (i := 0) (n := 2) (cs := [iv (depR size ps).1, iv (depR size ps).2]) ((hs3.trans hs4).at hχ1) rfl rfl rfl
  have e6 := lodA_at (st := 0) (i := 0) (n := 2) (cs := [iv size, roP ps]) (hs4.at hψ3) rfl rfl rfl
  have e7 := lodA_at (st := 0) (i := 0) (n := 2) (cs := [iv size, roP ps]) ((hsχ.trans (hs3.trans hs4)).at hF) rfl rfl rfl
  simp only [e4, e5, og_some', onr_ret, gval_true, gval_false, pickV_true, pickV_false, apick_true, apick_false, gpick_true, gpick_false, ibin_leq, ibin_geq, ibin_lss, ibin_gtr, ibin_eql, ibin_neq, sbin_eql, sbin_neq, aun_not, Bool.not_true, Bool.not_false, decide_true, decide_false, if_true, if_false, Bool.false_eq_true, fldA_ptr, fldA_rop, anil_ptr, lenStr_str, amm_max, amm_min, Nat.zero_add, Nat.add_zero, List.length_cons, List.length_nil, Nat.reduceAdd]
  refine c_laws_eqIntResult ?_
  simp only [Bool.and_self, e6, e7, og_some', onr_ret, gval_true, gval_false, pickV_true, pickV_false, apick_true, apick_false, gpick_true, gpick_false, ibin_leq, ibin_geq, ibin_lss, ibin_gtr, ibin_eql, ibin_neq, sbin_eql, sbin_neq, aun_not, Bool.not_true, Bool.not_false, decide_true, decide_false, if_true, if_false, Bool.false_eq_true, fldA_ptr, fldA_rop, anil_ptr, lenStr_str, amm_max, amm_min, Nat.zero_add, Nat.add_zero, List.length_cons, List.length_nil, Nat.reduceAdd]
  refine c_laws_toSegs_ro (Ps.ro ..) b1 b2 ?_
  simp only [e6, true_and, og_some', onr_ret, gval_true, gval_false, pickV_true, pickV_false, apick_true, apick_false, gpick_true, gpick_false, ibin_leq, ibin_geq, ibin_lss, ibin_gtr, ibin_eql, ibin_neq, sbin_eql, sbin_neq, aun_not, Bool.not_true, Bool.not_false, decide_true, decide_false, if_true, if_false, Bool.false_eq_true, fldA_ptr, fldA_rop, anil_ptr, lenStr_str, amm_max, amm_min, Nat.zero_add, Nat.add_zero, List.length_cons, List.length_nil, Nat.reduceAdd]
  refine c_laws_eqSegs (Ps.ro ..) (Ps.ro ..) b1 b2 ?_
  simp only [Bool.and_self, true_and, og_some', onr_ret, gval_true, gval_false, pickV_true, pickV_false, apick_true, apick_false, gpick_true, gpick_false, ibin_leq, ibin_geq, ibin_lss, ibin_gtr, ibin_eql, ibin_neq, sbin_eql, sbin_neq, aun_not, Bool.not_true, Bool.not_false, decide_true, decide_false, if_true, if_false, Bool.false_eq_true, fldA_ptr, fldA_rop, anil_ptr, lenStr_str, amm_max, amm_min, Nat.zero_add, Nat.add_zero, List.length_cons, List.length_nil, Nat.reduceAdd]
  exact aret_sub (hs.trans (hsχ.trans (hs3.trans hs4))) h
end Go.Proofs.Ytjfdgijgkbojnaa.E
