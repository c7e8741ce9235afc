/- ConfigFault. -/
import Derived.Test.YtjfdgijgkbojnaaG1
set_option linter.unusedSectionVars false
set_option linter.unusedSimpArgs false
set_option linter.unusedVariables false
namespace Go.Proofs.Ytjfdgijgkbojnaa.E
open Go Go.RowKit
variable [Lam]
theorem c_impl_in {x lo hi : Int} {σ : AH} {R : AEnd → AH → Prop} (h : R (.ret (bv (decide (lo ≤ x) && decide (x ≤ hi)))) σ) : acall TP fn_impl_in [iv x, iv lo, iv hi] σ R := by
  refine s_impl_in_ok ?_
  unfold s_impl_in
  by_cases h1 : lo ≤ x
  · simp [h1] at h ⊢; exact ret_here h
  · simp [h1] at h ⊢; exact ret_here h
theorem c_laws_toConfig {a b : Int} {c d : Bool} {σ : AH} {R : AEnd → AH → Prop} (h : R (.ret (.agg [iv a, iv b, bv c, bv d])) σ) : acall TP fn_laws_toConfig [.agg [iv a, iv b, bv c, bv d]] σ R := by
  refine s_laws_toConfig_ok ?_
  unfold s_laws_toConfig
  simp only [abox_agg, new_eq]
  intro φ1 h1 φ2 h2 φ3 h3
  simp only [AH.set_none] at h2 h3
  obtain ⟨n21, h2⟩ := h2
  obtain ⟨n32, n31, h3⟩ := h3
  have n12 := Ne.symm n21
  have n23 := Ne.symm n32
  have n13 := Ne.symm n31
  simp [lod, lodA, acellsAt, sto, acells, Value.cells, AV.one, Value.oneCell', Fam.splice, spl, AH.set_ne', AH.set_turn, n12, n13, n23, n21, n31, n32]
  exact aret_sub (sub_set (sub_set (sub_set (.refl σ) h1) h2) h3) h
variable {σ : AH} {R : AEnd → AH → Prop}
theorem c_spec_l1In {x lo hi : Int} (h : R (.ret (bv (decide (lo ≤ x) && decide (x ≤ hi)))) σ) : acall TP fn_spec_l1In [iv x, iv lo, iv hi] σ R := by
  refine s_spec_l1In_ok ?_
  unfold s_spec_l1In
  by_cases h1 : lo ≤ x
  · simp [h1] at h ⊢; exact ret_here h
  · simp [h1] at h ⊢; exact ret_here h
theorem c_spec_l11Table {x : Int} (h : R (.ret (bv (decide (0 ≤ x) && decide (x ≤ 15)))) σ) : acall TP fn_spec_l11Table [iv x] σ R := s_spec_l11Table_ok (c_spec_l1In (ret_here h))
theorem c_spec_l12Size {x : Int} (h : R (.ret (bv (decide (1 ≤ x) && decide (x ≤ 64)))) σ) : acall TP fn_spec_l12Size [iv x] σ R := s_spec_l12Size_ok (c_spec_l1In (ret_here h))
theorem c_impl_isSize {x : Int} (h : R (.ret (bv (decide (1 ≤ x) && decide (x ≤ 64)))) σ) : acall TP fn_impl_isSize [iv x] σ R := s_impl_isSize_ok (c_impl_in (ret_here h))
theorem c_impl_TableFault {x : Int} (h : R (.ret (iv (if decide (0 ≤ x) && decide (x ≤ 15) then 0 else 3))) σ) : acall TP fn_impl_TableFault [iv x] σ R := by
  refine s_impl_TableFault_ok (c_impl_in ?_)
  cases hc : (decide (0 ≤ x) && decide (x ≤ 15)) <;> simp [hc, apick] at h ⊢ <;> exact ret_here h
def cfgF (s t : Int) : Int := if (decide (1 ≤ s) && decide (s ≤ 64)) && (decide (0 ≤ t) && decide (t ≤ 15)) then 0 else 3
theorem c_impl_ConfigFault {s t : Int} {p c : Bool} (h : R (.ret (iv (cfgF s t))) σ) : acall TP fn_impl_ConfigFault [.agg [iv s, iv t, bv p, bv c]] σ R := by
  refine s_impl_ConfigFault_ok ?_
  unfold s_impl_ConfigFault
  simp only [abox_agg]
  intro φ hφ
  have fin : ∀ v, v = cfgF s t → aret (iv v) (σ.set φ ⟨0, 4, [[iv s, iv t, bv p, bv c]]⟩) R := fun v e => by rw [e]; exact aret_sub (sub_set (.refl σ) hφ) h
  unfold jn
  simp only [fldA_ptr, og_some', lod, acellsAt, AH.set_same]
  simp
  refine c_impl_isSize ?_
  unfold cfgF at fin
  simp only [onr_ret]
  cases h1 : (decide (1 ≤ s) && decide (s ≤ 64))
  · simp [gpick, apick]; exact fin 3 (by simp [h1])
  · simp [gpick]
    refine c_impl_TableFault ?_
    simp only [onr_ret]
    cases h2 : (decide (0 ≤ t) && decide (t ≤ 15))
    · simp [apick]; exact fin 3 (by simp [h2])
    · simp [apick]; exact fin 0 (by simp [h1, h2])
theorem c_spec_l13Fault {s t : Int} {p c : Bool} {φ : Nat} (hσ : σ φ = some ⟨0, 4, [[iv s, iv t, bv p, bv c]]⟩) (h : R (.ret (iv (cfgF s t))) σ) : acall TP fn_spec_l13Fault [.ptr φ 0 0 0] σ R := by
  refine s_spec_l13Fault_ok ?_
  unfold s_spec_l13Fault
  have fin : ∀ v, v = cfgF s t → aret (iv v) σ R := fun v e => by rw [e]; exact ret_here h
  unfold jn
  simp [lod, acellsAt, hσ]
  refine c_spec_l12Size ?_
  unfold cfgF at fin
  simp only [onr_ret]
  cases h1 : (decide (1 ≤ s) && decide (s ≤ 64))
  · simp [gpick, apick]; exact fin 3 (by simp [h1])
  · simp [gpick, hσ]
    refine c_spec_l11Table ?_
    simp only [onr_ret]
    cases h2 : (decide (0 ≤ t) && decide (t ≤ 15))
    · simp [apick]; exact fin 3 (by simp [h2])
    · simp [apick]; exact fin 0 (by simp [h1, h2])
theorem c_spec_ConfigFault {s t : Int} {p c : Bool} (h : R (.ret (iv (cfgF s t))) σ) : acall TP fn_spec_ConfigFault [.agg [iv s, iv t, bv p, bv c]] σ R := by
  refine s_spec_ConfigFault_ok ?_
  unfold s_spec_ConfigFault
  simp only [abox_agg]
  intro φ hφ
  refine c_spec_l13Fault (s := s) (t := t) (p := p) (c := c) (by simp [AH.set]) ?_
  exact aret_sub (sub_set (.refl σ) hφ) h
theorem c_laws_FnExactConfigFault {s t : Int} {p c : Bool} (h : R (.ret (bv true)) σ) : acall TP fn_laws_FnExactConfigFault [.agg [iv s, iv t, bv p, bv c]] σ R := by
  refine s_laws_FnExactConfigFault_ok ?_
  unfold s_laws_FnExactConfigFault
  simp only [abox_agg]
  intro φ hφ
  simp [lodA, acellsAt]
  refine c_laws_toConfig ?_
  simp only [onr_ret]
  refine c_spec_ConfigFault ?_
  simp
  refine c_laws_toConfig ?_
  simp only [onr_ret]
  refine c_impl_ConfigFault ?_
  simp [apick]
  exact aret_sub (sub_set (.refl σ) hφ) h
end Go.Proofs.Ytjfdgijgkbojnaa.E
