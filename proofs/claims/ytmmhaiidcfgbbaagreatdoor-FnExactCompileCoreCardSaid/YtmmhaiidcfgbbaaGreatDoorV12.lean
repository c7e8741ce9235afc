/- Cores: the fault of all; code of cores, by both. -/
import Derived.Test.YtmmhaiidcfgbbaaGreatDoorV11
set_option linter.unusedSectionVars false
set_option linter.unusedSimpArgs false
set_option linter.unusedVariables false
namespace Go.Proofs.YtmmhaiidcfgbbaaGreatDoor.E
open Go Go.RowKit
set_option maxRecDepth 100000
def hasKB (k n : Int) : Bool := if k = 4 then decide (n = 3) else if k = 5 ∨ k = 7 ∨ k = 8 then decide (n = 1) else if k = 6 then decide (1 ≤ n) else if k = 9 then decide (1 ≤ n) && decide (n ≤ 4) else decide (n = 0)
def kidF (cs : List Cor) (i : Nat) : Int := if hasKB (corAt cs i).kind ((kidsC cs i).length : Int) then 0 else 1
def coresF (cs : List Cor) : Int := if inB 1 160 (cs.length : Int) then (if firstF (coreF cs) 0 cs.length ≠ 0 then firstF (coreF cs) 0 cs.length else firstF (kidF cs) 0 cs.length) else 2
variable [L : Lam]
theorem coreF_bare {cs : List Cor} {i : Nat} (h : coreF cs i = 0) : bareC (corAt cs i) = true := by
  unfold coreF at h
  split at h
  · cases h
  · rename_i c; simpa using c
theorem coreF_par {cs : List Cor} {i : Nat} (h : coreF cs i = 0) : (i = 0 → (corAt cs i).parent = -1) ∧ (0 < i → 0 ≤ (corAt cs i).parent ∧ (corAt cs i).parent < i) := by
  unfold coreF at h
  split at h
  · cases h
  split at h
  · cases h
  · rename_i c
    refine ⟨fun h0 => Classical.byContradiction fun k => c (.inl ⟨h0, k⟩), fun h0 => ?_⟩
    have : inB 0 ((i : Int) - 1) (corAt cs i).parent = true := by
      cases e : inB 0 ((i : Int) - 1) (corAt cs i).parent with
      | true => rfl
      | false => exact absurd (.inr ⟨h0, e⟩) c
    have := inB_iff.1 this
    omega
theorem coreF_data {cs : List Cor} {i : Nat} (h : coreF cs i = 0) : (corAt cs i).data.length ≤ 80 := by
  have hb := coreF_bare h
  unfold coreF at h
  split at h; · cases h
  split at h; · cases h
  split at h; · cases h
  split at h; · cases h
  split at h
  · rename_i c; exact absurd h c.2
  · rename_i c
    by_cases k1 : (corAt cs i).kind = 1
    · have hd : dataF (corAt cs i).data = 0 := Classical.byContradiction fun k => c ⟨k1, k⟩
      unfold dataF at hd
      split at hd
      · rename_i hl; have := inB_iff.1 hl; omega
      · cases hd
    · unfold bareC at hb
      rw [Bool.and_eq_true, Bool.or_eq_true, decide_eq_true_eq, decide_eq_true_eq] at hb
      rcases hb.2 with h | h
      · omega
      · exact absurd h k1
theorem paC_of {cs : List Cor} {i : Nat} (h : ∀ j, j < i → coreF cs j = 0) : PaC cs i := by
  intro a h0 h1
  have := coreF_par (h a.toNat (by omega))
  unfold parC
  rcases Nat.eq_zero_or_pos a.toNat with c | c
  · rw [this.1 c]; omega
  · have := this.2 c; omega
theorem all_belowC {f : Nat → Int} {i : Nat} (h : ∀ j, j < i → f j = 0) (hi : f i = 0) : ∀ j, j < i + 1 → f j = 0 := fun j hj => by
  by_cases c : j < i
  · exact h j c
  · obtain rfl : j = i := by omega
    exact hi
theorem hasKB_iff {k : Int} {n : Nat} : hasKB k (n : Int) = true ↔ hasK k n := by
  unfold hasKB hasK
  split
  · simp; omega
  split
  · simp; omega
  split
  · simp; omega
  split
  · simp; omega
  · simp
theorem coresF_wf {cs : List Cor} (h : coresF cs = 0) : WfC cs ∧ ∀ i, (corAt cs i).data.length ≤ 80 := by
  unfold coresF at h
  split at h
  case isFalse => cases h
  rename_i hl
  have hl := inB_iff.1 hl
  split at h
  · rename_i c; exact absurd h c
  rename_i c
  have hc := firstF_zero cs.length 0 (Classical.byContradiction c)
  have hk := firstF_zero cs.length 0 h
  refine ⟨⟨by omega, fun i hi => ?_, (coreF_par (hc 0 (Nat.le_refl _) (by omega))).1 rfl, fun i h0 hi => (coreF_par (hc i (Nat.zero_le _) (by omega))).2 h0, fun i hi => ?_⟩, fun i => ?_⟩
  · have hb := coreF_bare (hc i (Nat.zero_le _) (by omega))
    unfold bareC bareC1 at hb
    simp only [Bool.and_eq_true] at hb
    exact inB_iff.1 hb.1.1.1.1
  · have := hk i (Nat.zero_le _) (by omega)
    unfold kidF at this
    split at this
    · rename_i hh; exact hasKB_iff.1 hh
    · cases this
  · by_cases hi : i < cs.length
    · exact coreF_data (hc i (Nat.zero_le _) (by omega))
    · have : corAt cs i = default := by simp [corAt, List.getD, List.getElem?_eq_none (Nat.le_of_not_lt hi)]
      rw [this]
      show ([] : List Dat).length ≤ 80
      simp
variable {σ τ τ' : AH} {R : AEnd → AH → Prop}
theorem c_impl_hasKids {k n : Int} (h : R (.ret (bv (hasKB k n))) σ) : acall TP fn_impl_hasKids [iv k, iv n] σ R := by
  refine s_impl_hasKids_ok ?_
  unfold s_impl_hasKids
  unfold hasKB at h
  simp only [jn, RR]
  by_cases k4 : k = 4
  · rw [if_pos k4] at h; simp only [k4, RR]; exact ret_here h
  rw [if_neg k4] at h
  by_cases k5 : k = 5
  · rw [if_pos (by omega)] at h; simp only [k5, Int.reduceEq, RR]; exact ret_here h
  by_cases k7 : k = 7
  · rw [if_pos (by omega)] at h; simp only [k7, Int.reduceEq, RR]; exact ret_here h
  by_cases k8 : k = 8
  · rw [if_pos (by omega)] at h; simp only [k8, Int.reduceEq, RR]; exact ret_here h
  rw [if_neg (by omega)] at h
  by_cases k6 : k = 6
  · rw [if_pos k6] at h; simp only [k6, Int.reduceEq, RR]; exact ret_here h
  rw [if_neg k6] at h
  by_cases k9 : k = 9
  · rw [if_pos k9] at h; simp only [k9, Int.reduceEq, RR]
    refine c_impl_in ?_
    simp only [RR]
    exact ret_here h
  · rw [if_neg k9] at h; simp only [k4, k5, k6, k7, k8, k9, RR]; exact ret_here h
theorem c_spec_l4Many {k n : Int} (h : R (.ret (bv (hasKB k n))) σ) : acall TP fn_spec_l4Many [iv k, iv n] σ R := by
  refine s_spec_l4Many_ok ?_
  unfold s_spec_l4Many
  unfold hasKB at h
  simp only [jn, RR]
  by_cases k4 : k = 4
  · rw [if_pos k4] at h; simp only [k4, RR]; exact ret_here h
  rw [if_neg k4] at h
  by_cases k5 : k = 5
  · rw [if_pos (by omega)] at h; simp only [k5, Int.reduceEq, RR]; exact ret_here h
  by_cases k7 : k = 7
  · rw [if_pos (by omega)] at h; simp only [k7, Int.reduceEq, RR]; exact ret_here h
  by_cases k8 : k = 8
  · rw [if_pos (by omega)] at h; simp only [k8, Int.reduceEq, RR]; exact ret_here h
  rw [if_neg (by omega)] at h
  by_cases k6 : k = 6
  · rw [if_pos k6] at h; simp only [k6, Int.reduceEq, RR]; exact ret_here h
  rw [if_neg k6] at h
  by_cases k9 : k = 9
  · rw [if_pos k9] at h; simp only [k9, Int.reduceEq, RR, RG]
    exact ret_here h
  · rw [if_neg k9] at h; simp only [k4, k5, k6, k7, k8, k9, RR]; exact ret_here h
/-- The numbers of a core lie where numbers lie. -/
def aOk (cs : List Cor) : Prop := ∀ i, (corAt cs i).a ≤ 9223372036854775807
theorem c_impl_CoreFault {cs : List Cor} (ha : aOk cs) (hbig : cs.length ≤ 9223372036854775807) (h : R (.ret (iv (coresF cs))) σ) : acall TP fn_impl_CoreFault [roC cs] σ R := by
  refine s_impl_CoreFault_ok ?_
  unfold s_impl_CoreFault
  unfold coresF at h
  simp only [len_ro, RR]
  refine c_impl_in ?_
  simp only [RR]
  cases c1 : inB 1 160 (cs.length : Int) with
  | false =>
    rw [if_neg (by rw [c1]; decide)] at h
    simp only [RR]
    exact ret_here h
  | true =>
  rw [if_pos c1] at h
  have hl := inB_iff.1 c1
  simp only [RR]
  refine lp_same cs.length (fun i => (roC cs, iv (cs.length : Int), iv (i : Int), ())) (fun i => ∀ j, j < i → coreF cs j = 0) rfl (fun j hj => by omega) ?_
  intro i hi hj R' hR'
  by_cases hlt : i < cs.length
  · have g : (i : Int) < (cs.length : Int) := by omega
    simp only [g, RR]
    refine c_impl_oneCoreFault hlt (by omega) (paC_of hj) (ha i) ?_
    simp only [RR]
    by_cases c2 : coreF cs i = 0
    · have d : decide (coreF cs i = 0) = true := by simp [c2]
      simp only [d, ibin_up hlt (by omega), RR]
      exact hR' hlt (all_belowC hj c2) σ (.refl _)
    · have d : decide (coreF cs i = 0) = false := by simp [c2]
      simp only [d, RR]
      rw [firstF_at c2 cs.length 0 (Nat.zero_le _) (by omega) (fun j _ h2 => hj j h2), if_pos c2] at h
      exact ret_here h
  · have g : ¬ (i : Int) < (cs.length : Int) := by omega
    obtain rfl : i = cs.length := by omega
    simp only [g, RR]
    rw [firstF_all cs.length 0 (fun j _ h2 => hj j (by omega)), if_neg (by simp)] at h
    refine c_impl_kids (by omega) (fun j hjl => ?_) ?_
    · have := coreF_par (hj j hjl)
      rcases Nat.eq_zero_or_pos j with c | c
      · rw [this.1 c]; omega
      · have := this.2 c; omega
    have hal : (allK cs).length = cs.length := by simp [allK]
    simp only [len_ro, hal, RR]
    refine lp_same cs.length (fun i => (roC cs, roKK cs, iv (cs.length : Int), iv (i : Int), ())) (fun i => ∀ j, j < i → kidF cs j = 0) rfl (fun j hj => by omega) ?_
    intro i hi hk R2 hR2
    by_cases hlt : i < cs.length
    · have g : (i : Int) < (cs.length : Int) := by omega
      have ei := fun τ => idx_C (σ := τ) (a := (i : Int)) (cs := cs) (by omega) (by omega)
      rw [Int.toNat_natCast] at ei
      have l0 : ∀ τ, lod (.rop (encCor (corAt cs i)) 0) τ = some (iv (corAt cs i).kind) := fun _ => rfl
      simp only [g, idx_KK hlt, lod_1, ei, l0, lenK, RR]
      refine c_impl_hasKids ?_
      simp only [RR]
      cases c2 : hasKB (corAt cs i).kind ((kidsC cs i).length : Int) with
      | true =>
        simp only [ibin_up hlt (by omega), RR]
        exact hR2 hlt (all_belowC hk (by unfold kidF; rw [if_pos c2])) σ (.refl _)
      | false =>
        simp only [RR]
        have e : kidF cs i = 1 := by unfold kidF; rw [if_neg (by rw [c2]; decide)]
        rw [firstF_at (k := i) (by rw [e]; decide) cs.length 0 (Nat.zero_le _) (by omega) (fun j _ h2 => hk j h2), e] at h
        exact ret_here h
    · have g : ¬ (i : Int) < (cs.length : Int) := by omega
      obtain rfl : i = cs.length := by omega
      simp only [g, RR]
      rw [firstF_all cs.length 0 (fun j _ h2 => hk j (by omega))] at h
      exact ret_here h
theorem c_spec_l4Fault {cs : List Cor} (hnm : ∀ i, (corAt cs i).name.size ≤ 1099511627776) (hsd : ∀ i, sD (corAt cs i).data) (h : R (.ret (iv (coresF cs))) σ) : acall TP fn_spec_l4Fault [roC cs] σ R := by
  refine s_spec_l4Fault_ok ?_
  unfold s_spec_l4Fault
  unfold coresF at h
  simp only [len_ro, RR, RG]
  refine apick_cases (fun c1 => ?_) (fun c1 => ?_)
  · have c1 : inB 1 160 (cs.length : Int) = false := by
      simp only [Bool.or_eq_true, decide_eq_true_eq] at c1
      rw [Bool.eq_false_iff]; intro hc; have := inB_iff.1 hc; omega
    rw [if_neg (by rw [c1]; decide)] at h
    exact ret_here h
  have hl : 1 ≤ cs.length ∧ cs.length ≤ 160 := by
    simp only [Bool.or_eq_false_iff, decide_eq_false_iff_not] at c1; omega
  rw [if_pos (inB_iff.2 (by omega))] at h
  refine lp_same cs.length (fun i => (roC cs, iv (i : Int), ())) (fun i => ∀ j, j < i → coreF cs j = 0) rfl (fun j hj => by omega) ?_
  intro i hi hj R' hR'
  simp only [len_ro, RR]
  by_cases hlt : i < cs.length
  · have g : (i : Int) < (cs.length : Int) := by omega
    simp only [g, RR]
    refine c_spec_l4One hlt hl.2 (paC_of hj) (hnm i) (hsd i) ?_
    simp only [RR]
    by_cases c2 : coreF cs i = 0
    · have d : decide (coreF cs i = 0) = true := by simp [c2]
      simp only [d, ibin_up hlt (by omega), RR]
      exact hR' hlt (all_belowC hj c2) σ (.refl _)
    · have d : decide (coreF cs i = 0) = false := by simp [c2]
      simp only [d, RR]
      rw [firstF_at c2 cs.length 0 (Nat.zero_le _) (by omega) (fun j _ h2 => hj j h2), if_pos c2] at h
      exact ret_here h
  · have g : ¬ (i : Int) < (cs.length : Int) := by omega
    obtain rfl : i = cs.length := by omega
    simp only [g, RR]
    rw [firstF_all cs.length 0 (fun j _ h2 => hj j (by omega)), if_neg (by simp)] at h
    refine lp_same cs.length (fun i => (roC cs, iv (i : Int), ())) (fun i => ∀ j, j < i → kidF cs j = 0) rfl (fun j hj => by omega) ?_
    intro i hi hk R2 hR2
    simp only [len_ro, RR]
    by_cases hlt : i < cs.length
    · have g : (i : Int) < (cs.length : Int) := by omega
      have ei := fun τ => idx_C (σ := τ) (a := (i : Int)) (cs := cs) (by omega) (by omega)
      rw [Int.toNat_natCast] at ei
      have l0 : ∀ τ, lod (.rop (encCor (corAt cs i)) 0) τ = some (iv (corAt cs i).kind) := fun _ => rfl
      simp only [g, ei, l0, RR]
      refine c_spec_l4Kids (by omega) ?_
      simp only [ei, l0, lenK, RR, true_and, and_true]
      refine c_spec_l4Many ?_
      simp only [RR, true_and]
      cases c2 : hasKB (corAt cs i).kind ((kidsC cs i).length : Int) with
      | true =>
        simp only [ibin_up hlt (by omega), RR]
        exact hR2 hlt (all_belowC hk (by unfold kidF; rw [if_pos c2])) σ (.refl _)
      | false =>
        simp only [RR]
        have e : kidF cs i = 1 := by unfold kidF; rw [if_neg (by rw [c2]; decide)]
        rw [firstF_at (k := i) (by rw [e]; decide) cs.length 0 (Nat.zero_le _) (by omega) (fun j _ h2 => hk j h2), e] at h
        exact ret_here h
    · have g : ¬ (i : Int) < (cs.length : Int) := by omega
      obtain rfl : i = cs.length := by omega
      simp only [g, RR]
      rw [firstF_all cs.length 0 (fun j _ h2 => hk j (by omega))] at h
      exact ret_here h
end Go.Proofs.YtmmhaiidcfgbbaaGreatDoor.E
