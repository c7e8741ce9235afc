/- Data: their faults, by the reference. -/
import Derived.Test.YtmmhaiidcfgbbaaGreatDoorP4
set_option linter.unusedSectionVars false
set_option linter.unusedSimpArgs false
set_option linter.unusedVariables false
namespace Go.Proofs.YtmmhaiidcfgbbaaGreatDoor.E
open Go Go.RowKit
variable [L : Lam]
variable {σ : AH} {R : AEnd → AH → Prop}
theorem c_spec_l3Bare {x : Dat} (h : R (.ret (bv (bareB x))) σ) : acall TP fn_spec_l3Bare [.rop (encDat x) 0] σ R := by
  refine s_spec_l3Bare_ok ?_
  unfold s_spec_l3Bare
  simp only [RR, RT, RG]
  refine c_spec_l1In ?_
  simp only [RR, RT, RG, sbin_eql']
  refine ret_here ?_
  unfold bareB at h
  exact h
theorem c_spec_l3Line {ds : List Dat} {i : Nat} (hi : i < ds.length) (hl : ds.length ≤ 1000) (hP : Pars ds i) (h : R (.ret (bv (upW (par ds) ((i : Int) - 1) (dat ds i).parent && decide ((dat ds (dat ds i).parent.toNat).kind = 4)))) σ) : acall TP fn_spec_l3Line [roD ds, iv (i : Int)] σ R := by
  refine s_spec_l3Line_ok ?_
  unfold s_spec_l3Line
  simp only [ibin_sub (a := (i : Int)) (b := 1) (by omega) (by omega), RR]
  refine lp_by (fun k x σ' => ∃ a : Int, x = (roD ds, iv (i : Int), iv a, ()) ∧ σ' = σ ∧ (a + 1).toNat = k ∧ a < i ∧ upW (par ds) a (dat ds i).parent = upW (par ds) ((i : Int) - 1) (dat ds i).parent) ((i : Int) - 1 + 1).toNat ⟨(i : Int) - 1, rfl, rfl, rfl, by omega, rfl⟩ ?_
  rintro k x σ' ⟨a, rfl, rfl, hk, ha, e⟩ R' hR'
  rw [upW] at e
  by_cases c0 : 0 ≤ a
  · rw [if_neg (by omega)] at e
    have ha' : a.toNat < ds.length := by omega
    simp only [c0, idx_ro hi len_encDat, idx_roI c0 ha' len_encDat, RR, RT]
    rw [dat_at hi, dat_at ha']
    by_cases c1 : a = (dat ds i).parent
    · rw [if_pos c1] at e
      rw [← e, Bool.true_and, ← c1] at h
      simp only [c1, RR]
      rw [← c1]
      exact ret_here h
    · rw [if_neg c1, if_pos (hP a c0 (by omega)).1] at e
      simp only [c1, RR]
      have := (hP a c0 (by omega)).1
      exact hR' _ _ (par ds a + 1).toNat σ' (by omega) (.refl _) ⟨par ds a, rfl, rfl, rfl, by omega, e⟩
  · rw [if_pos (by omega)] at e
    rw [← e, Bool.false_and] at h
    simp only [c0, RR]
    exact ret_here h
theorem c_spec_l3Deep {ds : List Dat} {i : Nat} (hi : i < ds.length) (hl : ds.length ≤ 90) (hP : Pars ds (i + 1)) (h : R (.ret (iv (deepW (par ds) i : Nat))) σ) : acall TP fn_spec_l3Deep [roD ds, iv (i : Int)] σ R := by
  refine s_spec_l3Deep_ok ?_
  unfold s_spec_l3Deep
  refine lp_by (fun k x σ' => ∃ (a : Int) (c : Nat), x = (roD ds, iv a, iv (c : Nat), ()) ∧ σ' = σ ∧ (a + 1).toNat = k ∧ a ≤ i ∧ c + deepW (par ds) a = deepW (par ds) i) ((i : Int) + 1).toNat ⟨i, 0, rfl, rfl, rfl, by omega, by omega⟩ ?_
  rintro k x σ' ⟨a, c, rfl, rfl, hk, ha, e⟩ R' hR'
  rw [deepW] at e
  have hd := deepW_le (par ds) (i + 1) i (by omega)
  by_cases c0 : 0 ≤ a
  · have hp := hP a c0 (by omega)
    rw [if_neg (by omega), if_pos hp.1] at e
    have hi' : a.toNat < ds.length := by omega
    have e1 : ibin .add (iv (c : Nat)) (.val (.int .i64 1)) = some (iv ((c + 1 : Nat) : Int)) := by rw [ibin_add (by omega) (by omega)]; rfl
    have g : ((c : Nat) : Int) < 100 := by omega
    simp only [c0, g, e1, idx_roI c0 hi' len_encDat, RR, RT]
    rw [dat_at hi']
    exact hR' _ _ (par ds a + 1).toNat σ' (by omega) (.refl _) ⟨par ds a, c + 1, rfl, rfl, rfl, by omega, by omega⟩
  · rw [if_pos (by omega)] at e
    simp only [c0, RR]
    rw [Nat.add_zero] at e
    rw [e]
    exact ret_here h
def kB2 (x : Dat) : Bool := (decide (x.kind = 1) && !numB x.num) || (decide (x.kind = 2) && !inB 0 1 x.num)
def kB3 (x : Dat) : Bool := decide (x.kind = 3) && !symOk x.name
theorem kindF_2 {x : Dat} (h : kB2 x = true) : kindF x.kind x.num x.name = 3 := by
  unfold kB2 at h
  unfold kindF
  by_cases c1 : x.kind = 1
  · rw [if_pos c1]; cases c : numB x.num
    · rfl
    · simp [c1, c] at h
  · rw [if_neg c1]
    by_cases c2 : x.kind = 2
    · rw [if_pos c2]; cases c : inB 0 1 x.num
      · rfl
      · simp [c2, c] at h
    · simp [c1, c2] at h
theorem kindF_3 {x : Dat} (h : kB3 x = true) : kindF x.kind x.num x.name = 5 := by
  unfold kB3 at h
  simp only [Bool.and_eq_true, decide_eq_true_eq, Bool.not_eq_true'] at h
  unfold kindF
  rw [if_neg (by omega), if_neg (by omega), if_pos h.1, h.2]; rfl
theorem kindF_0 {x : Dat} (h : kB2 x = false) (h3 : kB3 x = false) : kindF x.kind x.num x.name = 0 := by
  unfold kB2 at h
  unfold kB3 at h3
  unfold kindF
  by_cases c1 : x.kind = 1
  · rw [if_pos c1]; cases c : numB x.num
    · simp [c1, c] at h
    · rfl
  · rw [if_neg c1]
    by_cases c2 : x.kind = 2
    · rw [if_pos c2]; cases c : inB 0 1 x.num
      · simp [c2, c] at h
      · rfl
    · rw [if_neg c2]
      by_cases c3 : x.kind = 3
      · rw [if_pos c3]; cases c : symOk x.name
        · simp [c3, c] at h3
        · rfl
      · rw [if_neg c3]
theorem c_spec_l3Fault {ds : List Dat} (hs : sD ds) (h : R (.ret (iv (dataF ds))) σ) : acall TP fn_spec_l3Fault [roD ds] σ R := by
  refine s_spec_l3Fault_ok ?_
  unfold s_spec_l3Fault
  unfold dataF at h
  simp only [RR, RT, RG]
  refine apick_cases (fun c1 => ?_) (fun c1 => ?_)
  · have c1 : inB 1 80 (ds.length : Int) = false := by
      simp only [Bool.or_eq_true, decide_eq_true_eq] at c1
      rw [Bool.eq_false_iff]; intro hc; have := inB_iff.1 hc; omega
    rw [if_neg (by rw [c1]; simp)] at h
    exact ret_here h
  have hl : 1 ≤ ds.length ∧ ds.length ≤ 80 := by
    simp only [Bool.or_eq_false_iff, decide_eq_false_iff_not] at c1; omega
  rw [if_pos (inB_iff.2 (by omega))] at h
  refine lp_same ds.length (fun i => (roD ds, iv (i : Int), ())) (fun i => ∀ j, j < i → datF ds j = 0) rfl (fun j hj => by omega) ?_
  intro i hi hj R' hR'
  by_cases hlt : i < ds.length
  case neg =>
    have g : ¬ (i : Int) < (ds.length : Int) := by omega
    obtain rfl : i = ds.length := by omega
    simp only [g, RR, RT]
    rw [firstF_all _ _ (fun j _ h2 => hj j (by omega))] at h
    exact ret_here h
  have g : (i : Int) < (ds.length : Int) := by omega
  have bad : ∀ v : Int, datF ds i = v → v ≠ 0 → R (.ret (iv v)) σ := fun v e hv => by
    rw [firstF_at (by rw [e]; exact hv) ds.length 0 (Nat.zero_le _) (by omega) (fun j _ h2 => hj j h2), e] at h
    exact h
  have good : datF ds i = 0 → R' (roD ds, iv ((i + 1 : Nat) : Int), ()) σ := fun e => hR' hlt (all_below hj e) σ (.refl _)
  have hP := pars_of hj
  simp only [g, idx_ro hlt len_encDat, RR, RT]
  rw [dat_at hlt]
  refine c_spec_l3Bare ?_
  simp only [RR]
  refine apick_cases (fun c2 => ?_) (fun c2 => ?_)
  · have c2 : bareB (dat ds i) = false := by simpa using c2
    exact ret_here (bad 1 (by unfold datF; rw [if_pos c2]) (by decide))
  have c2 : bareB (dat ds i) = true := by simpa using c2
  refine jn_of (fun x σ' => σ' = σ ∧ x = (roD ds, iv (i : Int), .rop (encDat (dat ds i)) 0, bv (kB2 (dat ds i)), ())) ?_ ?_
  rotate_left
  · intro k hk
    unfold kB2 at hk
    simp only [RR, RT, RG]
    by_cases k1 : (dat ds i).kind = 1
    · have k2 : ¬ (dat ds i).kind = 2 := by omega
      simp only [k1, RR, RT]
      refine c_spec_l1Num ?_
      simp only [k1, RR, RT, RG]
      have k3 : decide ((1 : Int) = 2) = false := rfl
      cases cn : numB (dat ds i).num
      · simp only [RR, k3]
        exact hk _ _ ⟨rfl, by simp [k1, cn] <;> rfl⟩
      · simp only [RR, k3]
        exact hk _ _ ⟨rfl, by simp [k1, k2, cn] <;> rfl⟩
    · simp only [k1, RR, RT, RG]
      refine gpick_cases (fun k2 => ?_) (fun k2 => ?_)
      · simp only [k2, RR]
        refine c_spec_l1In ?_
        simp only [RR]
        have k2 : (dat ds i).kind = 2 := by simpa using k2
        exact hk _ _ ⟨rfl, by simp [k2] <;> rfl⟩
      · have k2 : ¬ (dat ds i).kind = 2 := by simpa using k2
        exact hk _ _ ⟨rfl, by simp [k1, k2] <;> rfl⟩
  rintro x σ' ⟨rfl, rfl⟩
  refine apick_cases (fun c3 => ?_) (fun c3 => ?_)
  · have e := kindF_2 c3
    exact ret_here (bad 3 (by unfold datF; rw [if_neg (by rw [c2]; simp), if_pos (by rw [e]; decide), e]) (by decide))
  refine jn_of (fun x σ'' => σ'' = σ' ∧ x = (roD ds, iv (i : Int), .rop (encDat (dat ds i)) 0, bv (kB3 (dat ds i)), ())) ?_ ?_
  rotate_left
  · intro k hk
    unfold kB3 at hk
    simp only [RR, RT, RG]
    refine gpick_cases (fun k1 => ?_) (fun k1 => ?_)
    · simp only [k1, RR]
      refine c_spec_l2Sym (hs _ (dat_mem hlt)) ?_
      simp only [RR]
      exact hk _ _ ⟨rfl, by rw [k1, Bool.true_and]; rfl⟩
    · exact hk _ _ ⟨rfl, by rw [k1, Bool.false_and]; rfl⟩
  rintro x σ ⟨rfl, rfl⟩
  refine apick_cases (fun c4 => ?_) (fun c4 => ?_)
  · have e := kindF_3 c4
    exact ret_here (bad 5 (by unfold datF; rw [if_neg (by rw [c2]; simp), if_pos (by rw [e]; decide), e]) (by decide))
  have ek := kindF_0 c3 c4
  have hd : datF ds i = if i = 0 then (if (dat ds i).parent ≠ -1 then 3 else 0) else if inB 0 ((i : Int) - 1) (dat ds i).parent = false then 3
      else if (dat ds (dat ds i).parent.toNat).kind ≠ 4 ∨ upW (par ds) ((i : Int) - 1) (dat ds i).parent = false then 1 else if 12 < deepW (par ds) i then 2 else 0 := by
    unfold datF; rw [if_neg (by rw [c2]; simp), if_neg (by rw [ek]; simp)]
  have hsub : ibin .sub (iv (i : Int)) (.val (.int .i64 1)) = some (iv ((i : Int) - 1)) := ibin_sub (by omega) (by omega)
  refine jn_of (fun x σ' => σ' = σ ∧ x = (roD ds, iv (i : Int), bv ((decide (i = 0) && !decide ((dat ds i).parent = -1)) || (!decide (i = 0) && !inB 0 ((i : Int) - 1) (dat ds i).parent)), ())) ?_ ?_
  rotate_left
  · intro k hk
    simp only [RR, RT, RG]
    by_cases i0 : i = 0
    · have g0 : (i : Int) = 0 := by omega
      have g1 : ¬ (0 : Int) < (i : Int) := by omega
      simp only [g0, RR, RT, RG]
      cases cp : decide ((dat ds i).parent = -1)
      · simp only [RR]
        exact hk _ _ ⟨rfl, by subst i0; simp [cp] <;> rfl⟩
      · simp only [RR]
        have g3 : decide ((0 : Int) < 0) = false := rfl
        simp only [g3, RR]
        exact hk _ _ ⟨rfl, by subst i0; simp [cp] <;> rfl⟩
    · have g0 : ¬ (i : Int) = 0 := by omega
      have g1 : (0 : Int) < (i : Int) := by omega
      simp only [g0, g1, hsub, RR, RT, RG]
      refine c_spec_l1In ?_
      simp only [RR]
      exact hk _ _ ⟨rfl, by simp [i0] <;> rfl⟩
  rintro x σ' ⟨rfl, rfl⟩
  refine apick_cases (fun c5 => ?_) (fun c5 => ?_)
  · refine ret_here (bad 3 ?_ (by decide))
    rw [hd]
    by_cases i0 : i = 0
    · rw [if_pos i0]; rw [if_pos]; simpa [i0] using c5
    · rw [if_neg i0]; rw [if_pos]; simpa [i0] using c5
  by_cases i0 : i = 0
  · rw [if_pos i0] at hd
    have hp : (dat ds i).parent = -1 := by simpa [i0] using c5
    rw [if_neg (by simpa using hp)] at hd
    have g1 : ¬ (0 : Int) < (i : Int) := by omega
    have hPar : Pars ds (i + 1) := pars_of (all_below hj hd)
    simp only [jn, g1, RR, RT]
    refine c_spec_l3Deep hlt (by omega) hPar ?_
    have hdeep := deepW_le (par ds) 1 (i : Int) (by omega)
    have g6 : ¬ (12 : Int) < ((deepW (par ds) (i : Int) : Nat) : Int) := by omega
    simp only [g6, ibin_up hlt (by omega), RR]
    exact good hd
  rw [if_neg i0] at hd
  have c5 : inB 0 ((i : Int) - 1) (dat ds i).parent = true := by simpa [i0] using c5
  obtain ⟨p0, p1⟩ := inB_iff.1 c5
  rw [if_neg (by rw [c5]; simp)] at hd
  have g1 : (0 : Int) < (i : Int) := by omega
  have hPar : Pars ds (i + 1) := by
    intro a h0 h1
    by_cases e : a < (i : Int)
    · exact hP a h0 e
    · obtain rfl : a = (i : Int) := by omega
      have : par ds (i : Int) = (dat ds i).parent := by unfold par; rw [show ((i : Int)).toNat = i by omega]
      rw [this]; omega
  simp only [jn, g1, RR, RT]
  refine c_spec_l3Line hlt (by omega) hP ?_
  simp only [RR]
  refine apick_cases (fun c6 => ?_) (fun c6 => ?_)
  · refine ret_here (bad 1 ?_ (by decide))
    rw [hd, if_pos]
    cases cu : upW (par ds) ((i : Int) - 1) (dat ds i).parent
    · exact .inr rfl
    · rw [cu] at c6
      exact .inl (by simpa using c6)
  have c6 : upW (par ds) ((i : Int) - 1) (dat ds i).parent = true ∧ (dat ds (dat ds i).parent.toNat).kind = 4 := by simpa using c6
  rw [if_neg (by rw [c6.1, c6.2]; simp)] at hd
  refine c_spec_l3Deep hlt (by omega) hPar ?_
  simp only [RR]
  by_cases c7 : 12 < deepW (par ds) (i : Int)
  · have g6 : (12 : Int) < ((deepW (par ds) (i : Int) : Nat) : Int) := by omega
    rw [if_pos c7] at hd
    simp only [g6, RR]
    exact ret_here (bad 2 hd (by decide))
  · have g6 : ¬ (12 : Int) < ((deepW (par ds) (i : Int) : Nat) : Int) := by omega
    rw [if_neg c7] at hd
    simp only [g6, ibin_up hlt (by omega), RR]
    exact good hd
end Go.Proofs.YtmmhaiidcfgbbaaGreatDoor.E
