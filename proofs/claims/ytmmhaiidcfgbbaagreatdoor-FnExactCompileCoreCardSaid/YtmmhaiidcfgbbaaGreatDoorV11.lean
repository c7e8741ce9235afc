/- Cores: the fault of one, the reference's way; the fault of all. -/
import Derived.Test.YtmmhaiidcfgbbaaGreatDoorV10
set_option linter.unusedSectionVars false
set_option linter.unusedSimpArgs false
set_option linter.unusedVariables false
namespace Go.Proofs.YtmmhaiidcfgbbaaGreatDoor.E
open Go Go.RowKit
set_option maxRecDepth 100000
variable [L : Lam]
variable {σ τ τ' : AH} {R : AEnd → AH → Prop}
theorem c_spec_l4Line {cs : List Cor} {i : Nat} (hi : i < cs.length) (hl : cs.length ≤ 160) (hP : PaC cs i) (h : R (.ret (bv (upW (parC cs) ((i : Int) - 1) (corAt cs i).parent))) σ) : acall TP fn_spec_l4Line [roC cs, iv (i : Int)] σ R := by
  refine s_spec_l4Line_ok ?_
  unfold s_spec_l4Line
  have l1 : ∀ k τ, lod (.rop (encCor (corAt cs k)) 1) τ = some (iv (corAt cs k).parent) := fun _ _ => rfl
  have ei := fun τ => idx_C (σ := τ) (a := (i : Int)) (cs := cs) (by omega) (by omega)
  rw [Int.toNat_natCast] at ei
  simp only [ibin_sub (a := (i : Int)) (b := 1) (by omega) (by omega), RR]
  refine lp_by (fun k x σ' => ∃ a n : Int, x = (roC cs, iv (i : Int), iv n, iv a, ()) ∧ σ' = σ ∧ (a + 1).toNat = k ∧ a < i ∧ 0 ≤ n ∧ n + a ≤ 160 ∧ upW (parC cs) a (corAt cs i).parent = upW (parC cs) ((i : Int) - 1) (corAt cs i).parent) ((i : Int) - 1 + 1).toNat ⟨(i : Int) - 1, 0, rfl, rfl, rfl, by omega, by omega, by omega, rfl⟩ ?_
  rintro k x σ' ⟨a, n, rfl, rfl, hk, ha, hn, hna, e⟩ R' hR'
  rw [upW] at e
  by_cases c0 : 0 ≤ a
  · rw [if_neg (by omega)] at e
    have ek := fun τ => idx_C (σ := τ) (a := a) (cs := cs) c0 (by omega)
    have cn : n < 200 := by omega
    simp only [c0, cn, ei, ek, l1, RR]
    by_cases c1 : a = (corAt cs i).parent
    · rw [if_pos c1] at e
      rw [← e] at h
      have d1 : decide (a = (corAt cs i).parent) = true := by simp [c1]
      simp only [d1, RR]
      exact ret_here h
    · rw [if_neg c1, if_pos (hP a c0 (by omega)).1] at e
      have d1 : decide (a = (corAt cs i).parent) = false := by simp [c1]
      simp only [d1, ibin_add (a := n) (b := 1) (by omega) (by omega), RR]
      have := (hP a c0 (by omega)).1
      exact hR' _ _ (parC cs a + 1).toNat σ' (by omega) (.refl _) ⟨parC cs a, n + 1, rfl, rfl, rfl, by omega, by omega, by omega, e⟩
  · rw [if_pos (by omega)] at e
    rw [← e] at h
    simp only [c0, RR]
    exact ret_here h
theorem c_spec_l4Place {cs : List Cor} {i : Nat} (hi : i < cs.length) (hl : cs.length ≤ 160) (hP : PaC cs i) (hp : parC cs i < i) (h : R (.ret (bv (placeB cs i))) σ) : acall TP fn_spec_l4Place [roC cs, iv (i : Int)] σ R := by
  refine s_spec_l4Place_ok ?_
  unfold s_spec_l4Place
  have ei := fun τ => idx_C (σ := τ) (a := (i : Int)) (cs := cs) (by omega) (by omega)
  rw [Int.toNat_natCast] at ei
  have l0 : ∀ τ, lod (.rop (encCor (corAt cs i)) 0) τ = some (iv (corAt cs i).kind) := fun _ => rfl
  have l2 : ∀ k τ, lod (.rop (encCor (corAt cs k)) 2) τ = some (iv (corAt cs k).a) := fun _ _ => rfl
  have l3 : ∀ τ, lod (.rop (encCor (corAt cs i)) 3) τ = some (iv (corAt cs i).b) := fun _ => rfl
  unfold placeB at h
  simp only [ei, l0, l2, l3, RR]
  by_cases k5 : (corAt cs i).kind = 5
  · rw [if_pos k5] at h
    simp only [k5, RR]
    refine c_spec_l1In ?_
    simp only [RR]
    exact ret_here h
  rw [if_neg k5] at h
  by_cases k2 : (corAt cs i).kind = 2
  case neg =>
    rw [if_neg k2] at h
    simp only [k5, k2, RR]
    exact ret_here h
  rw [if_pos k2] at h
  simp only [k2, Int.reduceEq, RR]
  refine c_spec_l1In ?_
  have hle := arW_le (cs := cs) (parC cs i + 1).toNat (parC cs i) (corAt cs i).a (Nat.le_refl _)
  cases hr : inB 0 160 (corAt cs i).a with
  | false =>
    simp only [RR]
    have : (decide (0 ≤ (corAt cs i).a) && decide (0 ≤ arW cs (parC cs i) (corAt cs i).a)) = false := by
      refine Bool.eq_false_iff.2 fun c => ?_
      rw [Bool.and_eq_true, decide_eq_true_eq, decide_eq_true_eq] at c
      have := hle c.1 c.2
      have : inB 0 160 (corAt cs i).a = true := inB_iff.2 ⟨c.1, by omega⟩
      rw [hr] at this; cases this
    rw [this, Bool.false_and] at h
    exact ret_here h
  | true =>
    obtain ⟨r0, r1⟩ := inB_iff.1 hr
    simp only [jn, RR]
    refine c_spec_l4Around hi hP hp r0 r1 ?_
    have g0 : decide (0 ≤ (corAt cs i).a) = true := by simp [r0]
    rw [g0, Bool.true_and] at h
    by_cases ar : 0 ≤ arW cs (parC cs i) (corAt cs i).a
    · have g1 : decide (0 ≤ arW cs (parC cs i) (corAt cs i).a) = true := by simp [ar]
      rw [g1, Bool.true_and] at h
      have := hle r0 ar
      have ek := fun τ => idx_C (σ := τ) (a := arW cs (parC cs i) (corAt cs i).a) (cs := cs) ar (by omega)
      have ew : ∀ x : Int, ibin .sub (iv x) (.val (.int .i64 1)) = some (iv (IntKind.i64.wrap (x - 1))) := fun _ => rfl
      simp only [ar, ek, l2, l3, ew, RR]
      refine c_spec_l1In ?_
      simp only [RR, true_and]
      exact ret_here h
    · have g1 : decide (0 ≤ arW cs (parC cs i) (corAt cs i).a) = false := by simp [ar]
      rw [g1, Bool.false_and] at h
      simp only [ar, RR]
      exact ret_here h
set_option maxHeartbeats 1000000 in
theorem c_spec_l4One {cs : List Cor} {i : Nat} (hi : i < cs.length) (hl : cs.length ≤ 160) (hP : PaC cs i) (hnm : (corAt cs i).name.size ≤ 1099511627776) (hsd : sD (corAt cs i).data) (h : R (.ret (iv (coreF cs i))) σ) : acall TP fn_spec_l4One [roC cs, iv (i : Int)] σ R := by
  refine s_spec_l4One_ok ?_
  unfold s_spec_l4One
  have ei := fun τ => idx_C (σ := τ) (a := (i : Int)) (cs := cs) (by omega) (by omega)
  rw [Int.toNat_natCast] at ei
  simp only [ei, RR]
  refine c_spec_l4Bare ?_
  have pc : parC cs (i : Int) = (corAt cs i).parent := rfl
  unfold coreF at h
  have hpl : ∀ (hp : parC cs (i : Int) < i) (R' : AEnd → AH → Prop), R' (.ret (bv (placeB cs i))) σ → acall TP fn_spec_l4Place [roC cs, iv (i : Int)] σ R' := fun hp R' => c_spec_l4Place hi hl hP hp
  rw [pc] at hpl
  have hup : ∀ (R' : AEnd → AH → Prop), R' (.ret (bv (upW (parC cs) ((i : Int) - 1) (corAt cs i).parent))) σ → acall TP fn_spec_l4Line [roC cs, iv (i : Int)] σ R' := fun R' hR => c_spec_l4Line hi hl hP hR
  have l0 : ∀ τ, lod (.rop (encCor (corAt cs i)) 0) τ = some (iv (corAt cs i).kind) := fun _ => rfl
  have l1 : ∀ τ, lod (.rop (encCor (corAt cs i)) 1) τ = some (iv (corAt cs i).parent) := fun _ => rfl
  have l4 : ∀ τ, lod (.rop (encCor (corAt cs i)) 4) τ = some (str (corAt cs i).name) := fun _ => rfl
  have l5 : ∀ τ, lod (.rop (encCor (corAt cs i)) 5) τ = some (roD (corAt cs i).data) := fun _ => rfl
  have pk : placeB cs i = false → (corAt cs i).kind = 5 ∨ (corAt cs i).kind = 2 := fun c => by
    unfold placeB at c
    split at c
    · exact .inl (by assumption)
    · split at c
      · exact .inr (by assumption)
      · cases c
  generalize hc : corAt cs i = c at *
  generalize placeB cs i = pl at *
  cases hb : bareC c with
  | false =>
    rw [if_pos hb] at h
    simp only [RR]
    exact ret_here h
  | true =>
  rw [if_neg (by rw [hb]; decide)] at h
  have es : ibin .sub (iv (i : Int)) (.val (.int .i64 1)) = some (iv ((i : Int) - 1)) := ibin_sub (by omega) (by omega)
  simp only [jn, RR]
  have d3 : decide ((0 : Int) < (i : Int)) = decide (0 < i) := by congr 1; apply propext; omega
  have d4 : decide ((i : Int) = 0) = decide (i = 0) := by congr 1; apply propext; omega
  rcases Nat.eq_zero_or_pos i with h0 | h0
  case' inl =>
    have d1 : decide (i = 0) = true := by simp [h0]
    have d2 : decide (0 < i) = false := by simp [h0]
    by_cases hp : c.parent = -1
    case neg =>
      have dp : decide (c.parent = -1) = false := by simp [hp]
      rw [if_pos (.inl ⟨h0, hp⟩)] at h
      simp only [l0, l1, l4, l5, es, d3, d4, d1, d2, dp, RR]
      exact ret_here h
    have dp : decide (c.parent = -1) = true := by simp [hp]
    have hpi : c.parent < (i : Int) := by omega
    rw [if_neg (by omega), if_neg (by omega)] at h
    simp only [l0, l1, l4, l5, es, d3, d4, d1, d2, dp, RR]
  case' inr =>
    have d1 : decide (i = 0) = false := by simp; omega
    have d2 : decide (0 < i) = true := by simp [h0]
    simp only [l0, l1, l4, l5, es, d3, d4, d1, d2, RR]
    refine c_spec_l1In ?_
    cases hpb : inB 0 ((i : Int) - 1) c.parent
    case false =>
      rw [if_pos (.inr ⟨h0, hpb⟩)] at h
      simp only [l0, l1, l4, l5, es, d3, d4, RR]
      exact ret_here h
    have hpi : c.parent < (i : Int) := by have := inB_iff.1 hpb; omega
    rw [if_neg (by rw [hpb]; rintro (⟨k, _⟩ | ⟨_, k⟩) <;> first | omega | cases k)] at h
    simp only [l0, l1, l4, l5, es, d3, d4, d1, d2, RR]
    refine hup _ ?_
    cases hub : upW (parC cs) ((i : Int) - 1) c.parent
    case false =>
      rw [if_pos ⟨h0, hub⟩] at h
      simp only [l0, l1, l4, l5, es, d3, d4, RR]
      exact ret_here h
    rw [if_neg (by rw [hub]; rintro ⟨_, k⟩; cases k)] at h
    simp only [l0, l1, l4, l5, es, d3, d4, RR]
  all_goals
    refine c_spec_l4Named ?_
    cases hn : namC c.kind
    case' false =>
      rw [if_neg (fun k => by have := k.1; rw [hn] at this; cases this)] at h
      simp only [l0, l1, l4, l5, es, d3, d4, RR]
    case' true =>
      simp only [l0, l1, l4, l5, es, d3, d4, RR]
      refine c_spec_l4Name hnm ?_
      cases hm : nameB c.name
      case false =>
        rw [if_pos ⟨hn, hm⟩] at h
        simp only [l0, l1, l4, l5, es, d3, d4, RR]
        exact ret_here h
      rw [if_neg (by rw [hm]; rintro ⟨_, k⟩; cases k)] at h
      simp only [l0, l1, l4, l5, es, d3, d4, RR]
  all_goals
    by_cases k1 : c.kind = 1
    · simp only [l0, l1, l4, l5, es, d3, d4, k1, Int.reduceEq, RR]
      refine c_spec_l3Fault hsd ?_
      by_cases z : dataF c.data = 0
      · rw [if_neg (fun k => k.2 z), if_neg (show ¬ (c.kind = 8 ∧ 0 < i) by omega)] at h
        have dz : decide (dataF c.data = 0) = true := by simp [z]
        simp only [l0, l1, l4, l5, es, d3, d4, dz, RR]
        refine hpl hpi _ ?_
        cases pl
        · exact absurd (pk rfl) (by omega)
        · rw [if_neg (show ¬ true = false by decide)] at h
          simp only [RR]
          exact ret_here h
      · rw [if_pos ⟨k1, z⟩] at h
        have dz : decide (dataF c.data = 0) = false := by simp [z]
        simp only [l0, l1, l4, l5, es, d3, d4, dz, RR]
        exact ret_here h
    rw [if_neg (fun k => k1 k.1)] at h
    by_cases k8 : c.kind = 8
    · by_cases q : 0 < i
      · rw [if_pos ⟨k8, q⟩] at h
        have dq : decide (0 < i) = true := by simp [q]
        simp only [l0, l1, l4, l5, es, d3, d4, k8, dq, Int.reduceEq, RR]
        exact ret_here h
      · rw [if_neg (fun k => q k.2)] at h
        have dq : decide (0 < i) = false := by simp [q]
        simp only [l0, l1, l4, l5, es, d3, d4, k8, dq, Int.reduceEq, RR]
        refine hpl hpi _ ?_
        cases pl
        · exact absurd (pk rfl) (by omega)
        · rw [if_neg (show ¬ true = false by decide)] at h
          simp only [RR]
          exact ret_here h
    rw [if_neg (fun k => k8 k.1)] at h
    simp only [l0, l1, l4, l5, es, d3, d4, k1, k8, RR]
    refine hpl hpi _ ?_
    cases pl
    · rw [if_pos rfl] at h
      simp only [RR]
      exact ret_here h
    · rw [if_neg (show ¬ true = false by decide)] at h
      simp only [RR]
      exact ret_here h
end Go.Proofs.YtmmhaiidcfgbbaaGreatDoor.E
