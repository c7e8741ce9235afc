/- Cores: their faults, the program's way and the reference's. -/
import Derived.Test.YtmmhaiidcfgbbaaGreatDoorV8
set_option linter.unusedSectionVars false
set_option linter.unusedSimpArgs false
set_option linter.unusedVariables false
namespace Go.Proofs.YtmmhaiidcfgbbaaGreatDoor.E
open Go Go.RowKit
set_option maxRecDepth 100000
variable [L : Lam]
variable {σ τ τ' : AH} {R : AEnd → AH → Prop}
def bareC1 (c : Cor) : Bool := inB 1 9 c.kind && (decide (c.a = 0) || decide (c.kind = 2) || decide (c.kind = 5)) && (decide (c.b = 0) || decide (c.kind = 2))
def bareC (c : Cor) : Bool := bareC1 c && (decide (c.name = (⟨#[]⟩ : ByteArray)) || namC c.kind) && (decide ((c.data.length : Int) = 0) || decide (c.kind = 1))
theorem c_impl_coreForm {c : Cor} (h : R (.ret (bv (bareC c))) σ) : acall TP fn_impl_coreForm [.agg (encCor c)] σ R := by
  refine s_impl_coreForm_ok ?_
  unfold s_impl_coreForm
  simp only [jn]
  refine box_encCor ?_
  simp only [RR, RT, RG]
  refine c_impl_in ?_
  simp only [RR, RT, RG, sbin_eql', len_ro]
  unfold bareC bareC1 at h
  generalize (inB 1 9 c.kind && (decide (c.a = 0) || decide (c.kind = 2) || decide (c.kind = 5)) && (decide (c.b = 0) || decide (c.kind = 2))) = b1 at h ⊢
  generalize decide (c.name = (⟨#[]⟩ : ByteArray)) = b2 at h ⊢
  cases b1 with
  | false =>
    simp only [RR]
    exact ret_here (by simpa using h)
  | true =>
    cases b2 with
    | true =>
      simp only [RR]
      exact ret_here (by simpa using h)
    | false =>
      simp only [RR]
      refine c_impl_named ?_
      simp only [RR, RT, RG, len_ro]
      exact ret_here (by simpa using h)
theorem c_spec_l4Bare {c : Cor} (h : R (.ret (bv (bareC c))) σ) : acall TP fn_spec_l4Bare [.rop (encCor c) 0] σ R := by
  refine s_spec_l4Bare_ok ?_
  unfold s_spec_l4Bare
  simp only [jn, RR, RT, RG]
  refine c_spec_l1In ?_
  simp only [RR, RT, RG, sbin_eql', len_ro]
  have hb : bareC1 c = (inB 1 9 c.kind && (decide (c.kind = 2) || decide (c.kind = 5) || decide (c.a = 0)) && (decide (c.kind = 2) || decide (c.b = 0))) := by
    unfold bareC1
    cases inB 1 9 c.kind <;> cases decide (c.a = 0) <;> cases decide (c.kind = 2) <;> cases decide (c.kind = 5) <;> cases decide (c.b = 0) <;> rfl
  unfold bareC at h
  rw [hb] at h
  generalize (inB 1 9 c.kind && (decide (c.kind = 2) || decide (c.kind = 5) || decide (c.a = 0)) && (decide (c.kind = 2) || decide (c.b = 0))) = b1 at h ⊢
  cases b1 with
  | false =>
    simp only [RR]
    exact ret_here (by simpa using h)
  | true =>
    simp only [RR]
    refine c_spec_l4Named ?_
    simp only [RR, RT, RG, sbin_eql', len_ro]
    refine ret_here ?_
    have e : (true && (decide (c.name = (⟨#[]⟩ : ByteArray)) || namC c.kind) && (decide ((c.data.length : Int) = 0) || decide (c.kind = 1))) = ((namC c.kind || decide (c.name = (⟨#[]⟩ : ByteArray))) && (decide (c.kind = 1) || decide ((c.data.length : Int) = 0))) := by
      cases namC c.kind <;> cases decide (c.name = (⟨#[]⟩ : ByteArray)) <;> cases decide (c.kind = 1) <;> cases decide ((c.data.length : Int) = 0) <;> rfl
    rw [e] at h
    exact h
/-! ### what is around -/
def parC (cs : List Cor) (a : Int) : Int := (corAt cs a.toNat).parent
def arW (cs : List Cor) (at_ o : Int) : Int := if at_ < 0 then -1 else if (corAt cs at_.toNat).kind = 5 then (if o = 0 then at_ else if parC cs at_ < at_ then arW cs (parC cs at_) (o - 1) else -1) else if parC cs at_ < at_ then arW cs (parC cs at_) o else -1
termination_by (at_ + 1).toNat
decreasing_by all_goals omega
def PaC (cs : List Cor) (i : Nat) : Prop := ∀ a : Int, 0 ≤ a → a < i → parC cs a < a ∧ -1 ≤ parC cs a
theorem arW_le {cs : List Cor} (n : Nat) : ∀ at_ o : Int, (at_ + 1).toNat ≤ n → 0 ≤ o → 0 ≤ arW cs at_ o → o ≤ at_ ∧ arW cs at_ o ≤ at_ := by
  induction n with
  | zero => intro a o h h0 h1; rw [arW, if_pos (by omega)] at h1; omega
  | succ n ih =>
    intro a o h h0 h1
    rw [arW] at h1 ⊢
    split at h1
    · omega
    · rw [if_neg (by assumption)]
      split at h1
      · rw [if_pos (by assumption)]
        split at h1
        · rw [if_pos (by assumption)]; omega
        · rw [if_neg (by assumption)]
          split at h1
          · rw [if_pos (by assumption)]
            have := ih _ _ (by omega) (by omega) h1
            omega
          · omega
      · rw [if_neg (by assumption)]
        split at h1
        · rw [if_pos (by assumption)]
          have := ih _ _ (by omega) h0 h1
          omega
        · omega
theorem idx_C {cs : List Cor} {a : Int} (h0 : 0 ≤ a) (h : a < cs.length) : idx 6 (roC cs) (iv a) σ = some (.rop (encCor (corAt cs a.toNat)) 0) := by
  have h1 : a.toNat < cs.length := by omega
  rw [← corAt_eq h1]
  exact idx_roI h0 h1 len_encCor
theorem zeroCor (a b c d : Int) : Fz σ τ (.agg [iv a, iv b, iv c, iv d, str ⟨#[]⟩, nilS]) (.agg (encCor ⟨a, b, c, d, ⟨#[]⟩, []⟩)) := by
  refine .agg rfl fun j hj => ?_
  match j, hj with
  | 0, _ => exact .same _
  | 1, _ => exact .same _
  | 2, _ => exact .same _
  | 3, _ => exact .same _
  | 4, _ => exact .same _
  | 5, _ => exact .nil
theorem c_impl_lambdaOut {cs : List Cor} {i : Nat} {a : Int} (hi : i < cs.length) (hP : PaC cs i) (hp : parC cs i < i) (ha : a ≤ 9223372036854775807) (h : ∀ (q : Cor) (b : Bool), (0 ≤ a → b = decide (0 ≤ arW cs (parC cs i) a) ∧ (b = true → q = corAt cs (arW cs (parC cs i) a).toNat)) → R (.ret (.tup [.agg (encCor q), bv b])) σ) :
    acall TP fn_impl_lambdaOut [roC cs, iv (i : Int), iv a] σ R := by
  refine s_impl_lambdaOut_ok ?_
  unfold s_impl_lambdaOut
  intro φ hφ
  have l1 : ∀ k τ, lod (.rop (encCor (corAt cs k)) 1) τ = some (iv (corAt cs k).parent) := fun _ _ => rfl
  have l0 : ∀ k τ, lod (.rop (encCor (corAt cs k)) 0) τ = some (iv (corAt cs k).kind) := fun _ _ => rfl
  have ei := fun τ => idx_C (σ := τ) (a := (i : Int)) (cs := cs) (by omega) (by omega)
  simp only [ei, l1, RR]
  refine lp_by (fun n x τ => ∃ k o : Int, x = (roC cs, iv o, .ptr φ 0 0 0, iv k, ()) ∧ τ = σ.set φ ⟨0, 6, [[iv 0, iv 0, iv 0, iv 0, str ⟨#[]⟩, nilS]]⟩ ∧ (k + 1).toNat = n ∧ k < i ∧ (0 ≤ a → 0 ≤ o ∧ o ≤ a ∧ arW cs k o = arW cs (parC cs i) a)) ((parC cs i) + 1).toNat ⟨parC cs i, a, rfl, rfl, rfl, hp, fun h0 => ⟨h0, Int.le_refl _, rfl⟩⟩ ?_
  rintro n x τ ⟨k, o, rfl, rfl, hn, hk, hinv⟩ R' hR'
  have fin : ∀ (q : Cor) (q' : List AV) (b : Bool), (∀ τ', Fz σ τ' (.agg q') (.agg (encCor q))) → q'.length = 6 → (∀ y, y ∈ q' → y.one = true) → (0 ≤ a → b = decide (0 ≤ arW cs (parC cs i) a) ∧ (b = true → q = corAt cs (arW cs (parC cs i) a).toNat)) →
      sto 6 (.ptr φ 0 0 0) (.agg q') (σ.set φ ⟨0, 6, [[iv 0, iv 0, iv 0, iv 0, str ⟨#[]⟩, nilS]]⟩) fun σ => og (lodA 6 (.ptr φ 0 0 0) σ) fun r6 => aret (.tup [r6, bv b]) σ R := by
    intro q q' b hz hl h1 hq
    refine sto_own (es := [[iv 0, iv 0, iv 0, iv 0, str ⟨#[]⟩, nilS]]) (cs := q') (AH.set_same ..) (by simp) rfl rfl hl h1 ?_
    simp only [List.set_cons_zero, AH.set_set]
    have e := lodA_at (σ := σ.set φ ⟨0, 6, [q']⟩) (φ := φ) (st := 0) (i := 0) (n := 6) (cs := q') (AH.set_same ..) rfl rfl hl
    rw [e]
    refine aret_freeze (a' := .tup [.agg (encCor q), bv b]) (.set (.refl σ) _ hφ) (.tup rfl fun j hj => ?_) (h q b hq)
    match j, hj with
    | 0, _ => exact hz _
    | 1, _ => exact .same _
  by_cases c0 : 0 ≤ k
  · have ek := fun τ => idx_C (σ := τ) (a := k) (cs := cs) c0 (by omega)
    obtain ⟨p1, p2⟩ := hP k c0 hk
    have nxt : ∀ o' : Int, (0 ≤ a → 0 ≤ o' ∧ o' ≤ a ∧ arW cs (parC cs k) o' = arW cs (parC cs i) a) → R' (roC cs, iv o', .ptr φ 0 0 0, iv (corAt cs k.toNat).parent, ()) (σ.set φ ⟨0, 6, [[iv 0, iv 0, iv 0, iv 0, str ⟨#[]⟩, nilS]]⟩) := fun o' ho => hR' _ _ (parC cs k + 1).toNat _ (by omega) (.refl _) ⟨parC cs k, o', rfl, rfl, rfl, by omega, ho⟩
    simp only [c0, ek, l0, l1, jn, RR]
    by_cases c5 : (corAt cs k.toNat).kind = 5
    · simp only [c5, RR]
      by_cases c1 : o = 0
      · simp only [c1, lodA_all (len_encCor _), RR]
        refine fin (corAt cs k.toNat) _ true (fun _ => .same _) rfl (one_encCor _) fun h0 => ?_
        obtain ⟨_, _, g3⟩ := hinv h0
        rw [arW, if_neg (by omega), if_pos c5, if_pos c1] at g3
        rw [← g3]
        exact ⟨by simp [c0], fun _ => rfl⟩
      · have es : ibin .sub (iv o) (.val (.int .i64 1)) = some (iv (IntKind.i64.wrap (o - 1))) := rfl
        simp only [c1, es, RR]
        refine nxt _ fun h0 => ?_
        obtain ⟨g1, g2, g3⟩ := hinv h0
        rw [arW, if_neg (by omega), if_pos c5, if_neg c1, if_pos p1] at g3
        rw [i64_wrap (by omega) (by omega)]
        exact ⟨by omega, by omega, g3⟩
    · simp only [c5, RR]
      refine nxt _ fun h0 => ?_
      obtain ⟨g1, g2, g3⟩ := hinv h0
      rw [arW, if_neg (by omega), if_neg c5, if_pos p1] at g3
      exact ⟨g1, g2, g3⟩
  · have eb : bld [(.val (.int .i64 0)), (.val (.int .i64 0)), (.val (.int .i64 0)), (.val (.int .i64 0)), (.val (.string ⟨#[]⟩)), (.val (.slice none 0 0))] [(0, 1), (1, 1), (2, 1), (3, 1), (4, 1), (5, 1)] [] = some (.agg [iv 0, iv 0, iv 0, iv 0, str ⟨#[]⟩, nilS]) := rfl
    simp only [c0, eb, RR]
    refine fin ⟨0, 0, 0, 0, ⟨#[]⟩, []⟩ _ false (fun _ => zeroCor 0 0 0 0) rfl (by intro y hy; simp only [List.mem_cons, List.not_mem_nil, or_false] at hy; rcases hy with rfl | rfl | rfl | rfl | rfl | rfl <;> rfl) fun h0 => ?_
    obtain ⟨_, _, g3⟩ := hinv h0
    rw [arW, if_pos (by omega)] at g3
    rw [← g3]
    exact ⟨by simp, fun c => by cases c⟩
theorem c_spec_l4Around {cs : List Cor} {i : Nat} {a : Int} (hi : i < cs.length) (hP : PaC cs i) (hp : parC cs i < i) (h0 : 0 ≤ a) (ha : a ≤ 160) (h : R (.ret (iv (arW cs (parC cs i) a))) σ) :
    acall TP fn_spec_l4Around [roC cs, iv (i : Int), iv a] σ R := by
  refine s_spec_l4Around_ok ?_
  unfold s_spec_l4Around
  have l1 : ∀ k τ, lod (.rop (encCor (corAt cs k)) 1) τ = some (iv (corAt cs k).parent) := fun _ _ => rfl
  have l0 : ∀ k τ, lod (.rop (encCor (corAt cs k)) 0) τ = some (iv (corAt cs k).kind) := fun _ _ => rfl
  have ei := fun τ => idx_C (σ := τ) (a := (i : Int)) (cs := cs) (by omega) (by omega)
  simp only [ei, l1, RR]
  refine lp_by (fun n x τ => ∃ k o : Int, x = (roC cs, iv o, iv k, ()) ∧ τ = σ ∧ (k + 1).toNat = n ∧ k < i ∧ 0 ≤ o ∧ o ≤ a ∧ arW cs k o = arW cs (parC cs i) a) ((parC cs i) + 1).toNat ⟨parC cs i, a, rfl, rfl, rfl, hp, h0, Int.le_refl _, rfl⟩ ?_
  rintro n x τ ⟨k, o, rfl, rfl, hn, hk, g1, g2, g3⟩ R' hR'
  by_cases c0 : 0 ≤ k
  · have ek := fun τ => idx_C (σ := τ) (a := k) (cs := cs) c0 (by omega)
    obtain ⟨p1, p2⟩ := hP k c0 hk
    simp only [c0, ek, l0, l1, jn, RR]
    by_cases c5 : (corAt cs k.toNat).kind = 5
    · simp only [c5, RR]
      by_cases c1 : o = 0
      · simp only [c1, RR]
        rw [arW, if_neg (by omega), if_pos c5, if_pos c1] at g3
        rw [← g3] at h
        exact ret_here h
      · simp only [c1, ibin_sub (a := o) (b := 1) (by omega) (by omega), RR]
        rw [arW, if_neg (by omega), if_pos c5, if_neg c1, if_pos p1] at g3
        exact hR' _ _ (parC cs k + 1).toNat _ (by omega) (.refl _) ⟨parC cs k, o - 1, rfl, rfl, rfl, by omega, by omega, by omega, g3⟩
    · simp only [c5, RR]
      rw [arW, if_neg (by omega), if_neg c5, if_pos p1] at g3
      exact hR' _ _ (parC cs k + 1).toNat _ (by omega) (.refl _) ⟨parC cs k, o, rfl, rfl, rfl, by omega, g1, g2, g3⟩
  · simp only [c0, RR]
    rw [arW, if_pos (by omega)] at g3
    rw [← g3] at h
    exact ret_here h
end Go.Proofs.YtmmhaiidcfgbbaaGreatDoor.E
