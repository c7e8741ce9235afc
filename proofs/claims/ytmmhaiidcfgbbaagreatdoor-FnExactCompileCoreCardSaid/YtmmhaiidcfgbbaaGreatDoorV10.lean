/- Cores: the fault of one, the program's way. -/
import Derived.Test.YtmmhaiidcfgbbaaGreatDoorV9
set_option linter.unusedSectionVars false
set_option linter.unusedSimpArgs false
set_option linter.unusedVariables false
namespace Go.Proofs.YtmmhaiidcfgbbaaGreatDoor.E
open Go Go.RowKit
set_option maxRecDepth 100000
def placeB (cs : List Cor) (i : Nat) : Bool :=
  if (corAt cs i).kind = 5 then inB 0 3 (corAt cs i).a
  else if (corAt cs i).kind = 2 then decide (0 ≤ (corAt cs i).a) && decide (0 ≤ arW cs (parC cs i) (corAt cs i).a) && inB 0 (IntKind.i64.wrap ((corAt cs (arW cs (parC cs i) (corAt cs i).a).toNat).a - 1)) (corAt cs i).b
  else true
def coreF (cs : List Cor) (i : Nat) : Int :=
  if bareC (corAt cs i) = false then 1
  else if (i = 0 ∧ (corAt cs i).parent ≠ -1) ∨ (0 < i ∧ inB 0 ((i : Int) - 1) (corAt cs i).parent = false) then 3
  else if 0 < i ∧ upW (parC cs) ((i : Int) - 1) (corAt cs i).parent = false then 1
  else if namC (corAt cs i).kind = true ∧ nameB (corAt cs i).name = false then 5
  else if (corAt cs i).kind = 1 ∧ dataF (corAt cs i).data ≠ 0 then dataF (corAt cs i).data
  else if (corAt cs i).kind = 8 ∧ 0 < i then 1
  else if placeB cs i = false then 3 else 0
variable [L : Lam]
variable {σ τ τ' : AH} {R : AEnd → AH → Prop}
theorem c_impl_oneCoreFault_1 {cs : List Cor} {a : Int} (h0 : 0 ≤ a) (h1 : a < cs.length) (h : R (.ret (iv (parC cs a))) σ) : acall TP fn_impl_oneCoreFault_1 [iv a, .rop [roC cs] 0] σ R := by
  refine s_impl_oneCoreFault_1_ok ?_
  unfold s_impl_oneCoreFault_1
  have l1 : ∀ k τ, lod (.rop (encCor (corAt cs k)) 1) τ = some (iv (corAt cs k).parent) := fun _ _ => rfl
  simp only [lod_1, idx_C h0 h1, l1, RR]
  exact ret_here h
set_option maxHeartbeats 1000000 in
theorem c_impl_oneCoreFault {cs : List Cor} {i : Nat} (hi : i < cs.length) (hl : cs.length ≤ 160) (hP : PaC cs i) (ha : (corAt cs i).a ≤ 9223372036854775807) (h : R (.ret (iv (coreF cs i))) σ) : acall TP fn_impl_oneCoreFault [roC cs, iv (i : Int)] σ R := by
  refine s_impl_oneCoreFault_ok ?_
  unfold s_impl_oneCoreFault
  refine box_frz rfl ?_
  have ei := fun τ => idx_C (σ := τ) (a := (i : Int)) (cs := cs) (by omega) (by omega)
  rw [Int.toNat_natCast] at ei
  simp only [lod_1, ei, lodA_all (len_encCor _), RR]
  refine new_encCor rfl ?_
  simp only [lodA_all (len_encCor _), RR]
  refine c_impl_coreForm ?_
  have pc : parC cs (i : Int) = (corAt cs i).parent := rfl
  unfold coreF at h
  unfold placeB at h
  rw [pc] at h
  have hlo : ∀ (hp : parC cs (i : Int) < i) (R' : AEnd → AH → Prop), (∀ (q : Cor) (b : Bool), (0 ≤ (corAt cs i).a → b = decide (0 ≤ arW cs (parC cs i) (corAt cs i).a) ∧ (b = true → q = corAt cs (arW cs (parC cs i) (corAt cs i).a).toNat)) → R' (.ret (.tup [.agg (encCor q), bv b])) σ) →
      acall TP fn_impl_lambdaOut [roC cs, iv (i : Int), iv (corAt cs i).a] σ R' := fun hp R' => c_impl_lambdaOut hi hP hp ha
  rw [pc] at hlo
  have hup : ∀ (hi0 : 0 < i) (R' : AEnd → AH → Prop), R' (.ret (bv (upW (parC cs) ((i : Int) - 1) (corAt cs i).parent))) σ → acall TP fn_impl_isUp [.clo (.func fn_impl_oneCoreFault_1) [] [.rop [roC cs] 0], iv ((i : Int) - 1), iv (corAt cs i).parent] σ R' := fun hi0 R' hR =>
    c_impl_isUp (p := parC cs) (n := (i : Int)) (fun a R h0 h1 h => acallv_clo (c_impl_oneCoreFault_1 h0 (by omega) h)) (fun a h0 h1 => (hP a h0 h1).1) (by omega) hR
  have l0 : ∀ τ, lod (.rop (encCor (corAt cs i)) 0) τ = some (iv (corAt cs i).kind) := fun _ => rfl
  have l1 : ∀ τ, lod (.rop (encCor (corAt cs i)) 1) τ = some (iv (corAt cs i).parent) := fun _ => rfl
  have l2 : ∀ τ, lod (.rop (encCor (corAt cs i)) 2) τ = some (iv (corAt cs i).a) := fun _ => rfl
  have l3 : ∀ τ, lod (.rop (encCor (corAt cs i)) 3) τ = some (iv (corAt cs i).b) := fun _ => rfl
  have l4 : ∀ τ, lod (.rop (encCor (corAt cs i)) 4) τ = some (str (corAt cs i).name) := fun _ => rfl
  have l5 : ∀ τ, lod (.rop (encCor (corAt cs i)) 5) τ = some (roD (corAt cs i).data) := fun _ => rfl
  generalize hc : corAt cs i = c at *
  cases hb : bareC c with
  | false =>
    rw [if_pos hb] at h
    simp only [RR]
    exact ret_here h
  | true =>
  rw [if_neg (by rw [hb]; decide)] at h
  have es : ibin .sub (iv (i : Int)) (.val (.int .i64 1)) = some (iv ((i : Int) - 1)) := ibin_sub (by omega) (by omega)
  simp only [l0, l1, l2, l3, l4, l5, jn, es, RR]
  have d3 : decide ((0 : Int) < (i : Int)) = decide (0 < i) := by congr 1; apply propext; omega
  have d4 : decide ((i : Int) = 0) = decide (i = 0) := by congr 1; apply propext; omega
  rcases Nat.eq_zero_or_pos i with h0 | h0
  case' inl =>
    have d1 : decide (i = 0) = true := by simp [h0]
    have d2 : decide (0 < i) = false := by simp [h0]
    by_cases hp : c.parent = -1
    case neg =>
      have dp : decide (c.parent = -1) = false := by simp [hp]
      rw [if_pos (.inl ⟨h0, hp⟩)] at h
      simp only [l0, l1, l2, l3, l4, l5, es, d3, d4, d1, d2, dp, RR]
      exact ret_here h
    have dp : decide (c.parent = -1) = true := by simp [hp]
    have hpi : c.parent < (i : Int) := by omega
    rw [if_neg (by omega), if_neg (by omega)] at h
    simp only [l0, l1, l2, l3, l4, l5, es, d3, d4, d1, d2, dp, RR]
  case' inr =>
    have d1 : decide (i = 0) = false := by simp; omega
    have d2 : decide (0 < i) = true := by simp [h0]
    simp only [l0, l1, l2, l3, l4, l5, es, d3, d4, d1, d2, RR]
    refine c_impl_in ?_
    cases hpb : inB 0 ((i : Int) - 1) c.parent
    case false =>
      rw [if_pos (.inr ⟨h0, hpb⟩)] at h
      simp only [l0, l1, l2, l3, l4, l5, es, d3, d4, RR]
      exact ret_here h
    have hpi : c.parent < (i : Int) := by have := inB_iff.1 hpb; omega
    rw [if_neg (by rw [hpb]; rintro (⟨k, _⟩ | ⟨_, k⟩) <;> first | omega | cases k)] at h
    simp only [l0, l1, l2, l3, l4, l5, es, d3, d4, RR]
    refine hup h0 _ ?_
    cases hub : upW (parC cs) ((i : Int) - 1) c.parent
    case false =>
      rw [if_pos ⟨h0, hub⟩] at h
      simp only [l0, l1, l2, l3, l4, l5, es, d3, d4, RR]
      exact ret_here h
    rw [if_neg (by rw [hub]; rintro ⟨_, k⟩; cases k)] at h
    simp only [l0, l1, l2, l3, l4, l5, es, d3, d4, RR]
  all_goals
    refine c_impl_named ?_
    cases hn : namC c.kind
    case' false =>
      rw [if_neg (fun k => by have := k.1; rw [hn] at this; cases this)] at h
      simp only [l0, l1, l2, l3, l4, l5, es, d3, d4, RR]
    case' true =>
      simp only [l0, l1, l2, l3, l4, l5, es, d3, d4, RR]
      refine c_impl_isName ?_
      cases hm : nameB c.name
      case false =>
        rw [if_pos ⟨hn, hm⟩] at h
        simp only [l0, l1, l2, l3, l4, l5, es, d3, d4, RR]
        exact ret_here h
      rw [if_neg (by rw [hm]; rintro ⟨_, k⟩; cases k)] at h
      simp only [l0, l1, l2, l3, l4, l5, es, d3, d4, RR]
  all_goals
    by_cases k1 : c.kind = 1
    · rw [if_neg (show ¬ (c.kind = 8 ∧ 0 < i) by omega), if_neg (show ¬ c.kind = 5 by omega), if_neg (show ¬ c.kind = 2 by omega), if_neg (show ¬ true = false by decide)] at h
      have e2 : (if c.kind = 1 ∧ dataF c.data ≠ 0 then dataF c.data else 0) = dataF c.data := by
        by_cases z : dataF c.data = 0
        · rw [if_neg (fun k => k.2 z), z]
        · rw [if_pos ⟨k1, z⟩]
      rw [e2] at h
      simp only [l0, l1, l2, l3, l4, l5, es, d3, d4, k1, RR]
      refine c_impl_DataFault ?_
      simp only [l0, l1, l2, l3, l4, l5, es, d3, d4, RR]
      exact ret_here h
    rw [if_neg (fun k => k1 k.1)] at h
    by_cases k8 : c.kind = 8
    · rw [if_neg (show ¬ c.kind = 5 by omega), if_neg (show ¬ c.kind = 2 by omega), if_neg (show ¬ true = false by decide)] at h
      by_cases q : 0 < i
      · rw [if_pos ⟨k8, q⟩] at h
        have dq : decide (0 < i) = true := by simp [q]
        first
          | omega
          | (simp only [l0, l1, l2, l3, l4, l5, es, d3, d4, k8, dq, Int.reduceEq, RR]; exact ret_here h)
      · rw [if_neg (fun k => q k.2)] at h
        have dq : decide (0 < i) = false := by simp [q]
        first
          | omega
          | (simp only [l0, l1, l2, l3, l4, l5, es, d3, d4, k8, dq, Int.reduceEq, RR]; exact ret_here h)
    rw [if_neg (fun k => k8 k.1)] at h
    by_cases k5 : c.kind = 5
    · rw [if_pos k5] at h
      simp only [l0, l1, l2, l3, l4, l5, es, d3, d4, k5, Int.reduceEq, RR]
      refine c_impl_in ?_
      cases hq : inB 0 3 c.a
      · rw [hq, if_pos rfl] at h
        simp only [l0, l1, l2, l3, l4, l5, es, d3, d4, RR]
        exact ret_here h
      · rw [hq, if_neg (by decide)] at h
        simp only [l0, l1, l2, l3, l4, l5, es, d3, d4, RR]
        exact ret_here h
    rw [if_neg k5] at h
    by_cases k2 : c.kind = 2
    · rw [if_pos k2] at h
      simp only [l0, l1, l2, l3, l4, l5, es, d3, d4, k2, lod_1, Int.reduceEq, RR]
      refine hlo hpi _ fun q b hq => ?_
      have y0 : aext (.tup [.agg (encCor q), bv b]) 0 = some (.agg (encCor q)) := rfl
      have y1 : aext (.tup [.agg (encCor q), bv b]) 1 = some (bv b) := rfl
      simp only [y0, y1, RR]
      refine new_encCor rfl ?_
      have m2 : ∀ τ, lod (.rop (encCor q) 2) τ = some (iv q.a) := fun _ => rfl
      have ew : ibin .sub (iv q.a) (.val (.int .i64 1)) = some (iv (IntKind.i64.wrap (q.a - 1))) := rfl
      by_cases a0 : c.a < 0
      · have ga : decide (c.a < 0) = true := by simp [a0]
        have gb : decide (0 ≤ c.a) = false := by simp; omega
        rw [gb, Bool.false_and, Bool.false_and, if_pos rfl] at h
        simp only [l0, l1, l2, l3, l4, l5, es, d3, d4, m2, ew, ga, RR]
        exact ret_here h
      · have ga : decide (c.a < 0) = false := by simp; omega
        have gb : decide (0 ≤ c.a) = true := by simp; omega
        obtain ⟨g1, g2⟩ := hq (by omega)
        rw [gb, Bool.true_and, ← g1] at h
        cases b with
        | false =>
          rw [Bool.false_and, if_pos rfl] at h
          simp only [l0, l1, l2, l3, l4, l5, es, d3, d4, m2, ew, ga, RR]
          exact ret_here h
        | true =>
          rw [← g2 rfl, Bool.true_and] at h
          simp only [l0, l1, l2, l3, l4, l5, es, d3, d4, m2, ew, ga, RR]
          refine c_impl_in ?_
          cases hz : inB 0 (IntKind.i64.wrap (q.a - 1)) c.b
          · rw [hz, if_pos rfl] at h
            simp only [RR]
            exact ret_here h
          · rw [hz, if_neg (show ¬ true = false by decide)] at h
            simp only [RR]
            exact ret_here h
    · rw [if_neg k2, if_neg (show ¬ true = false by decide)] at h
      simp only [l0, l1, l2, l3, l4, l5, es, d3, d4, k1, k8, k5, k2, RR]
      exact ret_here h
end Go.Proofs.YtmmhaiidcfgbbaaGreatDoor.E
