/- ParseConfig: both functions, the law. -/
import Derived.Test.YtohmmedckdialaaDoorN3
set_option linter.unusedSectionVars false
set_option linter.unusedSimpArgs false
set_option linter.unusedVariables false
namespace Go.Proofs.YtohmmedckdialaaDoor.E
open Go Go.RowKit
set_option maxRecDepth 100000
variable [L : Lam] [K : Knows QS]
variable {σ : AH} {R : AEnd → AH → Prop}
/-- A round that is the last, or one of those that go on. -/
theorem all_below {i : Nat} {Q : Nat → Prop} (h : ∀ j, j < i → Q j) (hi : Q i) : ∀ j, j < i + 1 → Q j := by
  intro j hj
  rcases Nat.lt_or_ge j i with h1 | h1
  · exact h j h1
  · obtain rfl : j = i := by omega
    exact hi
theorem bits_at {k : Nat} (h : k < 4) : ibin .rem (iv (k : Int)) (iv 2) = some (iv ((k % 2 : Nat) : Int)) ∧ ibin .quo (iv (k : Int)) (iv 2) = some (iv ((k / 2 : Nat) : Int)) := by
  match k, h with
  | 0, _ => exact ⟨rfl, rfl⟩
  | 1, _ => exact ⟨rfl, rfl⟩
  | 2, _ => exact ⟨rfl, rfl⟩
  | 3, _ => exact ⟨rfl, rfl⟩
def bitP (k : Nat) : Bool := decide (((k % 2 : Nat) : Int) = 1)
def bitQ (k : Nat) : Bool := decide (((k / 2 : Nat) : Int) = 1)
theorem bldC1 (s t : Int) (p q : Bool) : bld [iv 0, iv 0, bv false, bv false] [(0, 1), (1, 1), (2, 1), (3, 1)] [(0, iv s), (1, iv t), (2, bv p), (3, bv q)] = some (.agg (encF s t p q)) := rfl
theorem bldC2 (s t : Int) (p q : Bool) : bld [iv 0, iv 0, iv 0, bv false, bv false] [(0, 1), (1, 4)] [(1, .agg (encF s t p q))] = some (.agg (iv 0 :: encF s t p q)) := rfl
theorem bldC3 : bld [iv 0, iv 0, iv 0, bv false, bv false] [(0, 1), (1, 4)] [(0, iv 5)] = some (.agg (iv 5 :: encF 0 0 false false)) := rfl
theorem one_cfgR (a s t : Int) (p q : Bool) : ∀ y, y ∈ iv a :: encF s t p q → y.one = true := by
  intro y hy
  rcases List.mem_cons.1 hy with rfl | hy
  · rfl
  · exact one_encF s t p q y hy
theorem bits_all {P : Bool → Bool → Prop} (h : ∀ b, b < 4 → P (bitP b) (bitQ b)) (p q : Bool) : P p q := by
  cases p <;> cases q
  · exact h 0 (by omega)
  · exact h 2 (by omega)
  · exact h 1 (by omega)
  · exact h 3 (by omega)
theorem c_spec_ParseConfig {x : ByteArray} (h1 : ∀ (s t : Nat) p q, 1 ≤ s → s ≤ 64 → t ≤ 15 → cfgT s t p q = x → R (.ret (.agg (iv 0 :: encF s t p q))) σ)
    (h2 : (∀ (s t : Nat) p q, 1 ≤ s → s ≤ 64 → t ≤ 15 → cfgT s t p q ≠ x) → R (.ret (.agg (iv 5 :: encF 0 0 false false))) σ) : acall TP fn_spec_ParseConfig [str x] σ R := by
  refine s_spec_ParseConfig_ok ?_
  unfold s_spec_ParseConfig
  intro φ hφ
  refine lp_same 64 (fun i => (str x, .ptr φ 0 0 0, iv ((i + 1 : Nat) : Int), ())) (fun i => ∀ (s t : Nat) p q, 1 ≤ s → s ≤ i → t ≤ 15 → cfgT s t p q ≠ x) rfl (fun s t p q a b => by omega) ?_
  intro i hi hH R1 hR1
  by_cases c1 : i < 64
  · have g1 : ((i + 1 : Nat) : Int) ≤ 64 := by omega
    simp only [RR, g1]
    refine lp_same 16 (fun j => (str x, .ptr φ 0 0 0, iv ((i + 1 : Nat) : Int), iv (j : Int), ())) (fun j => ∀ (t : Nat) p q, t < j → cfgT (i + 1) t p q ≠ x) rfl (fun t p q a => by omega) ?_
    intro j hj hH2 R2 hR2
    by_cases c2 : j < 16
    · have g2 : (j : Int) < 16 := by omega
      simp only [RR, g2]
      refine lp_same 4 (fun k => (str x, .ptr φ 0 0 0, iv ((i + 1 : Nat) : Int), iv (j : Int), iv (k : Int), ())) (fun k => ∀ b, b < k → cfgT (i + 1) j (bitP b) (bitQ b) ≠ x) rfl (fun b a => by omega) ?_
      intro k hk hH3 R3 hR3
      by_cases c3 : k < 4
      · have g3 : (k : Int) < 4 := by omega
        simp only [RR, g3, bits_at c3]
        refine new_frz (xs := encF ((i + 1 : Nat) : Int) (j : Int) (bitP k) (bitQ k)) rfl rfl rfl (one_encF _ _ _ _) ?_
        refine c_spec_l13Text (by omega) (by omega) ?_
        by_cases c4 : cfgT (i + 1) j (bitP k) (bitQ k) = x
        · have e4 : sbin .eql (str x) (str x) = some (bv true) := by rw [sbin_eql]; simp
          simp only [RR, c4, e4, lodA_all (cs := encF ((i + 1 : Nat) : Int) (j : Int) (bitP k) (bitQ k)) (n := 4) rfl, bldC2]
          exact fin_cell hφ rfl rfl (one_cfgR _ _ _ _ _) (h1 _ _ _ _ (by omega) (by omega) (by omega) c4)
        · have e4 : sbin .eql (str (cfgT (i + 1) j (bitP k) (bitQ k))) (str x) = some (bv false) := by rw [sbin_eql]; simp [c4]
          simp only [RR, e4, ibin_up c3 (by omega)]
          exact hR3 c3 (all_below hH3 c4) _ (.refl _)
      · obtain rfl : k = 4 := by omega
        have g3 : ¬ ((4 : Nat) : Int) < 4 := by omega
        simp only [RR, g3, ibin_up c2 (by omega)]
        refine hR2 c2 (fun t p q ht => ?_) _ (.refl _)
        rcases Nat.lt_or_ge t j with h' | h'
        · exact hH2 t p q h'
        · obtain rfl : t = j := by omega
          exact bits_all (P := fun p q => cfgT (i + 1) t p q ≠ x) hH3 p q
    · obtain rfl : j = 16 := by omega
      have g2 : ¬ ((16 : Nat) : Int) < 16 := by omega
      have e := ibin_up (i := i + 1) (n := 65) (by omega) (by omega)
      simp only [RR, g2, e]
      refine hR1 c1 (fun s t p q a b c => ?_) _ (.refl _)
      rcases Nat.lt_or_ge s (i + 1) with h' | h'
      · exact hH s t p q a (by omega) c
      · obtain rfl : s = i + 1 := by omega
        exact hH2 t p q (by omega)
  · obtain rfl : i = 64 := by omega
    have g1 : ¬ ((64 + 1 : Nat) : Int) ≤ 64 := by omega
    simp only [RR, g1, bldC3]
    exact fin_cell hφ rfl rfl (one_cfgR _ _ _ _ _) (h2 hH)
theorem six {xs : List ByteArray} (h : xs.length = 6) : ∃ a b c d e f, xs = [a, b, c, d, e, f] := by
  match xs, h with
  | [a, b, c, d, e, f], _ => exact ⟨_, _, _, _, _, _, rfl⟩
theorem cfgF_nat {s t : Int} (h : cfgF s t = 0) : ∃ n m : Nat, s = (n : Int) ∧ t = (m : Int) ∧ 1 ≤ n ∧ n ≤ 64 ∧ m ≤ 15 := by
  obtain ⟨h1, h2, h3, h4⟩ := cfgF_ok h
  exact ⟨s.toNat, t.toNat, by omega, by omega, by omega, by omega, by omega⟩
theorem bv_peep (p : Bool) : decide (cond p wPeep wPlain = wPeep) = p := by cases p <;> decide
theorem bv_cache (q : Bool) : decide (cond q wCache wLook = wCache) = q := by cases q <;> decide
theorem c_impl_ParseConfig {x : ByteArray} (hx : x.size ≤ 1048576)
    (h1 : ∀ (s t : Nat) p q, 1 ≤ s → s ≤ 64 → t ≤ 15 → cfgT s t p q = x → R (.ret (.agg (iv 0 :: encF s t p q))) σ)
    (h2 : (∀ (s t : Nat) p q, 1 ≤ s → s ≤ 64 → t ≤ 15 → cfgT s t p q ≠ x) → R (.ret (.agg (iv 5 :: encF 0 0 false false))) σ) : acall TP fn_impl_ParseConfig [str x] σ R := by
  have inj : ∀ (s t : Nat) p q, 1 ≤ s → s ≤ 64 → t ≤ 15 → cfgT s t p q = x → pcs wSp x = [wdSeg, dig s, wdTab, dig t, cond p wPeep wPlain, cond q wCache wLook] := by
    rintro s t p q a b c rfl
    exact pcs_cfgT (by omega) (by omega) p q
  refine s_impl_ParseConfig_ok ?_
  unfold s_impl_ParseConfig
  intro φ hφ
  refine c_strings_Split_ro hx ?_
  by_cases c6 : (pcs wSp x).length = 6
  · obtain ⟨w0, w1, w2, w3, w4, w5, e⟩ := six c6
    rw [e] at inj ⊢
    have l1 : w1.size ≤ 1048576 := Nat.le_trans (pcs_le (sep := wSp) (s := x) (by rw [e]; simp)) hx
    have l3 : w3.size ≤ 1048576 := Nat.le_trans (pcs_le (sep := wSp) (s := x) (by rw [e]; simp)) hx
    simp only [List.map_cons, List.map_nil]
    have ix : (∀ τ, idx 1 (.ro [[str w0], [str w1], [str w2], [str w3], [str w4], [str w5]]) (iv 1) τ = some (.rop [str w1] 0)) ∧ (∀ τ, idx 1 (.ro [[str w0], [str w1], [str w2], [str w3], [str w4], [str w5]]) (iv 3) τ = some (.rop [str w3] 0)) ∧
      (∀ τ, idx 1 (.ro [[str w0], [str w1], [str w2], [str w3], [str w4], [str w5]]) (iv 4) τ = some (.rop [str w4] 0)) ∧ (∀ τ, idx 1 (.ro [[str w0], [str w1], [str w2], [str w3], [str w4], [str w5]]) (iv 5) τ = some (.rop [str w5] 0)) :=
      ⟨fun _ => rfl, fun _ => rfl, fun _ => rfl, fun _ => rfl⟩
    have ll : ∀ (w : ByteArray) τ, lod (.rop [str w] 0) τ = some (str w) := fun _ _ => rfl
    have ln : lenS (.ro [[str w0], [str w1], [str w2], [str w3], [str w4], [str w5]]) = some (iv 6) := rfl
    have fv : ∀ a b : Int, fldV 1 (.agg [iv a, iv b]) = some (iv b) := fun _ _ => rfl
    simp only [ln, ix, ll, sbin_eql', RR, jn, true_and, and_true]
    refine c_impl_ParseNum l1 ?_
    simp only [ix, ll, fv, RR, true_and, and_true]
    refine c_impl_ParseNum l3 ?_
    simp only [ix, ll, fv, RR, true_and, and_true, bldC1]
    refine new_frz (xs := encF (numP w1).1 (numP w3).1 (decide (w4 = wPeep)) (decide (w5 = wCache))) rfl rfl rfl (one_encF _ _ _ _) ?_
    simp only [lodA_all (cs := encF (numP w1).1 (numP w3).1 (decide (w4 = wPeep)) (decide (w5 = wCache))) (n := 4) rfl, RR]
    refine c_impl_ConfigFault ?_
    have bad : (∀ (s t : Nat) p q, 1 ≤ s → s ≤ 64 → t ≤ 15 → cfgT s t p q = x → cfgF (numP w1).1 (numP w3).1 = 0 ∧ cfgT (numP w1).1.toNat (numP w3).1.toNat (decide (w4 = wPeep)) (decide (w5 = wCache)) = x) := by
      intro s t p q a b c hc
      have := inj s t p q a b c hc
      simp only [List.cons.injEq, and_true] at this
      obtain ⟨-, rfl, -, rfl, rfl, rfl⟩ := this
      rw [numP_dig (by omega), numP_dig (by omega), bv_peep, bv_cache]
      refine ⟨?_, by simpa using hc⟩
      unfold cfgF
      rw [inB_iff.2 ⟨by omega, by omega⟩, inB_iff.2 ⟨by omega, by omega⟩]
      rfl
    by_cases c : cfgF (numP w1).1 (numP w3).1 = 0
    · obtain ⟨n, m, e1, e3, g1, g2, g3⟩ := cfgF_nat c
      rw [e1, e3] at bad c ⊢
      simp only [c, dec_self, RR, lodA_all (cs := encF (n : Int) (m : Int) (decide (w4 = wPeep)) (decide (w5 = wCache))) (n := 4) rfl]
      refine c_impl_text (s := n) (t := m) (by omega) (by omega) ?_
      by_cases ct : cfgT n m (decide (w4 = wPeep)) (decide (w5 = wCache)) = x
      · have e4 : sbin .neq (str (cfgT n m (decide (w4 = wPeep)) (decide (w5 = wCache)))) (str x) = some (bv false) := by rw [sbin_neq]; simp [ct]
        simp only [e4, RR, lodA_all (cs := encF (n : Int) (m : Int) (decide (w4 = wPeep)) (decide (w5 = wCache))) (n := 4) rfl, bldC2]
        exact fin_cell hφ rfl rfl (one_cfgR _ _ _ _ _) (h1 _ _ _ _ g1 g2 g3 ct)
      · have e4 : sbin .neq (str (cfgT n m (decide (w4 = wPeep)) (decide (w5 = wCache)))) (str x) = some (bv true) := by rw [sbin_neq]; simp [ct]
        simp only [e4, RR, bldC3]
        exact fin_cell hφ rfl rfl (one_cfgR _ _ _ _ _) (h2 fun s t p q a b d hc => ct (by simpa using (bad s t p q a b d hc).2))
    · simp only [c, RR, bldC3]
      exact fin_cell hφ rfl rfl (one_cfgR _ _ _ _ _) (h2 fun s t p q a b d hc => c (bad s t p q a b d hc).1)
  · have ln : lenS (.ro ((pcs wSp x).map fun x => [str x])) = some (iv ((pcs wSp x).length : Int)) := by simp [lenS]
    have g : ¬ ((pcs wSp x).length : Int) = 6 := by omega
    simp only [ln, g, RR, bldC3]
    exact fin_cell hφ rfl rfl (one_cfgR _ _ _ _ _) (h2 fun s t p q a b d hc => c6 (by rw [inj s t p q a b d hc]; rfl))
def isBo (T : Tab) (t : TypeId) : Bool := match T t with
  | some ti => match ti.under with
    | .bool => true
    | _ => false
  | none => false
theorem neq_bool {T : Tab} {t : TypeId} {p q : Bool} {k : AV → Prop} (hu : isBo T t = true) (h : k (bv (!(p == q)))) : abin T .neq t (bv p) (bv q) k := by
  have e : aeql T t (bv p) (bv q) (fun b => k (.val (.bool !b))) := by
    unfold isBo at hu
    unfold aeql
    split at hu
    · rename_i ti ht
      rw [ht]
      split at hu
      · rename_i hb
        simp only [hb]
        exact h
      · cases hu
    · cases hu
  unfold abin
  exact e
theorem c_laws_eqConfig {s t : Int} {p q : Bool} (h : R (.ret (bv true)) σ) : acall TP fn_laws_eqConfig [.agg (encF s t p q), .agg (encF s t p q)] σ R := by
  refine s_laws_eqConfig_ok ?_
  unfold s_laws_eqConfig
  refine box2_frz rfl rfl ?_
  simp only [RR, RF, dec_self]
  have b0 : isBo TT ty_o = true := by kernel_rfl
  refine neq_bool b0 ?_
  simp only [beq_self_eq_true, RR]
  refine neq_bool b0 ?_
  simp only [beq_self_eq_true, RR]
  exact ret_here h
theorem c_laws_eqConfigResult {a s t : Int} {p q : Bool} (h : R (.ret (bv true)) σ) : acall TP fn_laws_eqConfigResult [.agg (iv a :: encF s t p q), .agg (iv a :: encF s t p q)] σ R := by
  refine s_laws_eqConfigResult_ok ?_
  unfold s_laws_eqConfigResult
  refine box2_frz rfl rfl ?_
  have e0 : ∀ τ, lod (.rop (iv a :: encF s t p q) 0) τ = some (iv a) := fun _ => rfl
  have e1 : ∀ τ, lodA 4 (.rop (iv a :: encF s t p q) 1) τ = some (.agg (encF s t p q)) := fun _ => rfl
  simp only [RR, e0, e1, dec_self]
  refine c_laws_eqConfig ?_
  simp only [RR]
  exact ret_here h
theorem c_laws_FnExactParseConfig {x : ByteArray} (h : R (.ret (bv true)) σ) : acall TP fn_laws_FnExactParseConfig [str x] σ R := by
  refine s_laws_FnExactParseConfig_ok ?_
  unfold s_laws_FnExactParseConfig
  by_cases c : (1048576 : Int) < (x.size : Int)
  · simp only [RR, c]
    exact ret_here h
  · have hx : x.size ≤ 1048576 := by omega
    have main : ∀ (a s t : Int) (p q : Bool), (∀ {τ : AH} {R : AEnd → AH → Prop}, R (.ret (.agg (iv a :: encF s t p q))) τ → acall TP fn_impl_ParseConfig [str x] τ R) →
        new [iv 0, iv 0, iv 0, bv false, bv false] σ fun v3 σ => sto 5 v3 (.agg (iv a :: encF s t p q)) σ fun σ => frz v3 σ fun f3 σ =>
          acall TP fn_impl_ParseConfig [str x] σ (onr (fun v11 σ => new [iv 0, iv 0, iv 0, bv false, bv false] σ fun v4 σ => sto 5 v4 v11 σ fun σ => frz v4 σ fun f4 σ =>
            og (lodA 5 f4 σ) fun v12 => og (lodA 5 f3 σ) fun v13 => acall TP fn_laws_eqConfigResult [v12, v13] σ (onr (fun v14 σ => og (aun .not v14) fun v15 => apick v15 (aret (bv false) σ R) (aret (bv true) σ R)) fun v σ => apan v σ R)) fun v σ => apan v σ R) := by
      intro a s t p q hi
      refine new_frz (xs := iv a :: encF s t p q) rfl rfl rfl (one_cfgR _ _ _ _ _) ?_
      refine hi ?_
      simp only [RR]
      refine new_frz (xs := iv a :: encF s t p q) rfl rfl rfl (one_cfgR _ _ _ _ _) ?_
      simp only [lodA_all (cs := iv a :: encF s t p q) (n := 5) rfl, RR]
      refine c_laws_eqConfigResult ?_
      simp only [RR]
      exact ret_here h
    simp only [RR, c]
    refine c_spec_ParseConfig (fun s t p q a b d hc => ?_) fun hn => ?_
    · simp only [RR]
      refine main 0 s t p q fun hh => c_impl_ParseConfig hx (fun s' t' p' q' a' b' d' hc' => ?_) fun hn => absurd hc (hn s t p q a b d)
      have := (hc'.trans hc.symm)
      have i1 := (pcs_cfgT (s := s') (t := t') (by omega) (by omega) p' q').symm.trans ((congrArg (pcs wSp) this).trans (pcs_cfgT (by omega) (by omega) p q))
      simp only [List.cons.injEq, and_true, true_and] at i1
      obtain ⟨i1, i2, i3, i4⟩ := i1
      have j1 : (s' : Int) = s := by
        have := numP_dig (n := s') (by omega)
        rw [i1, numP_dig (by omega)] at this
        exact (Prod.mk.inj this).1.symm
      have j2 : (t' : Int) = t := by
        have := numP_dig (n := t') (by omega)
        rw [i2, numP_dig (by omega)] at this
        exact (Prod.mk.inj this).1.symm
      have j3 : p' = p := by rw [← bv_peep p', ← bv_peep p, i3]
      have j4 : q' = q := by rw [← bv_cache q', ← bv_cache q, i4]
      rw [j1, j2, j3, j4]
      exact hh
    · simp only [RR]
      exact main 5 0 0 false false fun hh => c_impl_ParseConfig hx (fun s t p q a b d hc => absurd hc (hn s t p q a b d)) fun _ => hh
end Go.Proofs.YtohmmedckdialaaDoor.E
