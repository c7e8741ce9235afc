/- FnConfigs: the law. -/
import Derived.Test.YtohmmedckdialaaDoorC4
import Derived.Test.YtohmmedckdialaaDoorF2
set_option linter.unusedSectionVars false
set_option linter.unusedSimpArgs false
set_option linter.unusedVariables false
namespace Go.Proofs.YtohmmedckdialaaDoor.E
open Go Go.RowKit
set_option maxRecDepth 100000
theorem cmp_cfg (s t : Int) (p q : Bool) : cmpV TT .eql ty_RiiooE (.agg (encF s t p q)) (.agg (encF s t p q)) = some (bv true) := by
  have e : cmpV TT .eql ty_RiiooE (.agg (encF s t p q)) (.agg (encF s t p q)) = some (bv (s == s && (t == t && (p == p && (q == q && true))))) := by kernel_rfl
  rw [e]
  simp
variable [L : Lam] [K : Knows QS]
variable {σ : AH} {R : AEnd → AH → Prop}
theorem cfgT_inj {s t s' t' : Nat} {p q p' q' : Bool} (h1 : s < 100) (h2 : t < 100) (h3 : s' < 100) (h4 : t' < 100) (h : cfgT s' t' p' q' = cfgT s t p q) : s' = s ∧ t' = t ∧ p' = p ∧ q' = q := by
  have i1 := (pcs_cfgT h3 h4 p' q').symm.trans ((congrArg (pcs wSp) h).trans (pcs_cfgT h1 h2 p q))
  simp only [List.cons.injEq, and_true, true_and] at i1
  obtain ⟨i1, i2, i3, i4⟩ := i1
  have j1 : (s' : Int) = s := by
    have := numP_dig (n := s') h3
    rw [i1, numP_dig h1] at this
    exact (Prod.mk.inj this).1.symm
  have j2 : (t' : Int) = t := by
    have := numP_dig (n := t') h4
    rw [i2, numP_dig h2] at this
    exact (Prod.mk.inj this).1.symm
  exact ⟨by omega, by omega, by rw [← bv_peep p', ← bv_peep p, i3], by rw [← bv_cache q', ← bv_cache q, i4]⟩
theorem new_jn {X : Type} {n : Nat} {zs xs : List AV} {x : AV} {B : X → AH → Prop} {E : (X → AH → Prop) → AV → AH → Prop} (P : X → AH → Prop) (hx : acells x = some xs) (hn : xs.length = n) (hz : zs.length = n) (h1 : ∀ y, y ∈ xs → y.one = true)
    (hB : ∀ y τ, P y τ → B y τ) (h : ∀ k : X → AH → Prop, (∀ y τ, P y τ → k y τ) → E k (.rop xs 0) σ) : new zs σ fun v σ => sto n v x σ fun σ => jn B fun k1 => frz v σ (E k1) := by
  intro φ hφ
  refine sto_own (es := [zs]) (cs := xs) (by rw [AH.set_same, hz]) (by simp) (by simpa using hz) hx hn h1 ?_
  simp only [List.set_cons_zero, AH.set_set]
  exact frz_cell hφ hn (h B hB)
/-- What a text comes to. -/
def PCf (x : ByteArray) (r : List AV) : Prop := (∃ (s t : Nat) (p q : Bool), 1 ≤ s ∧ s ≤ 64 ∧ t ≤ 15 ∧ cfgT s t p q = x ∧ r = iv 0 :: encF s t p q) ∨
  ((∀ (s t : Nat) p q, 1 ≤ s → s ≤ 64 → t ≤ 15 → cfgT s t p q ≠ x) ∧ r = iv 5 :: encF 0 0 false false)
theorem c_ParseConfig_any {x : ByteArray} (hx : x.size ≤ 1048576) (h : ∀ r, PCf x r → R (.ret (.agg r)) σ) : acall TP fn_impl_ParseConfig [str x] σ R :=
  c_impl_ParseConfig hx (fun s t p q a b c d => h _ (.inl ⟨s, t, p, q, a, b, c, d, rfl⟩)) fun hn => h _ (.inr ⟨hn, rfl⟩)
theorem cfgR_good {s t : Nat} {p q : Bool} (h1 : 1 ≤ s) (h2 : s ≤ 64) (h3 : t ≤ 15) : cfgR (s : Int) (t : Int) p q = [iv 0, str (cfgT s t p q)] := by
  have e : cfgF (s : Int) (t : Int) = 0 := by
    unfold cfgF
    rw [inB_iff.2 ⟨by omega, by omega⟩, inB_iff.2 ⟨by omega, by omega⟩]
    rfl
  unfold cfgR
  rw [if_pos e]
  rfl
theorem c_laws_FnConfigs {ns : List Int} (hb : ∀ x, x ∈ ns → 0 ≤ x ∧ x ≤ 255) (h : R (.ret (bv true)) σ) : acall TP fn_laws_FnConfigs [roB ns] σ R := by
  refine s_laws_FnConfigs_ok ?_
  unfold s_laws_FnConfigs
  refine c_laws_lwBig ?_
  by_cases c : 1048576 < ns.length
  · simp only [decide_eq_true c, RR]
    exact ret_here h
  have hB : Bts ns := ⟨hb, by omega⟩
  simp only [decide_eq_false c, RR]
  refine c_spec_DrawParseConfig hB fun x hx => ?_
  simp only [RR]
  refine c_ParseConfig_any hx fun r hr => ?_
  simp only [RR]
  have f1 : ∀ a b : AV, fldV 1 (.agg [a, b]) = some b := fun _ _ => rfl
  have f0 : ∀ a b : AV, fldV 0 (.agg [a, b]) = some a := fun _ _ => rfl
  have g0 : ∀ a s t p q, fldV 0 (.agg (iv a :: encF s t p q)) = some (iv a) := fun _ _ _ _ _ => rfl
  have l0 : ∀ a s t p q τ, lod (.rop (iv a :: encF s t p q) 0) τ = some (iv a) := fun _ _ _ _ _ _ => rfl
  have l1 : ∀ a s t p q τ, lodA 4 (.rop (iv a :: encF s t p q) 1) τ = some (.agg (encF s t p q)) := fun _ _ _ _ _ _ => rfl
  have second : ∀ (τ : AH) (X : Prop), τ = σ → X = X → True := fun _ _ _ _ => trivial
  have hlen : r.length = 5 := by rcases hr with ⟨s, t, p, q, _, _, _, _, rfl⟩ | ⟨_, rfl⟩ <;> rfl
  have hone : ∀ y, y ∈ r → y.one = true := by rcases hr with ⟨s, t, p, q, _, _, _, _, rfl⟩ | ⟨_, rfl⟩ <;> exact one_cfgR _ _ _ _ _
  refine new_jn (P := fun y τ => y = (roB ns, bv false, ()) ∧ τ = σ) rfl hlen rfl hone ?_ ?_
  · rintro y τ ⟨rfl, rfl⟩
    simp only [RR]
    refine c_spec_DrawConfigText hB fun s t p q => ?_
    simp only [RR]
    refine new_frz (xs := encF s t p q) rfl rfl rfl (one_encF _ _ _ _) ?_
    simp only [lodA_all (cs := encF s t p q) (n := 4) rfl, RR]
    refine c_impl_ConfigText ?_
    simp only [RR]
    by_cases c0 : cfgF s t = 0
    · obtain ⟨n, m, rfl, rfl, g1, g2, g3⟩ := cfgF_nat c0
      rw [cfgR_good g1 g2 g3]
      refine new_frz (xs := [iv 0, str (cfgT n m p q)]) rfl rfl rfl (one2 rfl rfl) ?_
      have k0 : ∀ τ, lod (.rop [iv 0, str (cfgT n m p q)] 0) τ = some (iv 0) := fun _ => rfl
      have k1 : ∀ τ, lod (.rop [iv 0, str (cfgT n m p q)] 1) τ = some (str (cfgT n m p q)) := fun _ => rfl
      have hsz : 11 ≤ (cfgT n m p q).size ∧ (cfgT n m p q).size ≤ 1048576 := by
        unfold cfgT
        have := szA n m
        have := sz4 p
        have := sz5 q
        have e4 : 4 ≤ (cond p wPeep wPlain).size := by cases p <;> decide
        have e5 : (txA n m).size = 11 + (dig n).size + (dig m).size := by
          unfold txA
          rw [ByteArray.size_append, ByteArray.size_append, ByteArray.size_append, sz1, sz2]; omega
        rw [ByteArray.size_append, ByteArray.size_append, ByteArray.size_append, ByteArray.size_append, sz3]
        omega
      have found : ∀ {R : AEnd → AH → Prop}, R (.ret (.agg (iv 0 :: encF n m p q))) τ → acall TP fn_impl_ParseConfig [str (cfgT n m p q)] τ R := by
        intro R hR
        refine c_impl_ParseConfig hsz.2 (fun s' t' p' q' a b c d => ?_) fun hn => absurd rfl (hn n m p q g1 g2 g3)
        obtain ⟨rfl, rfl, rfl, rfl⟩ := cfgT_inj (by omega) (by omega) (by omega) (by omega) d
        exact hR
      have fg : fldG 1 4 (.agg (iv 0 :: encF (n : Int) (m : Int) p q)) = some (.agg (encF n m p q)) := rfl
      have g10 : (10 : Int) < ((cfgT n m p q).size : Int) := by omega
      simp only [k0, k1, jn, lodA_all (cs := encF (n : Int) (m : Int) p q) (n := 4) rfl, RR, dec_self]
      refine found ?_
      simp only [fg, cmp_cfg, k1, lodA_all (cs := encF (n : Int) (m : Int) p q) (n := 4) rfl, RR, and_true, true_and]
      refine found ?_
      simp only [g0, k1, g10, RR, and_true, true_and]
      exact ret_here h
    · have e : cfgR s t p q = [iv (cfgF s t), str ⟨#[]⟩] := by unfold cfgR; rw [if_neg c0]
      rw [e]
      refine new_frz (xs := [iv (cfgF s t), str ⟨#[]⟩]) rfl rfl rfl (one2 rfl rfl) ?_
      have k0 : ∀ τ, lod (.rop [iv (cfgF s t), str ⟨#[]⟩] 0) τ = some (iv (cfgF s t)) := fun _ => rfl
      simp only [k0, c0, jn, lodA_all (cs := encF s t p q) (n := 4) rfl, RR]
      refine c_spec_ConfigText ?_
      rw [e]
      simp only [f0, k0, RR, and_true, true_and, lodA_all (cs := encF s t p q) (n := 4) rfl]
      refine c_impl_ConfigFault ?_
      simp only [k0, RR, and_true, true_and]
      exact ret_here h
  · intro k hk
    have go : k (roB ns, bv false, ()) σ := hk _ _ ⟨rfl, rfl⟩
    rcases hr with ⟨s, t, p, q, a1, a2, a3, a4, rfl⟩ | ⟨hn, rfl⟩
    · simp only [l0, l1, RR]
      refine c_impl_ConfigText ?_
      rw [cfgR_good a1 a2 a3, a4]
      have e4 : sbin .neq (str x) (str x) = some (bv false) := by rw [sbin_neq]; simp
      simp only [f1, l0, e4, RR, and_true, true_and, dec_self]
      exact go
    · simp only [l0, RR, show ¬ (5 : Int) = 0 by omega]
      refine c_spec_ParseConfig (fun s t p q a b d hc => absurd hc (hn s t p q a b d)) fun _ => ?_
      simp only [g0, l0, RR, and_true, true_and, dec_self]
      exact go
end Go.Proofs.YtohmmedckdialaaDoor.E
