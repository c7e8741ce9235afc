/- Settings and their texts, drawn. -/
import Derived.Test.YtohmmedckdialaaDoorF1
import Derived.Test.YtohmmedckdialaaDoorC2a
set_option linter.unusedSectionVars false
set_option linter.unusedSimpArgs false
set_option linter.unusedVariables false
namespace Go.Proofs.YtohmmedckdialaaDoor.E
open Go Go.RowKit
set_option maxRecDepth 100000
variable [L : Lam]
variable {σ : AH} {R : AEnd → AH → Prop}
theorem none_ne {φ ψ : Nat} {F : Fam} (h : σ φ = some F) (h2 : σ ψ = none) : φ ≠ ψ := by rintro rfl; rw [h] at h2; cases h2
theorem fin_sub {φ n : Nat} {zs cs : List AV} {σ' : AH} (hs : AH.Sub σ' σ) (hφ : σ φ = none) (hz : zs.length = n) (hc : cs.length = n) (h1 : ∀ x, x ∈ cs → x.one = true) (h : R (.ret (.agg cs)) σ') :
    sto n (.ptr φ 0 0 0) (.agg cs) (σ.set φ ⟨0, n, [zs]⟩) fun σ => og (lodA n (.ptr φ 0 0 0) σ) fun r => aret r σ R := by
  refine sto_own (es := [zs]) (cs := cs) (AH.set_same ..) (by simp) (by simpa using hz) rfl hc h1 ?_
  simp only [List.set_cons_zero, AH.set_set]
  have e := lodA_at (σ := σ.set φ ⟨0, n, [cs]⟩) (φ := φ) (st := 0) (i := 0) (n := n) (cs := cs) (AH.set_same ..) rfl rfl hc
  simp only [e, RR]
  exact aret_sub (.set hs _ (hs.none hφ)) h
theorem bldC (s t : Int) (p q : Bool) : bld [iv 0, iv 0, bv false, bv false] [(0, 1), (1, 1), (2, 1), (3, 1)] [(0, iv s), (1, iv t), (2, bv p), (3, bv q)] = some (.agg (encF s t p q)) := rfl
theorem c_spec_l13Draw {φ tt : Nat} {ns : List Int} (hF : σ φ = some (Sr ns tt)) (hb : Bts ns) (ht : tt ≤ 900000)
    (h : ∀ (s t : Int) p q, 1 ≤ s → s ≤ 64 → 0 ≤ t → t ≤ 15 → R (.ret (.agg (encF s t p q))) (σ.set φ (Sr ns (tt + 4)))) : acall TP fn_spec_l13Draw [.ptr φ 0 0 0] σ R := by
  refine s_spec_l13Draw_ok ?_
  unfold s_spec_l13Draw
  intro φ2 h2
  have hne := none_ne hF h2
  refine bsl_pick (t := tt) (ns := ns) (xs := [1, 2, 3, 7, 64]) (by rw [AH.set_ne' hne]; exact hF) hb (by omega) rfl rfl (by omega) (by omega) fun s hs => ?_
  simp only [RR]
  refine c_spec_l1Next (AH.set_same ..) hb (by omega) (by omega) fun t _ htt => ?_
  obtain ⟨t0, t1⟩ := htt (by omega)
  simp only [RR, AH.set_set]
  refine c_spec_l1Chance (AH.set_same ..) hb (by omega) (by omega) fun p => ?_
  simp only [RR, AH.set_set]
  refine c_spec_l1Chance (AH.set_same ..) hb (by omega) (by omega) fun q => ?_
  simp only [RR, AH.set_set, bldC]
  rw [AH.set_comm _ _ _ hne.symm]
  have hs2 : 1 ≤ s ∧ s ≤ 64 := by
    simp only [List.mem_cons, List.not_mem_nil, or_false] at hs
    omega
  exact fin_cell (AH.set_none.2 ⟨hne.symm, h2⟩) rfl rfl (one_encF _ _ _ _) (h s t p q hs2.1 hs2.2 t0 (by omega))
theorem c_spec_l13Bent {φ tt : Nat} {ns : List Int} (hF : σ φ = some (Sr ns tt)) (hb : Bts ns) (ht : tt ≤ 900000)
    (h : ∀ (s t : Int) p q n, R (.ret (.agg (encF s t p q))) (σ.set φ (Sr ns n))) : acall TP fn_spec_l13Bent [.ptr φ 0 0 0] σ R := by
  refine s_spec_l13Bent_ok ?_
  unfold s_spec_l13Bent
  intro φ2 h2
  have hne := none_ne hF h2
  refine c_spec_l13Draw (tt := tt) (ns := ns) (by rw [AH.set_ne' hne]; exact hF) hb ht fun s t p q _ _ _ _ => ?_
  simp only [RR]
  intro φ3 h3
  obtain ⟨n3φ, h3'⟩ := AH.set_none.1 h3
  obtain ⟨n32, h3''⟩ := AH.set_none.1 h3'
  refine sto_own (es := [[iv 0, iv 0, bv false, bv false]]) (cs := encF s t p q) (AH.set_same ..) (by simp) rfl rfl rfl (one_encF _ _ _ _) ?_
  simp only [List.set_cons_zero, AH.set_set]
  refine jn_by (P := fun x τ => x = (AV.ptr φ2 0 0 0, AV.ptr φ3 0 0 0, ()) ∧ ∃ (s t : Int) (p q : Bool) (n : Nat), τ = (((σ.set φ2 ⟨0, 4, [[iv 0, iv 0, bv false, bv false]]⟩).set φ (Sr ns n)).set φ3 ⟨0, 4, [encF s t p q]⟩)) ?_ ?_
  · rintro x τ ⟨rfl, s, t, p, q, n, rfl⟩
    refine frz_cell (AH.set_none.2 ⟨n3φ, h3'⟩) rfl ?_
    simp only [lodA_all (cs := encF s t p q) (n := 4) rfl, RR]
    rw [AH.set_comm _ _ _ hne.symm]
    exact fin_cell (AH.set_none.2 ⟨hne.symm, h2⟩) rfl rfl (one_encF _ _ _ _) (h s t p q n)
  · intro k hk
    have hs : ∀ n Z2 Z3, ((((σ.set φ2 Z2).set φ (Sr ns n)).set φ3 Z3)) φ = some (Sr ns n) := fun n Z2 Z3 => by rw [AH.set_ne' (Ne.symm n3φ), AH.set_same]
    have turn : ∀ n m Z2 Z3, ((((σ.set φ2 Z2).set φ (Sr ns n)).set φ3 Z3)).set φ (Sr ns m) = (((σ.set φ2 Z2).set φ (Sr ns m)).set φ3 Z3) := fun n m Z2 Z3 => by
      rw [AH.set_comm _ _ _ n3φ, AH.set_set]
    refine c_spec_l1Next (hs _ _ _) hb (by omega) (by omega) fun v _ _ => ?_
    rw [turn]
    simp only [RR]
    by_cases c0 : v = 0
    · simp only [c0, RR]
      refine bsl_pick (t := tt + 4 + 1) (ns := ns) (xs := [0, 65]) (hs _ _ _) hb (by omega) rfl rfl (by omega) (by omega) fun s' _ => ?_
      rw [turn]
      simp only [RR]
      refine sto_fld (sz := 4) (off := 0) (i := 0) (cs := encF s t p q) (v := iv s') (AH.set_same ..) rfl (by omega) rfl rfl ?_
      simp only [List.set_cons_zero, AH.set_set]
      exact hk _ _ ⟨rfl, s', t, p, q, _, rfl⟩
    by_cases c1 : v = 1
    · simp only [c1, RR, show ¬ (1 : Int) = 0 by omega]
      refine bsl_pick (t := tt + 4 + 1) (ns := ns) (xs := [-1, 16]) (hs _ _ _) hb (by omega) rfl rfl (by omega) (by omega) fun t' _ => ?_
      rw [turn]
      simp only [RR]
      refine sto_fld (sz := 4) (off := 1) (i := 0) (cs := encF s t p q) (v := iv t') (AH.set_same ..) rfl (by omega) rfl rfl ?_
      simp only [List.set_cons_zero, AH.set_set]
      exact hk _ _ ⟨rfl, s, t', p, q, _, rfl⟩
    simp only [c0, c1, RR]
    exact hk _ _ ⟨rfl, s, t, p, q, _, rfl⟩
theorem c_spec_DrawConfigText {ns : List Int} (hb : Bts ns) (h : ∀ (s t : Int) p q, R (.ret (.agg (encF s t p q))) σ) : acall TP fn_spec_DrawConfigText [roB ns] σ R := by
  refine s_spec_DrawConfigText_ok ?_
  unfold s_spec_DrawConfigText
  intro φ2 h2
  refine c_spec_l1Source fun φ hφ => ?_
  obtain ⟨hne, hφ'⟩ := AH.set_none.1 hφ
  simp only [RR]
  refine c_spec_l13Bent (tt := 0) (ns := ns) (AH.set_same ..) hb (by omega) fun s t p q n => ?_
  simp only [RR, AH.set_set]
  rw [AH.set_comm _ _ _ (Ne.symm hne)]
  exact fin_sub (.set (.refl σ) _ hφ') (AH.set_none.2 ⟨Ne.symm hne, h2⟩) rfl rfl (one_encF _ _ _ _) (h s t p q)
/-! ### bytes -/
def Byt (es : List (List AV)) : Prop := ∀ c, c ∈ es → ∃ n : Int, c = [u8v n]
theorem Byt.bytes : ∀ {es : List (List AV)}, Byt es → ∃ bs, abytes es = some bs ∧ bs.length = es.length := by
  intro es
  induction es with
  | nil => intro _; exact ⟨[], rfl, rfl⟩
  | cons c es ih =>
    intro h
    obtain ⟨n, rfl⟩ := h _ (.head _)
    obtain ⟨bs, h1, h2⟩ := ih fun c hc => h c (.tail _ hc)
    exact ⟨UInt8.ofNat n.toNat :: bs, by simp [abytes, h1], by simp [h2]⟩
theorem Byt.b8 (s : ByteArray) : Byt (b8L s) := by
  intro c hc
  unfold b8L at hc
  obtain ⟨b, _, rfl⟩ := List.mem_map.1 hc
  exact ⟨_, rfl⟩
theorem b8_len (s : ByteArray) : (b8L s).length = s.size := by unfold b8L; rw [List.length_map, Array.length_toList]; rfl
theorem Byt.set {es : List (List AV)} (h : Byt es) (i : Nat) (n : Int) : Byt (es.set i [u8v n]) := by
  intro c hc
  rcases List.mem_or_eq_of_mem_set hc with h' | rfl
  · exact h c h'
  · exact ⟨n, rfl⟩
def strB (T : Tab) (s d : TypeId) : Bool := match T s, T d with
  | some ts, some td => match ts.under, td.under with
    | .string, .slice e => match T e with
      | some te => match te.under with
        | .int .u8 => true
        | _ => false
      | none => false
    | _, _ => false
  | _, _ => false
theorem aconv_str {T : Tab} {s d : TypeId} {x : ByteArray} {k : AV → AH → Prop} (hb : strB T s d = true) (h : ∀ φ, σ φ = none → k (.own φ 0 0 x.size) (σ.set φ ⟨0, 1, b8L x⟩)) : aconv T s d (str x) σ k := by
  unfold strB at hb
  split at hb
  case h_2 => cases hb
  rename_i ts td h1 h2
  split at hb
  case h_2 => cases hb
  rename_i e h3 h4
  split at hb
  case h_2 => cases hb
  rename_i te h5
  split at hb
  case h_2 => cases hb
  rename_i h6
  unfold aconv
  simp only [h1, h2, h3, h4, h5, h6]
  exact h
theorem c_spec_DrawParseConfig {ns : List Int} (hb : Bts ns) (h : ∀ x : ByteArray, x.size ≤ 1048576 → R (.ret (str x)) σ) : acall TP fn_spec_DrawParseConfig [roB ns] σ R := by
  have b1 : strB TT ty_s ty_Lb = true := by kernel_rfl
  refine s_spec_DrawParseConfig_ok ?_
  unfold s_spec_DrawParseConfig
  refine c_spec_l1Source fun φ hφ => ?_
  simp only [RR]
  refine c_spec_l13Draw (tt := 0) (ns := ns) (AH.set_same ..) hb (by omega) fun s t p q s0 s1 t0 t1 => ?_
  simp only [RR, AH.set_set]
  obtain ⟨n, rfl⟩ : ∃ n : Nat, s = (n : Int) := ⟨s.toNat, by omega⟩
  obtain ⟨m, rfl⟩ : ∃ m : Nat, t = (m : Int) := ⟨t.toNat, by omega⟩
  refine new_frz (xs := encF n m p q) rfl rfl rfl (one_encF _ _ _ _) ?_
  refine c_spec_l13Text (by omega) (by omega) ?_
  simp only [RR]
  have hx : 1 ≤ (cfgT n m p q).size ∧ (cfgT n m p q).size ≤ 1000 := by
    unfold cfgT
    have := szA n m
    have := sz4 p
    have := sz5 q
    rw [ByteArray.size_append, ByteArray.size_append, ByteArray.size_append, ByteArray.size_append, sz3]
    omega
  generalize cfgT n m p q = x at hx
  refine aconv_str b1 fun ψ hψ => ?_
  obtain ⟨hne, hψ'⟩ := AH.set_none.1 hψ
  refine jn_by (P := fun y τ => ∃ (es : List (List AV)) (k : Nat), y = (AV.own ψ 0 0 k, ()) ∧ k ≤ es.length ∧ k ≤ 1000 ∧ Byt es ∧ τ ψ = some ⟨0, 1, es⟩ ∧ AH.Sub σ τ) ?_ ?_
  · rintro y τ ⟨es, k, rfl, h1, h2, h3, h4, h5⟩
    have ha : aelems τ (.own ψ 0 0 k) = some (es.take k) := by simp [aelems, h4, h1]
    obtain ⟨bs, e1, e2⟩ := Byt.bytes (es := es.take k) fun c hc => h3 c (List.mem_of_mem_take hc)
    refine aconv_bytes bytes_Lb ha e1 (by intro u h; cases h) (by intro kd n h; cases h) ?_
    refine aret_sub h5 (h _ ?_)
    show bs.toArray.size ≤ _
    rw [List.size_toArray, e2, List.length_take]
    omega
  · intro k hk
    have hs : ∀ (n : Nat) (es : List (List AV)), ((σ.set φ (Sr ns n)).set ψ ⟨0, 1, es⟩) φ = some (Sr ns n) := fun n es => by rw [AH.set_ne' (Ne.symm hne), AH.set_same]
    have turn : ∀ (n m : Nat) (es : List (List AV)), (((σ.set φ (Sr ns n)).set ψ ⟨0, 1, es⟩)).set φ (Sr ns m) = ((σ.set φ (Sr ns m)).set ψ ⟨0, 1, es⟩) := fun n m es => by
      rw [AH.set_comm _ _ _ hne, AH.set_set]
    have sub : ∀ (n : Nat) (es : List (List AV)), AH.Sub σ ((σ.set φ (Sr ns n)).set ψ ⟨0, 1, es⟩) := fun n es => .set (.set (.refl σ) _ hφ) _ hψ'
    refine c_spec_l1Next (hs _ _) hb (by omega) (by omega) fun v _ _ => ?_
    rw [turn]
    simp only [RR]
    have ln : lenS (.own ψ 0 0 x.size) = some (iv (x.size : Int)) := rfl
    by_cases c0 : v = 0
    · simp only [c0, ln, RR]
      refine c_spec_l1Next (hs _ _) hb (by omega) (by omega) fun i hi0 hi1 => ?_
      rw [turn]
      simp only [RR]
      obtain ⟨i0, i1⟩ := hi1 (by omega)
      refine bsl_pick (t := 4 + 1 + 1) (ns := ns) (xs := [48, 32, 120]) (hs _ _) hb (by omega) rfl rfl (by omega) (by omega) fun w _ => ?_
      rw [turn]
      have ec : convI .u8 (iv w) = some (u8v (IntKind.u8.wrap w)) := rfl
      have hj : i.toNat < x.size := by omega
      have p1 := idx_own (σ := (σ.set φ (Sr ns (0 + 4 + 1 + 1 + 1))).set ψ ⟨0, 1, b8L x⟩) (φ := ψ) (st := 0) (off := 0) (n := x.size) (sz := 1) (i := i.toNat) (es := b8L x) (AH.set_same ..) hj
      rw [show ((i.toNat : Nat) : Int) = i by omega, Nat.zero_add] at p1
      simp only [ec, p1, RR]
      have hj2 : i.toNat < (b8L x).length := by rw [b8_len]; exact hj
      obtain ⟨u, hu⟩ := Byt.b8 x _ (List.getElem_mem hj2)
      refine sto_fld (sz := 1) (off := 0) (i := i.toNat) (cs := [u8v u]) (v := u8v (IntKind.u8.wrap w)) (AH.set_same ..) (by show (b8L x)[i.toNat]? = _; rw [List.getElem?_eq_getElem hj2, hu]) (by omega) rfl rfl ?_
      simp only [List.set_cons_zero, AH.set_set]
      exact hk _ _ ⟨(b8L x).set i.toNat [u8v (IntKind.u8.wrap w)], x.size, rfl, by rw [List.length_set, b8_len]; exact Nat.le_refl _, by omega, Byt.set (.b8 x) _ _, AH.set_same .., sub _ _⟩
    by_cases c1 : v = 1
    · simp only [c1, ln, RR, show ¬ (1 : Int) = 0 by omega]
      refine c_spec_l1Next (hs _ _) hb (by omega) (by omega) fun i hi0 hi1 => ?_
      rw [turn]
      simp only [RR]
      obtain ⟨i0, i1⟩ := hi1 (by omega)
      have p1 : slc 1 (.own ψ 0 0 x.size) none (some (iv i)) none ((σ.set φ (Sr ns (0 + 4 + 1 + 1))).set ψ ⟨0, 1, b8L x⟩) = some (.own ψ 0 0 i.toNat) := by
        have e1 : abd (some (iv i)) x.size = some i.toNat := by simp [abd]; omega
        have e2 : ∀ d, abd none d = some d := fun _ => rfl
        simp only [slc, e1, e2, AH.set_same]
        simp
        omega
      simp only [p1, RR]
      exact hk _ _ ⟨b8L x, i.toNat, rfl, by rw [b8_len]; omega, by omega, .b8 x, AH.set_same .., sub _ _⟩
    simp only [c0, c1, RR]
    exact hk _ _ ⟨b8L x, x.size, rfl, by rw [b8_len]; exact Nat.le_refl _, by omega, .b8 x, AH.set_same .., sub _ _⟩
end Go.Proofs.YtohmmedckdialaaDoor.E
