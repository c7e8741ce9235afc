/- Lines of a text: the reference, as a whole. -/
import Derived.Test.YtohmmedckdialaaDoorW2
set_option linter.unusedSectionVars false
set_option linter.unusedSimpArgs false
set_option linter.unusedVariables false
namespace Go.Proofs.YtohmmedckdialaaDoor.E
open Go Go.RowKit
set_option maxRecDepth 100000
/-- The code and the lines. -/
def loopR (l : List UInt8) : Int × List ByteArray := if 2000 < l.length then (2, []) else if badL (linesL l) then (2, []) else (0, linesL l)
theorem lines_len (l : List UInt8) : (linesL l).length ≤ l.length + 1 := by
  have h1 : (lpc 10 l).length = Lib.count l [10] + 1 := by
    have := @pcs_length lam0 ⟨#[10]⟩ (bs l) (by show 1 ≤ 1; omega)
    have e := congrArg List.length (@pcs_data lam0 10 (bs l))
    rw [List.length_map] at e
    have hl : (bs l).data.toList = l := by simp
    rw [hl] at e
    rw [← e, this]
  have h2 := Lib.count_one (10 : UInt8) l
  have h3 := List.count_le_length (a := (10 : UInt8)) (l := l)
  have h4 := List.length_filter_le nbL (lpc 10 l)
  unfold linesL
  rw [List.length_map]
  omega
section
variable [L : Lam]
variable {σ τ : AH} {R : AEnd → AH → Prop}
theorem c_spec_LoopLines {l : List UInt8} (hl : l.length ≤ 1048576) (h : ∀ a, (∀ τ, RdS τ a (loopR l).2) → a.one = true → R (.ret (.agg [iv (loopR l).1, a])) σ) : acall TP fn_spec_LoopLines [str (bs l)] σ R := by
  refine s_spec_LoopLines_ok ?_
  unfold s_spec_LoopLines
  intro φ2 h2
  have bnil : ∀ k : Int, bld [iv 0, nilT] [(0, 1), (1, 1)] [(0, iv k)] = some (.agg [iv k, nilT]) := fun _ => rfl
  have bnil2 : bld [iv 0, nilT] [(0, 1), (1, 1)] [] = some (.agg [iv 0, nilT]) := rfl
  unfold loopR at h
  by_cases c0 : (2000 : Int) < (l.length : Int)
  · rw [if_pos (show 2000 < l.length by omega)] at h
    simp only [size_bs, c0, bnil, RR]
    exact fin_cell h2 rfl rfl (one2 rfl rfl) (h nilT (fun τ => .nil τ) rfl)
  rw [if_neg (show ¬ 2000 < l.length by omega)] at h
  simp only [size_bs, c0, bnil2, RR]
  intro φ3 h3
  obtain ⟨n32, h3'⟩ := AH.set_none.1 h3
  refine sto_own (es := [[iv 0, nilT]]) (cs := [iv 0, nilT]) (AH.set_same ..) (by simp) rfl rfl rfl (one2 rfl rfl) ?_
  simp only [List.set_cons_zero, AH.set_set]
  have hll := lines_len l
  refine lp_by (fun k y τ => ∃ (fr i : Nat) (a : AV) (ps : List ByteArray) (rem : List (List UInt8)), y = (str (bs l), AV.ptr φ2 0 0 0, AV.ptr φ3 0 0 0, iv (fr : Int), iv (i : Int), ()) ∧ i + k = l.length + 1 ∧ linesL l = ps ++ (rem.filter nbL).map bs ∧
      (i ≤ l.length → fr ≤ i ∧ rem = lpc 10 (l.drop fr) ∧ (10 : UInt8) ∉ (l.drop fr).take (i - fr)) ∧ (i = l.length + 1 → rem = []) ∧
      τ φ2 = some ⟨0, 2, [[iv 0, nilT]]⟩ ∧ τ φ3 = some ⟨0, 2, [[iv 0, a]]⟩ ∧ Buf τ 1 a (txs ps) ∧ (∀ ψ, Buf.fam a ψ → σ ψ = none ∧ ψ ≠ φ2 ∧ ψ ≠ φ3) ∧ AH.Sub σ τ) (l.length + 1) ?_ ?_
  · refine ⟨0, 0, nilT, [], lpc 10 l, rfl, by omega, rfl, fun _ => ⟨Nat.le_refl _, rfl, by simp⟩, fun e => by omega, ?_, AH.set_same .., .inl ⟨.inl rfl, rfl⟩, ?_, .set (.set (.refl σ) _ h2) _ h3'⟩
    · rw [AH.set_ne' (Ne.symm n32), AH.set_same]; rfl
    · rintro ψ ⟨_, _, _, e⟩; cases e
  rintro k y τ ⟨fr, i, a, ps, rem, rfl, hk, hlin, hin, hend, f2, f3, hB, hfam, hsub⟩ R' hR'
  have e31 : lod (.ptr φ3 0 0 1) τ = some a := lod_at f3 rfl rfl
  by_cases c1 : i ≤ l.length
  · obtain ⟨hfi, hrem, hno⟩ := hin c1
    have g1 : (i : Int) ≤ (l.length : Int) := by omega
    simp only [size_bs, g1, jn, RR]
    have up : ibin .add (iv (i : Int)) (iv 1) = some (iv ((i + 1 : Nat) : Int)) := by rw [ibin_add (by omega) (by omega)]; rfl
    by_cases cont : ∃ hi : i < l.length, ¬ (((l[i]'hi).toNat : Nat) : Int) = 10
    · obtain ⟨hi, hne⟩ := cont
      have g2 : (i : Int) < (l.length : Int) := by omega
      have ix := idxStr_bs hi
      simp only [g2, ix, ibin_cmp8, hne, up, RR]
      refine hR' _ _ (k - 1) τ (by omega) (.refl _) ⟨fr, i + 1, a, ps, rem, rfl, by omega, hlin, fun _ => ⟨by omega, hrem, ?_⟩, fun e => by omega, f2, f3, hB, hfam, hsub⟩
      have hd : (l.drop fr)[i - fr]? = some l[i] := by rw [List.getElem?_drop, show fr + (i - fr) = i by omega, List.getElem?_eq_getElem hi]
      rw [show i + 1 - fr = (i - fr) + 1 by omega, List.take_add_one, hd]
      intro hm
      rcases List.mem_append.1 hm with hm | hm
      · exact hno hm
      · have : (10 : UInt8) = l[i] := by simpa using hm
        rw [← this] at hne
        exact hne rfl
    · -- a line ends here
      have stop : ∀ {X Y : Prop}, Y → (og (ibin .lss (iv (i : Int)) (iv (l.length : Int))) fun v21 => og (gval v21 true false (some (str (bs l)))) fun v23 => og (gval v21 true false (some (iv (i : Int)))) fun v24 =>
          og (gval v21 true false (idxStr v23 v24)) fun v25 => og (gval v21 true false (ibin .neq v25 (.val (.int .u8 10)))) fun v26 => og (pickV v21 v26 (bv false)) fun v27 => apick v27 X Y) := by
        intro X Y hY
        by_cases hi : i < l.length
        · have g2 : (i : Int) < (l.length : Int) := by omega
          have ix := idxStr_bs hi
          have h10 : (((l[i]'hi).toNat : Nat) : Int) = 10 := Classical.byContradiction fun hc => cont ⟨hi, hc⟩
          simp only [g2, ix, ibin_cmp8, h10, RR]
          exact hY
        · have g2 : ¬ (i : Int) < (l.length : Int) := by omega
          simp only [g2, RR]
          exact hY
      have hst := @stop
      simp only [RR] at hst
      refine hst ?_
      generalize hp : (l.drop fr).take (i - fr) = piece at hno
      have hpl : piece.length ≤ 1048576 := by rw [← hp, List.length_take, List.length_drop]; omega
      obtain ⟨rem', hr1, hr2, hr3⟩ : ∃ rem', rem = piece :: rem' ∧ (i + 1 ≤ l.length → i + 1 ≤ i + 1 ∧ rem' = lpc 10 (l.drop (i + 1)) ∧ (10 : UInt8) ∉ (l.drop (i + 1)).take (i + 1 - (i + 1))) ∧ (i + 1 = l.length + 1 → rem' = []) := by
        by_cases hi : i < l.length
        · have h10 : (((l[i]'hi).toNat : Nat) : Int) = 10 := Classical.byContradiction fun hc => cont ⟨hi, hc⟩
          have h10' : l[i]'hi = 10 := UInt8.toNat_inj.1 (by show (l[i]'hi).toNat = 10; omega)
          have hcut : l.drop fr = piece ++ 10 :: l.drop (i + 1) := by
            have e1 : (l.drop fr).drop (i - fr) = l.drop i := by rw [List.drop_drop]; congr 1; omega
            have e2 := List.take_append_drop (i - fr) (l.drop fr)
            rw [hp, e1, List.drop_eq_getElem_cons hi, h10'] at e2
            exact e2.symm
          refine ⟨lpc 10 (l.drop (i + 1)), ?_, fun _ => ⟨Nat.le_refl _, rfl, by simp⟩, fun e => by omega⟩
          rw [hrem, hcut]
          exact @lpc_cons lam0 _ _ _ hno
        · refine ⟨[], ?_, fun e => by omega, fun _ => rfl⟩
          have e : piece = l.drop fr := by rw [← hp]; exact List.take_of_length_le (by rw [List.length_drop]; omega)
          rw [hrem, ← e]
          exact @lpc_end lam0 _ _ hno
      rw [slc_mid hfi c1, hp]
      simp only [RR]
      refine c_spec_l15Blank hpl ?_
      subst hr1
      cases cb : piece.all isSpc with
      | true =>
        have hnb : nbL piece = false := by unfold nbL; rw [cb]; rfl
        simp only [up, RR]
        refine hR' _ _ (k - 1) τ (by omega) (.refl _) ⟨i + 1, i + 1, a, ps, rem', rfl, by omega, ?_, hr2, hr3, f2, f3, hB, hfam, hsub⟩
        rw [hlin, List.filter_cons, hnb]; rfl
      | false =>
        have hnb : nbL piece = true := by unfold nbL; rw [cb]; rfl
        have hlin2 : linesL l = (ps ++ [bs piece]) ++ (rem'.filter nbL).map bs := by
          rw [hlin, List.filter_cons, hnb, if_pos rfl, List.map_cons, List.append_assoc]; rfl
        have hpn : ps.length ≤ 1048577 := by
          have := congrArg List.length hlin2
          simp only [List.length_append, List.length_cons, List.length_nil] at this
          omega
        simp only [e31, RR]
        refine ⟨by decide, ?_⟩
        rw [if_neg (by decide)]
        intro χ hχ
        have nχ : ∀ {ψ F}, τ ψ = some F → ψ ≠ χ := fun h => none_ne' h hχ
        have hae : aelems (τ.set χ ⟨0, 1, [[str (bs piece)]]⟩) (.own χ 0 0 1) = some [[str (bs piece)]] := by simp [aelems]
        have B2 : Buf (τ.set χ ⟨0, 1, [[str (bs piece)]]⟩) 1 a (txs ps) := hB.keep fun ψ hf => by
          obtain ⟨F, hF⟩ := hB.fam_some hf
          rw [AH.set_ne' (nχ hF)]
        refine Buf.app B2 hae (by simp) (by intro c hc y hy; rw [List.mem_singleton.1 hc] at hy; rw [List.mem_singleton.1 hy]; rfl) (by simp [txs]; omega) ?_
        intro a' τ3 b1 b2 b3 b4
        have nf2 : ¬ Buf.fam a φ2 := fun hf => (hfam _ hf).2.1 rfl
        have nf3 : ¬ Buf.fam a φ3 := fun hf => (hfam _ hf).2.2 rfl
        have k2 : τ3 φ2 = some ⟨0, 2, [[iv 0, nilT]]⟩ := by
          rw [b2 φ2 nf2 (by rw [AH.set_ne' (nχ f2), f2]; simp), AH.set_ne' (nχ f2), f2]
        have k3 : τ3 φ3 = some ⟨0, 2, [[iv 0, a]]⟩ := by
          rw [b2 φ3 nf3 (by rw [AH.set_ne' (nχ f3), f3]; simp), AH.set_ne' (nχ f3), f3]
        have hfam' : ∀ ψ, Buf.fam a' ψ → σ ψ = none ∧ ψ ≠ φ2 ∧ ψ ≠ φ3 := by
          intro ψ hf
          rcases b3 ψ hf with hf | hn
          · exact hfam ψ hf
          · obtain ⟨m1, m2⟩ := AH.set_none.1 hn
            exact ⟨hsub.none m2, (none_ne' f2 m2).symm, (none_ne' f3 m2).symm⟩
        have hsub' : AH.Sub σ (τ3.set φ3 ⟨0, 2, [[iv 0, a']]⟩) := by
          intro ψ F hF
          have hτ := hsub _ _ hF
          have nfa : ¬ Buf.fam a ψ := fun hf => by rw [(hfam ψ hf).1] at hF; cases hF
          have n3 : ψ ≠ φ3 := by rintro rfl; rw [h3'] at hF; cases hF
          rw [AH.set_ne' n3, b2 ψ nfa (by rw [AH.set_ne' (nχ hτ), hτ]; simp), AH.set_ne' (nχ hτ), hτ]
        refine sto_fld (sz := 2) (off := 1) (i := 0) (cs := [iv 0, a]) (v := a') k3 rfl (by omega) (acells_one (buf_one b1)) (buf_one b1) ?_
        simp only [List.set_cons_zero, List.set_cons_succ, up, RR]
        refine hR' _ _ (k - 1) _ (by omega) (.refl _) ⟨i + 1, i + 1, a', ps ++ [bs piece], rem', rfl, by omega, hlin2, hr2, hr3, ?_, AH.set_same .., ?_, hfam', hsub'⟩
        · rw [AH.set_ne' (Ne.symm n32)]; exact k2
        · have b1' : Buf τ3 1 a' (txs (ps ++ [bs piece])) := by rw [show txs (ps ++ [bs piece]) = txs ps ++ [[str (bs piece)]] by simp [txs]]; exact b1
          exact b1'.keep fun ψ hf => AH.set_ne' (hfam' ψ hf).2.2
  · obtain rfl : i = l.length + 1 := by omega
    have g1 : ¬ ((l.length + 1 : Nat) : Int) ≤ (l.length : Int) := by omega
    have hps : linesL l = ps := by rw [hlin, hend rfl]; simp
    rw [hps] at h
    have hpn : ps.length ≤ 1048576 := by rw [← hps]; omega
    simp only [size_bs, g1, e31, RR]
    refine c_spec_LinesFault (buf_rd hB) hpn ?_
    cases cb : badL ps with
    | true =>
      rw [cb, if_pos rfl] at h
      simp only [bnil, if_true, RR, show ¬ (2 : Int) = 0 by omega]
      refine sto_own (es := [[iv 0, nilT]]) (cs := [iv 2, nilT]) f2 (by simp) rfl rfl rfl (one2 rfl rfl) ?_
      have e := lodA_at (σ := τ.set φ2 ⟨0, 2, [[iv 2, nilT]]⟩) (φ := φ2) (st := 0) (i := 0) (n := 2) (cs := [iv 2, nilT]) (AH.set_same ..) rfl rfl rfl
      simp only [List.set_cons_zero, e, RR]
      exact aret_sub (.set hsub _ h2) (h nilT (fun τ => .nil τ) rfl)
    | false =>
      rw [cb] at h
      have e3 := lodA_at (σ := τ) (φ := φ3) (st := 0) (i := 0) (n := 2) (cs := [iv 0, a]) f3 rfl rfl rfl
      simp only [e3, if_false, dec_self, RR]
      refine sto_own (es := [[iv 0, nilT]]) (cs := [iv 0, a]) f2 (by simp) rfl rfl rfl (one2 rfl (buf_one hB)) ?_
      have e := lodA_at (σ := τ.set φ2 ⟨0, 2, [[iv 0, a]]⟩) (φ := φ2) (st := 0) (i := 0) (n := 2) (cs := [iv 0, a]) (AH.set_same ..) rfl rfl rfl
      simp only [List.set_cons_zero, e, RR]
      have B4 : Buf (τ.set φ2 ⟨0, 2, [[iv 0, a]]⟩) 1 a (txs ps) := hB.keep fun ψ hf => AH.set_ne' (hfam ψ hf).2.1
      obtain ⟨a', z1, z2, z3⟩ := fz_buf (σ := σ) B4 fun ψ hf => (hfam ψ hf).1
      exact aret_freeze (.set hsub _ h2) (fz_agg2 (.same _) z1) (h a' z2 z3)
end
end Go.Proofs.YtohmmedckdialaaDoor.E
