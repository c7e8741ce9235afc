/- Draws: numbers that the bytes choose. -/
import Derived.Test.YtohmmedckdialaaDoorC6
set_option linter.unusedSectionVars false
set_option linter.unusedSimpArgs false
set_option linter.unusedVariables false
namespace Go.Proofs.YtohmmedckdialaaDoor.E
open Go Go.RowKit
variable [L : Lam]
variable {σ : AH} {R : AEnd → AH → Prop}
abbrev roB (ns : List Int) : AV := .ro (ns.map fun n => [u8v n])
/-- The source of a draw: the bytes, and how many have been read. -/
abbrev Sr (ns : List Int) (t : Nat) : Fam := ⟨0, 2, [[roB ns, iv (t : Int)]]⟩
structure Bts (ns : List Int) : Prop where
  b : ∀ x, x ∈ ns → 0 ≤ x ∧ x ≤ 255
  l : ns.length ≤ 1048576
theorem ibin_rem {a b : Int} (h0 : 0 ≤ a) (hb : 0 < b) : ibin .rem (.val (.int .i64 a)) (.val (.int .i64 b)) = some (.val (.int .i64 (a % b))) := by
  have e : a.tmod b = a % b := Int.tmod_eq_emod_of_nonneg h0
  have hb' : ¬ b = 0 := by omega
  simp [ibin, binV, hb', e]
theorem ibin_quo {a b : Int} (h0 : 0 ≤ a) (hb : 0 < b) (h1 : a ≤ 9223372036854775807) : ibin .quo (.val (.int .i64 a)) (.val (.int .i64 b)) = some (.val (.int .i64 (a / b))) := by
  have e : a.tdiv b = a / b := Int.tdiv_eq_ediv_of_nonneg h0
  have hb' : ¬ b = 0 := by omega
  have h2 : a / b ≤ a := Int.ediv_le_self b h0
  have h3 : 0 ≤ a / b := Int.ediv_nonneg h0 (by omega)
  have hw : IntKind.i64.wrap (a / b) = a / b := i64_wrap (by omega) (by omega)
  simp [ibin, binV, hb', e, hw]
theorem convI_u8 {n : Int} (h0 : 0 ≤ n) (h1 : n ≤ 255) : convI .i64 (u8v n) = some (iv n) := by
  show some (AV.val (.int .i64 (IntKind.i64.wrap n))) = _
  rw [i64_wrap (by omega) (by omega)]
theorem quo_le {a b : Int} (h0 : 0 ≤ a) (hb : 0 < b) : 0 ≤ a / b ∧ a / b ≤ a := ⟨Int.ediv_nonneg h0 (by omega), Int.ediv_le_self b h0⟩
theorem c_spec_l1Next {φ t : Nat} {ns : List Int} {n : Int} (hF : σ φ = some (Sr ns t)) (hb : Bts ns) (ht : t ≤ 1000000) (hn : n ≤ 1000000)
    (h : ∀ v : Int, (n < 1 → v = 0) → (1 ≤ n → 0 ≤ v ∧ v < n) → R (.ret (iv v)) (σ.set φ (Sr ns (t + 1)))) : acall TP fn_spec_l1Next [.ptr φ 0 0 0, iv n] σ R := by
  have hl := hb.l
  refine s_spec_l1Next_ok ?_
  unfold s_spec_l1Next
  have e1 := lod_at (st := 0) (i := 0) (off := 1) (c := iv (t : Int)) hF rfl rfl
  have a1 : ibin .add (iv (t : Int)) (.val (.int .i64 1)) = some (iv ((t + 1 : Nat) : Int)) := by rw [ibin_add (by omega) (by omega)]; rfl
  simp only [e1, a1, RR]
  refine sto_fld (sz := 2) (off := 1) (i := 0) (cs := [roB ns, iv (t : Int)]) (v := iv ((t + 1 : Nat) : Int)) hF rfl (by omega) rfl rfl ?_
  simp only [List.set_cons_zero, List.set_cons_succ]
  have hF1 : (σ.set φ (Sr ns (t + 1))) φ = some (Sr ns (t + 1)) := AH.set_same ..
  by_cases c0 : n < 1
  · simp only [c0, RR]; exact ret_here (h 0 (fun _ => rfl) (fun h => by omega))
  have sub1 : ibin .sub (iv ((t + 1 : Nat) : Int)) (.val (.int .i64 1)) = some (iv (t : Int)) := by
    rw [ibin_sub (by omega) (by omega)]; congr 3; omega
  have f1 := lod_at (st := 0) (i := 0) (off := 1) (c := iv ((t + 1 : Nat) : Int)) hF1 rfl rfl
  have f0 := lod_at (st := 0) (i := 0) (off := 0) (c := roB ns) hF1 rfl rfl
  have hlen : lenS (roB ns) = some (iv (ns.length : Int)) := by simp [lenS]
  have fin : ∀ v : Int, 0 ≤ v ∧ v < n → aret (iv v) (σ.set φ (Sr ns (t + 1))) R := fun v hv => ret_here (h v (fun h => by omega) (fun _ => hv))
  simp only [c0, f1, f0, sub1, hlen, RR]
  by_cases c1 : ns.length = 0
  · have g : ((ns.length : Nat) : Int) = 0 := by omega
    have m := quo_le (a := (t : Int) * 7) (b := n) (by omega) (by omega)
    have r := Int.emod_lt_of_pos ((t : Int) * 7) (by omega : 0 < n)
    have r0 := Int.emod_nonneg ((t : Int) * 7) (by omega : n ≠ 0)
    simp only [g, ibin_mul (a := (t : Int)) (b := 7) (by omega) (by omega), ibin_rem (a := (t : Int) * 7) (b := n) (by omega) (by omega), RR]
    exact fin _ ⟨r0, r⟩
  have g : ¬ ((ns.length : Nat) : Int) = 0 := by omega
  have hk : (0 : Int) < (ns.length : Int) := by omega
  have at_ : ∀ a : Int, 0 ≤ a → ∃ p, idx 1 (roB ns) (iv (a % (ns.length : Int))) (σ.set φ (Sr ns (t + 1))) = some p ∧ ∃ b : Int, lod p (σ.set φ (Sr ns (t + 1))) = some (u8v b) ∧ 0 ≤ b ∧ b ≤ 255 := by
    intro a ha
    have q0 := Int.emod_nonneg a (by omega : (ns.length : Int) ≠ 0)
    have q1 := Int.emod_lt_of_pos a hk
    have hj : (a % (ns.length : Int)).toNat < ns.length := by omega
    have p1 := idx_ro (σ := σ.set φ (Sr ns (t + 1))) (enc := fun n => [u8v n]) (sz := 1) hj (fun _ => rfl)
    rw [show (((a % (ns.length : Int)).toNat : Nat) : Int) = a % (ns.length : Int) by omega] at p1
    exact ⟨_, p1, _, rfl, hb.b _ (List.getElem_mem hj)⟩
  obtain ⟨p, p1, b, p2, b0, b1⟩ := at_ (t : Int) (by omega)
  have dq := quo_le (a := (t : Int)) (b := (ns.length : Int)) (by omega) hk
  simp only [g, ibin_rem (a := (t : Int)) (b := (ns.length : Int)) (by omega) hk, p1, p2, convI_u8 b0 b1, ibin_quo (a := (t : Int)) (b := (ns.length : Int)) (by omega) hk (by omega),
    ibin_mul (a := (t : Int) / (ns.length : Int)) (b := 37) (by omega) (by omega), ibin_add (a := b) (b := (t : Int) / (ns.length : Int) * 37) (by omega) (by omega), jn, RR]
  have last : ∀ x : Int, 0 ≤ x → og (ibin .rem (.val (.int .i64 x)) (.val (.int .i64 n))) fun v70 => aret v70 (σ.set φ (Sr ns (t + 1))) R := by
    intro x hx
    rw [ibin_rem hx (by omega)]
    exact fin _ ⟨Int.emod_nonneg _ (by omega), Int.emod_lt_of_pos _ (by omega)⟩
  by_cases c2 : 200 < n
  · obtain ⟨p', p1', b', p2', b0', b1'⟩ := at_ ((t : Int) + 1) (by omega)
    simp only [c2, f0, ibin_mul (a := b + (t : Int) / (ns.length : Int) * 37) (b := 251) (by omega) (by omega), ibin_add (a := (t : Int)) (b := 1) (by omega) (by omega),
      ibin_rem (a := (t : Int) + 1) (b := (ns.length : Int)) (by omega) hk, p1', p2', convI_u8 b0' b1', ibin_mul (a := b') (b := 13) (by omega) (by omega),
      ibin_add (a := (b + (t : Int) / (ns.length : Int) * 37) * 251) (b := b' * 13) (by omega) (by omega), ibin_add (a := (b + (t : Int) / (ns.length : Int) * 37) * 251 + b' * 13) (b := (t : Int)) (by omega) (by omega), RR]
    exact last _ (by omega)
  · simp only [c2, RR]
    exact last _ (by omega)
theorem c_spec_l1Chance {φ t : Nat} {ns : List Int} {n : Int} (hF : σ φ = some (Sr ns t)) (hb : Bts ns) (ht : t ≤ 1000000) (hn : n ≤ 1000000)
    (h : ∀ b : Bool, R (.ret (bv b)) (σ.set φ (Sr ns (t + 1)))) : acall TP fn_spec_l1Chance [.ptr φ 0 0 0, iv n] σ R := by
  refine s_spec_l1Chance_ok ?_
  unfold s_spec_l1Chance
  refine c_spec_l1Next hF hb ht hn fun v _ _ => ?_
  simp only [RR]
  exact ret_here (h _)
/-- One out of a list that is written out. -/
theorem bsl_pick {φ t n : Nat} {ns xs : List Int} {ps : List (Nat × AV)} {K : AEnd → AH → Prop} (hF : σ φ = some (Sr ns t)) (hb : Bts ns) (ht : t ≤ 1000000) (he : afillS 1 (List.replicate n [iv 0]) ps = some (xs.map fun x => [iv x])) (hn : xs.length = n) (h0 : 0 < n) (h1 : n ≤ 1000)
    (h : ∀ v, v ∈ xs → K (.ret (iv v)) (σ.set φ (Sr ns (t + 1)))) : bsl 1 [iv 0] n ps σ fun v4 σ => acall TP fn_spec_l1Pick [.ptr φ 0 0 0, v4] σ K := by
  unfold bsl
  rw [he]
  refine ⟨by omega, ?_⟩
  rw [if_neg (by omega)]
  intro ψ hψ
  have hne : φ ≠ ψ := by rintro rfl; rw [hF] at hψ; cases hψ
  refine s_spec_l1Pick_ok ?_
  unfold s_spec_l1Pick
  have ln : lenS (.own ψ 0 0 n) = some (iv (n : Int)) := rfl
  simp only [ln, RR]
  refine c_spec_l1Next (t := t) (ns := ns) (by rw [AH.set_ne' hne]; exact hF) hb ht (by omega) fun v _ hv => ?_
  obtain ⟨v0, v1⟩ := hv (by omega)
  rw [AH.set_comm _ _ _ hne.symm]
  have hj : v.toNat < xs.length := by omega
  have p1 := idx_own (σ := (σ.set φ (Sr ns (t + 1))).set ψ ⟨0, 1, xs.map fun x => [iv x]⟩) (φ := ψ) (st := 0) (off := 0) (n := n) (sz := 1) (i := v.toNat) (es := xs.map fun x => [iv x]) (AH.set_same ..) (by omega)
  rw [show ((v.toNat : Nat) : Int) = v by omega, Nat.zero_add] at p1
  have p2 := lod_at (σ := (σ.set φ (Sr ns (t + 1))).set ψ ⟨0, 1, xs.map fun x => [iv x]⟩) (φ := ψ) (st := 0) (i := v.toNat) (off := 0) (c := iv xs[v.toNat]) (AH.set_same ..) rfl (by show ((xs.map fun x => [iv x]).getD v.toNat [])[0]? = _; rw [List.getD_eq_getElem?_getD, List.getElem?_map, List.getElem?_eq_getElem hj]; rfl)
  simp only [p1, p2, RR]
  exact aret_sub (.set (.refl _) _ (by rw [AH.set_ne' hne.symm]; exact hψ)) (h _ (List.getElem_mem hj))
theorem c_spec_l1Source {ns : List Int} (h : ∀ φ, σ φ = none → R (.ret (.ptr φ 0 0 0)) (σ.set φ (Sr ns 0))) : acall TP fn_spec_l1Source [roB ns] σ R := by
  refine s_spec_l1Source_ok ?_
  unfold s_spec_l1Source
  have e : bld [(.val (.slice none 0 0)), (.val (.int .i64 0))] [(0, 1), (1, 1)] [(0, roB ns)] = some (.agg [roB ns, iv 0]) := by simp [bld, afill, acells, spl, Value.cells]
  simp only [e, abox_agg, RR]
  intro φ hφ
  exact ret_here (h φ hφ)
theorem c_laws_lwBig {ns : List Int} (h : R (.ret (bv (decide (1048576 < ns.length)))) σ) : acall TP fn_laws_lwBig [roB ns] σ R := by
  refine s_laws_lwBig_ok ?_
  unfold s_laws_lwBig
  have hlen : lenS (roB ns) = some (iv (ns.length : Int)) := by simp [lenS]
  simp only [hlen, RR]
  refine ret_here ?_
  have e : decide ((1048576 : Int) < (ns.length : Int)) = decide (1048576 < ns.length) := by congr 1; exact propext (by omega)
  rw [e]; exact h
end Go.Proofs.YtohmmedckdialaaDoor.E
