/- The engine, part 15c: a step beside a family that it does not know. -/
import Derived.Test.YtjfdgijgkbojnaaEF
set_option linter.unusedSectionVars false
namespace Go.Proofs.Ytjfdgijgkbojnaa.E
open Go Go.RowKit
variable [Lam]
theorem Stp.frame {κ κ' : Kap} {σ σ2 : AH} {w w' : World} {φ : Nat} {Z : Fam} (hr : Rel κ (σ.set φ Z) w) (hφ : σ φ = none) (h : Stp κ σ w κ' σ2 w') : σ2 φ = none ∧ Stp κ (σ.set φ Z) w κ' (σ2.set φ Z) w' := by
  obtain ⟨r, hρ, hB, hH⟩ := hr.has φ Z (AH.set_same ..)
  have hlt := hr.block_lt (AH.set_same σ φ Z) hρ
  have hne : ∀ ψ F s, σ ψ = some F → κ.ρ ψ F.st = some s → s.b ≠ r.b := by
    intro ψ F s h1 h2
    have hn : ψ ≠ φ := by rintro rfl; rw [hφ] at h1; cases h1
    exact hr.inj ψ φ F Z s r (by rw [AH.set_ne _ _ hn]; exact h1) (AH.set_same ..) h2 hρ hn
  obtain ⟨b1, b2, b3⟩ := h.fra.blk r.b hlt hne
  obtain ⟨i1, i2⟩ := h.fra.ids φ hφ ⟨_, r, hρ⟩
  have hρ' : κ'.ρ φ Z.st = some r := by rw [i2]; exact hρ
  have R2 := h.rel
  refine ⟨i1, h.ext, ⟨?_, ?_, R2.mem, ?_, ?_, ?_, R2.bel, R2.bw, R2.obj, R2.kp⟩, ⟨h.fra.size, ?_, ?_⟩⟩
  · intro ψ F hF
    by_cases e : ψ = φ
    · subst e; rw [AH.set_same] at hF; obtain rfl := Option.some.inj hF
      exact ⟨r, hρ', by rw [h.ext.B]; exact hB, hH.same h.ext b1⟩
    · rw [AH.set_ne _ _ e] at hF; exact R2.has ψ F hF
  · intro ψ χ F G s u hF hG hs hu hn
    by_cases e1 : ψ = φ
    · subst e1
      rw [AH.set_same] at hF; obtain rfl := Option.some.inj hF
      rw [hρ'] at hs; obtain rfl := Option.some.inj hs
      rw [AH.set_ne _ _ hn.symm] at hG
      exact (b3 χ G u hG hu).symm
    · rw [AH.set_ne _ _ e1] at hF
      by_cases e2 : χ = φ
      · subst e2
        rw [AH.set_same] at hG; obtain rfl := Option.some.inj hG
        rw [hρ'] at hu; obtain rfl := Option.some.inj hu
        exact b3 ψ F s hF hs
      · rw [AH.set_ne _ _ e2] at hG; exact R2.inj ψ χ F G s u hF hG hs hu hn
  · intro ψ F s hF hs o
    by_cases e : ψ = φ
    · subst e; rw [AH.set_same] at hF; obtain rfl := Option.some.inj hF
      rw [hρ'] at hs; obtain rfl := Option.some.inj hs
      rw [b2]; exact hr.off ψ _ _ (AH.set_same ..) hρ o
    · rw [AH.set_ne _ _ e] at hF; exact R2.off ψ F s hF hs o
  · intro ψ F st hF hlt2
    by_cases e : ψ = φ
    · subst e; rw [AH.set_same] at hF; obtain rfl := Option.some.inj hF
      rw [i2]; exact hr.up ψ _ st (AH.set_same ..) hlt2
    · rw [AH.set_ne _ _ e] at hF; exact R2.up ψ F st hF hlt2
  · obtain ⟨N, hN⟩ := R2.fin
    refine ⟨max N (φ + 1), fun ψ hψ => ?_⟩
    have e : ψ ≠ φ := by omega
    rw [AH.set_ne _ _ e]; exact hN ψ (by omega)
  · intro b hb hu
    have hbr : r.b ≠ b := hu φ Z r (AH.set_same ..) hρ
    obtain ⟨c1, c2, c3⟩ := h.fra.blk b hb (fun ψ F s h1 h2 => by
      have hn : ψ ≠ φ := by rintro rfl; rw [hφ] at h1; cases h1
      exact hu ψ F s (by rw [AH.set_ne _ _ hn]; exact h1) h2)
    refine ⟨c1, c2, ?_⟩
    intro ψ F s hF hs
    by_cases e : ψ = φ
    · subst e; rw [AH.set_same] at hF; obtain rfl := Option.some.inj hF
      rw [hρ'] at hs; obtain rfl := Option.some.inj hs
      exact hbr
    · rw [AH.set_ne _ _ e] at hF; exact c3 ψ F s hF hs
  · intro ψ hn he
    have e : ψ ≠ φ := by rintro rfl; rw [AH.set_same] at hn; cases hn
    rw [AH.set_ne _ _ e] at hn ⊢
    exact h.fra.ids ψ hn he
theorem acall_frame {P : Program} {f : FuncId} {args : List AV} {σ : AH} {φ : Nat} {Z : Fam} (hφ : σ φ = none) {k p : AV → AH → Prop} (h : acall P f args σ fun e σ' => match e with | .ret v => k v σ' | .pan v => p v σ') :
    acall P f args (σ.set φ Z) fun e σ' => match e with | .ret v => ∃ σ2, σ' = σ2.set φ Z ∧ σ2 φ = none ∧ k v σ2 | .pan v => p v σ' := by
  obtain ⟨fn, h1, h2, h3, h4⟩ := h
  refine ⟨fn, h1, h2, h3, fun κ w vs hr hv => ?_⟩
  refine (h4 κ w vs (hr.sub (AH.Sub.set (.refl σ) _ hφ)) hv).mono ?_
  rintro e w' ⟨κ', ae, σ2, hk, hs, hE⟩
  obtain ⟨i1, hs'⟩ := Stp.frame hr hφ hs
  cases ae with
  | ret v => exact ⟨κ', .ret v, σ2.set φ Z, ⟨σ2, rfl, i1, hk⟩, hs', hE⟩
  | pan v => exact ⟨κ', .pan v, σ2, hk, hs'.trans (Stp.sub hs'.rel (AH.Sub.set (.refl σ2) _ i1)), hE⟩
theorem acallv_frame {P : Program} {f : AV} {args : List AV} {σ : AH} {φ : Nat} {Z : Fam} (hφ : σ φ = none) {k p : AV → AH → Prop} (h : acallv P f args σ (onr k p)) :
    acallv P f args (σ.set φ Z) fun e σ' => match e with | .ret v => ∃ σ2, σ' = σ2.set φ Z ∧ σ2 φ = none ∧ k v σ2 | .pan v => p v σ' := by
  unfold acallv at h ⊢
  split at h
  · exact acall_frame (k := k) (p := p) hφ (h.mono fun e σ' h => by cases e <;> exact h)
  · intro m κ w vs hr hv
    obtain ⟨fn, tmps, assign, body, hy, hR⟩ := h m κ w vs (hr.sub (AH.Sub.set (.refl σ) _ hφ)) hv
    refine ⟨fn, tmps, assign, body, hy, hR.mono ?_⟩
    rintro e w' ⟨κ', ae, σ2, hk, hs, hE⟩
    obtain ⟨i1, hs'⟩ := Stp.frame hr hφ hs
    cases ae with
    | ret v => exact ⟨κ', .ret v, σ2.set φ Z, ⟨σ2, rfl, i1, hk⟩, hs', hE⟩
    | pan v => exact ⟨κ', .pan v, σ2, hk, hs'.trans (Stp.sub hs'.rel (AH.Sub.set (.refl σ2) _ i1)), hE⟩
  · exact h.elim
theorem acallv_mono {P : Program} {f : AV} {args : List AV} {σ : AH} {Q Q' : AEnd → AH → Prop} (h : acallv P f args σ Q) (k : ∀ e σ', Q e σ' → Q' e σ') : acallv P f args σ Q' := by
  unfold acallv at h ⊢
  split at h
  · exact acall.mono h k
  · exact ayield.mono h k
  · exact h.elim
end Go.Proofs.Ytjfdgijgkbojnaa.E
