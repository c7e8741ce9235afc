/- Functions that put off a call which recovers: what the frame keeps while its code runs. -/
import Derived.Test.YtmmhaiidcfgbbaaGreatDoorMF
import Derived.RecoverIn
set_option linter.unusedSectionVars false
set_option linter.unusedSimpArgs false
set_option linter.unusedVariables false
namespace Go.Proofs.YtmmhaiidcfgbbaaGreatDoor.E
open Go Go.RowKit
set_option maxRecDepth 100000
variable [L : Lam]
/-- These slots hold these values. -/
def Hold (W : List (Nat × Value)) (a : Act) : Prop := ∀ p, p ∈ W → a.tmps[p.1]? = some p.2
def keepsD (W : List Nat) (o : Oper) : Bool := match o.dst with
  | some d => !W.contains d
  | none => true
theorem Hold.put {W : List (Nat × Value)} {a : Act} {o : Oper} (h : Hold W a) (hk : keepsD (W.map (·.1)) o = true) (v : Value) : Hold W (a.put o.dst v) := by
  intro p hp
  have h1 := h p hp
  unfold keepsD at hk
  cases hd : o.dst with
  | none => exact h1
  | some d =>
    rw [hd] at hk
    have hne : d ≠ p.1 := by
      rintro rfl
      simp at hk
      exact hk p.2 hp
    show (a.tmps.setIfInBounds d v)[p.1]? = _
    rw [Array.getElem?_setIfInBounds_ne hne]; exact h1
theorem bops_okI {P : Program} {T : Tab} (hT : TabOk P T) {W : List (Nat × Value)} {ops : Array Oper} (ms : List (Nat × Nat)) (rest : List Oper) : ∀ (i : Nat) (t : List AV) (σ : AH) (K : List AV → AH → Prop) (Kp : AV → List AV → AH → Prop), bops P T ops ms i rest t σ K Kp →
    rest.all (keepsD (W.map (·.1))) = true →
    ∀ (D : List Deferred) r m κ w (a : Act), Rel κ σ w → EnvR κ t a.tmps → a.defers = D → Hold W a → ∀ (Q : Exit → Act → World → Prop),
      (∀ κ' t' σ' (a' : Act) w', K t' σ' → Stp κ σ w κ' σ' w' → EnvR κ' t' a'.tmps → a'.defers = D → Hold W a' → Q .normal a' w') →
      (∀ κ' v u t' σ' (a' : Act) w', Kp v t' σ' → Stp κ σ w κ' σ' w' → VR κ' v u → EnvR κ' t' a'.tmps → a'.defers = D → Hold W a' → Q (.panic [{ v := u, recovered := false }]) a' w') →
      wpListIn (FR r) m P ops Q rest a w := by
  induction rest with
  | nil =>
    intro i t σ K Kp h _ D r m κ w a hr he hd hh Q h1 _
    exact h1 κ t σ a w h (.refl hr) he hd hh
  | cons o rest ih =>
    intro i t σ K Kp h hW D r m κ w a hr he hd hh Q h1 h2
    rw [List.all_cons, Bool.and_eq_true] at hW
    have he := he.fgm ms i
    unfold wpListIn
    have h := bops_cons h
    generalize fgm ms i t = t at h he
    rcases bgd_ok he h with ⟨hw, h⟩ | ⟨hw, h⟩
    · rw [if_pos hw]
      refine aop_sop hT (bop_ok h) r m κ w a hr he _ _ ?_ ?_
      · intro κ' x v σ' w' hk hs hv
        refine ih (i + 1) (aput t o.dst x) σ' K Kp hk hW.2 D r m κ' w' (a.put o.dst v) hs.rel ((he.mono hs.ext).put o.dst hv) (by rw [defers_put, hd]) (hh.put hW.1 v) Q ?_ ?_
        · intro κ2 t2 σ2 a2 w2 g1 g2 g3 g4 g5; exact h1 κ2 t2 σ2 a2 w2 g1 (hs.trans g2) g3 g4 g5
        · intro κ2 v2 u2 t2 σ2 a2 w2 g1 g2 g3 g4 g5 g6; exact h2 κ2 v2 u2 t2 σ2 a2 w2 g1 (hs.trans g2) g3 g4 g5 g6
      · intro κ' x v σ' w' hk hs hv
        exact h2 κ' x v t σ' a w' hk hs hv (he.mono hs.ext) hd hh
    · rw [if_neg (by rw [hw]; decide)]
      exact ⟨fun _ _ => trivial, ih (i + 1) (aput t o.dst (.tup [])) σ K Kp h hW.2 D r m κ w (a.put o.dst undef) hr (he.put o.dst (undefR κ)) (by rw [defers_put, hd]) (hh.put hW.1 undef) Q h1 h2⟩
/-- Code, and what its frame keeps. -/
def swpI (W : List (Nat × Value)) (P : Program) (c : Code) (Q : QT) (t : List AV) (σ : AH) : Prop :=
  ∀ r m n0 κ w (a : Act), Rel κ σ w → EnvR κ t a.tmps → DF r n0 a w → Hold W a → c.wpIn (FR r) m P (fun e a' w' => PostR κ σ w r n0 Q e a' w' ∧ Hold W a') a w
def linC (W : List Nat) : Code → Bool
  | .skip => true
  | .ret => true
  | .region _ ops false => ops.toList.all (keepsD W)
  | .seq a b => linC W a && linC W b
  | _ => false
section
variable {P : Program} {T : Tab} {W : List (Nat × Value)} {R : AEnd → AH → Prop}
theorem swpI_frz {c : Code} {Q : QT} {t t2 : List AV} {σ σ' : AH} {a v' : AV} (hs : AH.Sub σ' σ) (hf : Fz σ' σ a v') (hl : t2.length = t.length)
    (ht : ∀ i, i < t.length → t2.getD i .any = t.getD i .any ∨ (t.getD i .any = a ∧ t2.getD i .any = v')) (h : swpI W P c Q t2 σ') : swpI W P c Q t σ := by
  intro r m n0 κ w act hr he hd hh
  obtain ⟨k1, k2⟩ := imp_freeze' (κ := κ) (w := w) hs hr
  have he2 : EnvR (kapF σ' σ κ w) t2 act.tmps := by
    refine ⟨hl.trans he.size, fun i hi => ?_⟩
    rcases ht i (by omega) with e | ⟨e1, e2⟩
    · rw [e]; exact (he.at i).mono k1.ext
    · rw [e2]; exact k2 _ _ _ hf (e1 ▸ he.at i)
  refine Code.wpIn_mono ?_ (h r m n0 _ w act k1.rel he2 hd hh)
  exact fun _ _ _ hp => ⟨PostR.mono k1 (fun _ _ _ h => h) hp.1, hp.2⟩
theorem peel_okI {c : Code} {Q : QT} {K : List SV → Nat → Sx → Bool} {ks : List Kont} (hK : ∀ t ρ x σ, K t ρ.length x = true → WF ρ.length t → den P T R x ρ ks σ → swpI W P c Q (t.map (dv ρ)) σ) :
    ∀ (x : Sx) (t : List SV) (ρ : List AV) (σ : AH), peel K x t ρ.length = true → WF ρ.length t → den P T R x ρ ks σ → swpI W P c Q (t.map (dv ρ)) σ := by
  intro x
  induction x with
  | frz n x k ih =>
    intro t ρ σ h hw hd
    simp only [peel, Bool.and_eq_true] at h
    obtain ⟨⟨h1, h2⟩, h3⟩ := h
    simp only [den] at hd
    obtain ⟨v', σ', g1, g2, g3⟩ := hd
    rw [eqv_ok h1] at g2
    refine swpI_frz (t2 := (rplS n ρ.length t).map (dv (v' :: ρ))) g1 g2 (by simp [rplS_len]) (fun i hi => rplS_at hw i (by simpa using hi)) ?_
    exact ih _ (v' :: ρ) σ' h3 (rplS_wf hw) g3
  | _ => intro t ρ σ h hw hd; exact hK t ρ _ σ h hw hd
theorem swpI_seq {x y : Code} {Q : QT} {t : List AV} {σ : AH} (h : swpI W P x (fun z t σ => match z with | .normal => swpI W P y Q t σ | z => Q z t σ) t σ) : swpI W P (.seq x y) Q t σ := by
  intro r m n0 κ w a hr he hd hh
  refine wpIn_seq (Code.wpIn_mono ?_ (h r m n0 κ w a hr he hd hh))
  rintro e a' w' ⟨⟨κ', z, t', σ', h1, h2, h3, h4, h5⟩, h6⟩
  cases e <;> cases z <;> try exact h5.elim
  · exact Code.wpIn_mono (fun _ _ _ hp => ⟨PostR.mono h2 (fun _ _ _ h => h) hp.1, hp.2⟩) (h1 r m n0 κ' w' a' h2.rel h3 h4 h6)
  all_goals exact ⟨⟨κ', _, t', σ', h1, h2, h3, h4, h5⟩, h6⟩
theorem okC_okI (hT : TabOk P T) (c : Code) : linC (W.map (·.1)) c = true → ∀ (R : AEnd → AH → Prop) (p : Nat) (t : List SV) (ρ : List AV) (K : KS) (x : Sx) (Q : QT) (ks : List Kont) (σ : AH), okC T p c t ρ.length ks.length K x = true → WF ρ.length t → den P T R x ρ ks σ →
    (∀ ax t' ρ' ks' x' σ', (∃ pre, ks' = pre ++ ks) → K ax t' ρ'.length ks'.length x' = true → WF ρ'.length t' → den P T R x' ρ' ks' σ' → Q ax.up (t'.map (dv ρ')) σ') → (∀ v a σ, apan v σ R → Q (.pan v) a σ) →
    swpI W P c Q (t.map (dv ρ)) σ := by
  induction c with
  | skip => intro _ R p t ρ K x Q ks σ h hw hd hK hP; exact fun _ _ _ κ _ _ hr he hde hh => wpIn_skip ⟨⟨κ, .normal, _, σ, hK .normal t ρ ks x σ ⟨[], rfl⟩ h hw hd, .refl hr, he, hde, trivial⟩, hh⟩
  | ret => intro _ R p t ρ K x Q ks σ h hw hd hK hP; exact fun _ _ _ κ _ _ hr he hde hh => wpIn_ret ⟨⟨κ, .ret, _, σ, hK .ret t ρ ks x σ ⟨[], rfl⟩ h hw hd, .refl hr, he, hde, trivial⟩, hh⟩
  | region id ops draw =>
    intro hl R p t ρ K x Q ks σ h hw hd hK hP
    cases draw with
    | true => cases hl
    | false =>
      refine peel_okI ?_ x t ρ σ h hw hd
      clear h hw hd x t ρ σ
      intro t ρ x σ h hw hd
      have hKb : ∀ a σ, Goes P T R ks (fun t d x => K .normal t d ks.length x) a σ → Q .normal a σ := by
        rintro a σ ⟨ρ', t', x', g1, g2, rfl, g3⟩
        exact hK .normal t' ρ' ks x' σ ⟨[], rfl⟩ g1 g2 g3
      have hb := okOps_ok (Kp := fun v a σ => Q (.pan v) a σ) hKb hP ops.toList 0 _ σ ⟨ρ, t, x, h, hw, rfl, hd⟩
      intro r m n0 κ w a hr he hde hh
      refine wpIn_region_list (bops_okI hT [] ops.toList 0 _ σ _ _ hb hl a.defers r m κ w a hr he rfl hh _ ?_ ?_)
      · intro κ' t' σ' a' w' hk hs he' hd' hh'; exact ⟨⟨κ', .normal, t', σ', hk, hs, he', hde.stp hr hs hd', trivial⟩, hh'⟩
      · intro κ' v u t' σ' a' w' hk hs hv he' hd' hh'; exact ⟨⟨κ', .pan v, t', σ', hk, hs, he', hde.stp hr hs hd', u, rfl, hv⟩, hh'⟩
  | seq a b iha ihb =>
    intro hl R p t ρ K x Q ks σ h hw hd hK hP
    simp only [linC, Bool.and_eq_true] at hl
    simp only [okC] at h
    split at h
    · rename_i ls r k hj
      unfold isJn at hj
      split at hj
      case h_2 => cases hj
      split at hj
      case h_2 => cases hj
      cases hj
      simp only [Bool.and_eq_true] at h
      obtain ⟨h1, h2⟩ := h
      simp only [den, jn] at hd
      refine swpI_seq (iha hl.1 R (2 * p) t ρ _ k _ (_ :: ks) σ h1 hw hd ?_ (fun v a σ g => hP v a σ g))
      rintro ax t' ρ' ks' x' σ' ⟨pre, hpre⟩ g1 g2 g3
      cases ax with
      | normal =>
        obtain ⟨l1, l2⟩ := jump_ok g1 hpre g3
        simp only [lTup_map] at l2
        have hb := ihb hl.2 R (2 * p + 1) (expS ls (blankS t)) (tupL ls (compT (t'.map (dv ρ')) ls)) K r Q ks σ' (by rw [tupL_length]; exact h2) (by rw [tupL_length]; exact expS_wf ls _ (blankS_wf _ t) (Nat.le_refl _)) l2 hK hP
        have e := expS_map ls [] (compT (t'.map (dv ρ')) ls) (blankS t)
        simp only [List.nil_append] at e
        rw [e, blankS_map] at hb
        intro r m n0 κ w a hr he hde
        refine hb r m n0 κ w a hr (expT_ok he ls _ (blank_ok ?_)) hde
        have := he.size
        simp only [List.length_map] at this ⊢; omega
      | exit id => exact hK (.exit id) t' ρ' ks' x' σ' ⟨pre ++ [_], by rw [hpre, List.append_assoc]; rfl⟩ g1 g2 g3
      | ret => exact hK .ret t' ρ' ks' x' σ' ⟨pre ++ [_], by rw [hpre, List.append_assoc]; rfl⟩ g1 g2 g3
    · refine swpI_seq (iha hl.1 R (2 * p) t ρ _ x _ ks σ h hw hd ?_ (fun v a σ g => hP v a σ g))
      rintro ax t' ρ' ks' x' σ' ⟨pre, hpre⟩ g1 g2 g3
      cases ax with
      | normal =>
        refine ihb hl.2 R (2 * p + 1) t' ρ' K x' Q ks' σ' g1 g2 g3 ?_ hP
        rintro ax t2 ρ2 ks2 x2 σ2 ⟨pre2, hpre2⟩ q1 q2 q3
        exact hK ax t2 ρ2 ks2 x2 σ2 ⟨pre2 ++ pre, by rw [hpre2, hpre, List.append_assoc]⟩ q1 q2 q3
      | exit id => exact hK (.exit id) t' ρ' ks' x' σ' ⟨pre, hpre⟩ g1 g2 g3
      | ret => exact hK .ret t' ρ' ks' x' σ' ⟨pre, hpre⟩ g1 g2 g3
  | _ => intro hl; cases hl
end
end Go.Proofs.YtmmhaiidcfgbbaaGreatDoor.E
