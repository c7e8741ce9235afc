/- The engine, part 30: regions that draw their order, checked against syntax. -/
import Derived.Test.YtjfdgijgkbojnaaE29
set_option linter.unusedSectionVars false
namespace Go.Proofs.Ytjfdgijgkbojnaa.E
open Go Go.RowKit
variable [Lam]

def okSilD (T : Tab) (o : Oper) (t : List SV) (d : Nat) (x : Sx) (K : List SV → Nat → Sx → Bool) : Bool := match symED T o.op (evS t) with
  | some (.ret s) => K (sput t o.dst s) d x
  | some e => match x with
    | .og e' k => eqE d e e' && K (sput t o.dst (.var d)) (d + 1) k
    | _ => false
  | none => false
def okAskD (T : Tab) (o : Oper) (t : List SV) (d : Nat) (b : SV) (want g : Bool) (x : Sx) (K : List SV → Nat → Sx → Bool) : Bool := match symED T o.op (evS t), x with
  | some e, .gog b' w' g' e' k => eqv d b b' && eqB want w' && eqB g g' && eqE d e e' && K (sput t o.dst (.var d)) (d + 1) k
  | _, _ => false
theorem symED_ret {T : Tab} {o : Op} {ev : Operand → SV} {s : SV} (h : symED T o ev = some (.ret s)) : ∃ x, s = ev x := by
  unfold symED at h
  split at h
  · split at h <;> cases h
  · split at h
    · cases h
    · exact symE_ret h
  · exact symE_ret h
section
variable {P : Program} {T : Tab} {R : AEnd → AH → Prop} {ks : List Kont} {ops : Array Oper}
theorem okSilD_ok {o : Oper} {t : List SV} {ρ : List AV} {x : Sx} {K : List SV → Nat → Sx → Bool} {σ : AH} (h : okSilD T o t ρ.length x K = true) (hw : WF ρ.length t) (hd : den P T R x ρ ks σ) :
    og (bvalD T o.op (aeval (t.map (dv ρ))) σ) fun v => Goes P T R ks K (aput (t.map (dv ρ)) o.dst v) σ := by
  unfold okSilD at h
  split at h
  · rename_i s hs
    rw [← symED_ok hs (dv ρ) (aeval_map ρ t) σ]
    obtain ⟨y, rfl⟩ := symED_ret hs
    exact ⟨ρ, _, x, h, hw.put _ (hw.ev y), map_sput .., hd⟩
  · rename_i e _ he
    rw [← symED_ok he (dv ρ) (aeval_map ρ t) σ]
    split at h
    case h_2 => cases h
    simp only [Bool.and_eq_true] at h
    simp only [den] at hd
    rw [eqE_ok h.1] at hd
    exact og_mono (fun _ h => h) (fun v hv => Goes.push hw h.2 hv) hd
  · cases h
theorem okAskD_ok {o : Oper} {t : List SV} {ρ : List AV} {x : Sx} {σ : AH} {b : SV} {want g : Bool} {s : Nat} {K : List SV → Nat → Sx → Bool} (hg : gst ops o t = .ask b want g s) (h : okAskD T o t ρ.length b want g x K = true) (hw : WF ρ.length t) (hd : den P T R x ρ ks σ) :
    og (gvo ops o (t.map (dv ρ)) (bvalD T o.op (aeval (t.map (dv ρ))) σ)) fun v => Goes P T R ks K (aput (t.map (dv ρ)) o.dst v) σ := by
  obtain ⟨j, h1, h2, h3, h4⟩ := gst_ask hg
  unfold okAskD at h
  split at h
  case h_2 => cases h
  rename_i e b' w' g' e' k he
  simp only [Bool.and_eq_true] at h
  obtain ⟨⟨⟨⟨e1, e2⟩, e3⟩, e4⟩, e5⟩ := h
  unfold gvo
  simp only [h1, h2, map_getD]
  rw [← symED_ok he (dv ρ) (aeval_map ρ t) σ, ← eqE_ok e4, ← h3, ← eqv_ok e1, ← h4, eqB_ok e2, eqB_ok e3]
  exact og_mono (fun _ h => h) (fun v hv => Goes.push hw e5 hv) hd
end
def okWat (T : Tab) (ops : Array Oper) (t : List SV) (d : Nat) : List Nat → List Wat → Bool
  | [], [] => true
  | y :: r, ws => match ops[y]? with
    | none => false
    | some o => match o.dst with
      | none => false
      | some dd => match gst ops o t, ws with
        | .skip, ws => (match t.getD dd .any with | .unit => true | _ => false) && okWat T ops t d r ws
        | .free, w :: ws => (match w.gd, symED T o.op (evS t) with | none, some e => eqE d e w.e && eqv d (t.getD dd .any) w.v | _, _ => false) && okWat T ops t d r ws
        | .go, w :: ws => (match w.gd, symED T o.op (evS t) with | none, some e => eqE d e w.e && eqv d (t.getD dd .any) w.v | _, _ => false) && okWat T ops t d r ws
        | .ask b want g _, w :: ws => (match w.gd, symED T o.op (evS t) with
            | some (b', want', g'), some e => eqv d b b' && eqB want want' && eqB g g' && eqE d e w.e && eqv d (t.getD dd .any) w.v
            | _, _ => false) && okWat T ops t d r ws
        | _, _ => false
  | _, _ => false
def okCw (T : Tab) (ops : Array Oper) (ancs : List Nat) (K : List SV → Nat → Sx → Bool) : List Nat → List Nat → List SV → Nat → Sx → Bool
  | [], _, t, d, x => K t d x
  | i :: l, dn, t, d, x => match ops[i]? with
    | none => false
    | some o => match silentD o.op, gst ops o t with
      | true, .free => okSilD T o t d x (okCw T ops ancs K l (i :: dn))
      | true, .go => okSilD T o t d x (okCw T ops ancs K l (i :: dn))
      | true, .ask b want g _ => okAskD T o t d b want g x (okCw T ops ancs K l (i :: dn))
      | false, .free => okLoud T o t d x (fun t d x => match x with | .wat ws k => okWat T ops t d (wl ops ancs dn i) ws && okCw T ops ancs K l (i :: dn) t d k | _ => false)
      | false, .go => okLoud T o t d x (fun t d x => match x with | .wat ws k => okWat T ops t d (wl ops ancs dn i) ws && okCw T ops ancs K l (i :: dn) t d k | _ => false)
      | false, .ask b want g s => okAsk T o t d b want g s x (fun t d x => match x with | .wat ws k => okWat T ops t d (wl ops ancs dn i) ws && okCw T ops ancs K l (i :: dn) t d k | _ => false) (okCw T ops ancs K l (i :: dn))
      | _, .skip => okCw T ops ancs K l (i :: dn) (sput t o.dst .unit) d x
      | _, .bad => false
section
variable {P : Program} {T : Tab} {R : AEnd → AH → Prop} {ks : List Kont} {ops : Array Oper} {ancs : List Nat}
theorem okWat_ok {t : List SV} {ρ : List AV} {σ : AH} (l : List Nat) : ∀ (ws : List Wat), okWat T ops t ρ.length l ws = true → dwat T ρ σ ws → wat T ops l (t.map (dv ρ)) σ := by
  induction l with
  | nil => intro ws _ _; trivial
  | cons y r ih =>
    intro ws h hd
    unfold okWat at h
    cases hy : ops[y]? with
    | none => rw [hy] at h; cases h
    | some o =>
      rw [hy] at h
      simp only [] at h
      cases ho : o.dst with
      | none => rw [ho] at h; cases h
      | some dd =>
        rw [ho] at h
        simp only [] at h
        have goal1 : gvo ops o (t.map (dv ρ)) (bvalD T o.op (aeval (t.map (dv ρ))) σ) = some (dv ρ (t.getD dd .any)) → wat1 T ops y (t.map (dv ρ)) σ := by
          intro g
          unfold wat1
          simp only [hy, ho, map_getD]; exact g
        have free : ∀ (w : Wat), (match w.gd, symED T o.op (evS t) with | none, some e => eqE ρ.length e w.e && eqv ρ.length (t.getD dd .any) w.v | _, _ => false) = true → (gst ops o t = .free ∨ gst ops o t = .go) → dwat1 T ρ σ w → wat1 T ops y (t.map (dv ρ)) σ := by
          intro w hw hg hd1
          split at hw
          case h_2 => cases hw
          rename_i e e1 e2
          simp only [Bool.and_eq_true] at hw
          refine goal1 ?_
          rw [gvo_gdec, gst_go hg]
          simp only []
          rw [← symED_ok e2 (dv ρ) (aeval_map ρ t) σ, ← eqE_ok hw.1, ← eqv_ok hw.2]
          unfold dwat1 at hd1
          rw [e1] at hd1
          exact hd1
        split at h
        · rename_i hg
          simp only [Bool.and_eq_true] at h
          refine ⟨goal1 ?_, ih _ h.2 hd⟩
          rw [gvo_gdec, gst_skip hg]
          have h1 := h.1
          split at h1
          · rename_i hu; rw [hu]; rfl
          · cases h1
        · rename_i w ws hg
          simp only [Bool.and_eq_true] at h
          exact ⟨free w h.1 (.inl hg) hd.1, ih _ h.2 hd.2⟩
        · rename_i w ws hg
          simp only [Bool.and_eq_true] at h
          exact ⟨free w h.1 (.inr hg) hd.1, ih _ h.2 hd.2⟩
        · rename_i b want g _ w ws hg
          simp only [Bool.and_eq_true] at h
          refine ⟨goal1 ?_, ih _ h.2 hd.2⟩
          obtain ⟨j, h1, h2, h3, h4⟩ := gst_ask hg
          have hw := h.1
          split at hw
          case h_2 => cases hw
          rename_i b' want' g' e e1 e2
          simp only [Bool.and_eq_true] at hw
          obtain ⟨⟨⟨⟨w1, w2⟩, w3⟩, w4⟩, w5⟩ := hw
          unfold gvo
          simp only [h1, h2, map_getD]
          rw [← symED_ok e2 (dv ρ) (aeval_map ρ t) σ, ← eqE_ok w4, ← eqv_ok w5, ← h3, ← eqv_ok w1, ← h4, eqB_ok w2, eqB_ok w3]
          have hd1 := hd.1
          unfold dwat1 at hd1
          rw [e1] at hd1
          exact hd1
        · cases h
theorem okCw_ok {K : List SV → Nat → Sx → Bool} {Kb : List AV → AH → Prop} {Kp : AV → AH → Prop} (hK : ∀ a σ, Goes P T R ks K a σ → Kb a σ) (hP : ∀ v σ, apan v σ R → Kp v σ) (l : List Nat) :
    ∀ (dn : List Nat) (a : List AV) (σ : AH), Goes P T R ks (okCw T ops ancs K l dn) a σ → cw P T ops ancs l dn a σ Kb Kp := by
  induction l with
  | nil => intro dn a σ h; exact hK a σ h
  | cons i l ih =>
    rintro dn a σ ⟨ρ, t, x, h, hw, rfl, hd⟩
    simp only [okCw] at h
    cases hi : ops[i]? with
    | none => rw [hi] at h; cases h
    | some o =>
      rw [hi] at h
      simp only [cw, hi]
      simp only [] at h
      have watch : ∀ a σ, Goes P T R ks (fun t d x => match x with | .wat ws k => okWat T ops t d (wl ops ancs dn i) ws && okCw T ops ancs K l (i :: dn) t d k | _ => false) a σ →
          wat T ops (wl ops ancs dn i) a σ ∧ cw P T ops ancs l (i :: dn) a σ Kb Kp := by
        rintro a σ ⟨ρ, t, x, h, hw, rfl, hd⟩
        simp only [] at h
        split at h
        case h_2 => cases h
        simp only [Bool.and_eq_true] at h
        exact ⟨okWat_ok _ _ h.1 hd.1, ih _ _ _ ⟨ρ, t, _, h.2, hw, rfl, hd.2⟩⟩
      have skip : gst ops o t = .skip → okCw T ops ancs K l (i :: dn) (sput t o.dst .unit) ρ.length x = true → cw P T ops ancs l (i :: dn) (aput (t.map (dv ρ)) o.dst (.tup [])) σ Kb Kp :=
        fun _ h => ih _ _ _ ⟨ρ, _, x, h, hw.put _ trivial, map_sput .., hd⟩
      cases hs : silentD o.op with
      | true =>
        simp only []
        rw [hs] at h
        cases hg : gst ops o t with
        | free =>
          rw [hg] at h
          rw [gvo_gdec, gst_go (.inl hg)]
          exact og_mono (fun _ h => h) (fun v g => ih _ _ _ g) (okSilD_ok h hw hd)
        | go =>
          rw [hg] at h
          rw [gvo_gdec, gst_go (.inr hg)]
          exact og_mono (fun _ h => h) (fun v g => ih _ _ _ g) (okSilD_ok h hw hd)
        | skip =>
          rw [hg] at h
          rw [gvo_gdec, gst_skip hg]
          exact skip hg h
        | ask b want g s =>
          rw [hg] at h
          exact og_mono (fun _ h => h) (fun v g => ih _ _ _ g) (okAskD_ok hg h hw hd)
        | bad => rw [hg] at h; cases h
      | false =>
        simp only []
        rw [hs] at h
        have loud : okLoud T o t ρ.length x (fun t d x => match x with | .wat ws k => okWat T ops t d (wl ops ancs dn i) ws && okCw T ops ancs K l (i :: dn) t d k | _ => false) = true →
            bop P T o.op (aeval (t.map (dv ρ))) σ (onr (fun v σ' => wat T ops (wl ops ancs dn i) (aput (t.map (dv ρ)) o.dst v) σ' ∧ cw P T ops ancs l (i :: dn) (aput (t.map (dv ρ)) o.dst v) σ' Kb Kp) (fun v σ' => Kp v σ')) :=
          fun h => bop_mono (silentD_false hs) (onr_mono (fun v σ' g => watch _ _ g) (fun v σ' g => hP _ _ g)) (okLoud_ok h hw hd)
        cases hg : gst ops o t with
        | free => rw [hg] at h; exact bgd_iff.mpr (.inl ⟨gst_go (.inl hg), loud h⟩)
        | go => rw [hg] at h; exact bgd_iff.mpr (.inl ⟨gst_go (.inr hg), loud h⟩)
        | skip =>
          rw [hg] at h
          exact bgd_iff.mpr (.inr ⟨gst_skip hg, skip hg h⟩)
        | ask b want g s =>
          rw [hg] at h
          have := okAsk_ok (silentD_false hs) hg h hw hd
          rw [bgd_iff] at this ⊢
          rcases this with ⟨g1, g2⟩ | ⟨g1, g2⟩
          · exact .inl ⟨g1, bop_mono (silentD_false hs) (onr_mono (fun v σ' g => watch _ _ g) (fun v σ' g => hP _ _ g)) g2⟩
          · exact .inr ⟨g1, ih _ _ _ g2⟩
        | bad => rw [hg] at h; cases h
end
end Go.Proofs.Ytjfdgijgkbojnaa.E
