/- The engine, part 29: regions checked against syntax. -/
import Derived.Test.YtjfdgijgkbojnaaE28
set_option linter.unusedSectionVars false
namespace Go.Proofs.Ytjfdgijgkbojnaa.E
open Go Go.RowKit
variable [Lam]

section
variable {P : Program} {T : Tab} {R : AEnd → AH → Prop} {ks : List Kont} {ops : Array Oper} {o : Oper} {t : List SV} {ρ : List AV} {x : Sx} {σ : AH}
theorem gst_go (h : gst ops o t = .free ∨ gst ops o t = .go) : gdec ops o (t.map (dv ρ)) = some true := by
  unfold gst at h
  unfold gdec
  cases hg : o.guard with
  | none => rfl
  | some gw =>
    obtain ⟨j, want⟩ := gw
    rw [hg] at h
    simp only [] at h ⊢
    cases hs : gslot ops j with
    | none => rw [hs] at h; rcases h with h | h <;> cases h
    | some s =>
      rw [hs] at h
      simp only [map_getD] at h ⊢
      split at h
      · rename_i b hb
        rw [hb]
        split at h
        · rename_i e; simp only [dv, ofV]; rw [eqB_ok e]; simp
        · rcases h with h | h <;> cases h
      · split at h <;> rcases h with h | h <;> cases h
      · rcases h with h | h <;> cases h
theorem gst_skip (h : gst ops o t = .skip) : gdec ops o (t.map (dv ρ)) = some false := by
  unfold gst at h
  unfold gdec
  cases hg : o.guard with
  | none => rw [hg] at h; cases h
  | some gw =>
    obtain ⟨j, want⟩ := gw
    rw [hg] at h
    simp only [] at h ⊢
    cases hs : gslot ops j with
    | none => rw [hs] at h; cases h
    | some s =>
      rw [hs] at h
      simp only [map_getD] at h ⊢
      split at h
      · rename_i b hb
        rw [hb]
        split at h
        · cases h
        · rename_i e
          simp only [dv, ofV]
          cases b <;> cases want <;> first | rfl | (cases e; done)
      · rename_i hb
        rw [hb]
        split at h
        · rename_i e; simp only [dv, e]
        · cases h
      · cases h
theorem gst_ask {b : SV} {want g : Bool} {s : Nat} (h : gst ops o t = .ask b want g s) : ∃ j, o.guard = some (j, want) ∧ gslot ops j = some s ∧ b = t.getD s .any ∧ g = guarded ops j := by
  unfold gst at h
  cases hg : o.guard with
  | none => rw [hg] at h; cases h
  | some gw =>
    obtain ⟨j, w⟩ := gw
    rw [hg] at h
    simp only [] at h
    cases hs : gslot ops j with
    | none => rw [hs] at h; cases h
    | some s' =>
      rw [hs] at h
      simp only [] at h
      split at h
      · split at h <;> cases h
      · split at h <;> cases h
      · cases h; exact ⟨j, rfl, hs, rfl, rfl⟩
theorem okAskV_ok {b : SV} {want g : Bool} {s : Nat} {K : List SV → Nat → Sx → Bool} (hg : gst ops o t = .ask b want g s) (h : okAskV T o t ρ.length b want g x K = true) (hw : WF ρ.length t) (hd : den P T R x ρ ks σ) :
    og (gvo ops o (t.map (dv ρ)) (bval T o.op (aeval (t.map (dv ρ))) σ)) fun v => Goes P T R ks K (aput (t.map (dv ρ)) o.dst v) σ := by
  obtain ⟨j, h1, h2, h3, h4⟩ := gst_ask hg
  unfold okAskV at h
  split at h
  case h_2 => cases h
  rename_i e b' w' g' e' k he
  simp only [Bool.and_eq_true] at h
  obtain ⟨⟨⟨⟨e1, e2⟩, e3⟩, e4⟩, e5⟩ := h
  unfold gvo
  simp only [h1, h2, map_getD]
  rw [← symE_ok he (dv ρ) (aeval_map ρ t) σ, ← eqE_ok e4, ← h3, ← eqv_ok e1, ← h4, eqB_ok e2, eqB_ok e3]
  exact og_mono (fun _ h => h) (fun v hv => Goes.push hw e5 hv) hd
theorem okAsk_ok {b : SV} {want g : Bool} {s : Nat} {Kr Ks : List SV → Nat → Sx → Bool} (_hs : silent o.op = false) (hg : gst ops o t = .ask b want g s) (h : okAsk T o t ρ.length b want g s x Kr Ks = true) (hw : WF ρ.length t) (hd : den P T R x ρ ks σ) :
    bgd ops o (t.map (dv ρ))
      (fun a => bop P T o.op (aeval a) σ (onr (fun v σ' => Goes P T R ks Kr (aput a o.dst v) σ') (fun v σ' => apan v σ' R)))
      (fun a => Goes P T R ks Ks (aput a o.dst (.tup [])) σ) := by
  obtain ⟨j, h1, h2, h3, h4⟩ := gst_ask hg
  unfold okAsk at h
  split at h
  case h_2 => cases h
  rename_i b' xa xb xc
  simp only [Bool.and_eq_true] at h
  obtain ⟨⟨⟨e1, e2⟩, e3⟩, e4⟩ := h
  unfold bgd
  simp only [h1, h2, map_getD]
  rw [← h3, ← eqv_ok e1]
  simp only [den] at hd
  have hset : ∀ (u : SV), (t.map (dv ρ)).set s (dv ρ u) = (t.set s u).map (dv ρ) := fun u => List.map_set.symm
  unfold gpick at hd ⊢
  split at hd
  · have hh := hset (.cst (.bool true))
    rw [show dv ρ (.cst (.bool true)) = .val (.bool true) from rfl] at hh
    rw [hh]
    cases want with
    | true => exact okLoud_ok e2 (hw.set s trivial) hd
    | false => exact ⟨ρ, _, xa, e2, (hw.set s (show (SV.cst (.bool true)).lt _ from trivial)).put _ trivial, map_sput .., hd⟩
  · have hh := hset (.cst (.bool false))
    rw [show dv ρ (.cst (.bool false)) = .val (.bool false) from rfl] at hh
    rw [hh]
    cases want with
    | true => exact ⟨ρ, _, xb, e3, (hw.set s (show (SV.cst (.bool false)).lt _ from trivial)).put _ trivial, map_sput .., hd⟩
    | false => exact okLoud_ok e3 (hw.set s trivial) hd
  · have hh := hset .unit
    rw [show dv ρ .unit = .tup [] from rfl] at hh
    rw [hh, ← h4]
    cases g with
    | true => exact ⟨ρ, _, xc, e4, (hw.set s (show SV.unit.lt _ from trivial)).put _ trivial, map_sput .., hd⟩
    | false =>
      simp only [] at e4
      split at e4
      · exact hd.elim
      · cases e4
  · exact hd.elim

theorem okOps_ok {K : List SV → Nat → Sx → Bool} {Kb : List AV → AH → Prop} {Kp : AV → List AV → AH → Prop} (hK : ∀ a σ, Goes P T R ks K a σ → Kb a σ) (hP : ∀ v a σ, apan v σ R → Kp v a σ) (rest : List Oper) :
    ∀ (i : Nat) (a : List AV) (σ : AH), Goes P T R ks (okOps T ops K rest) a σ → bops P T ops [] i rest a σ Kb Kp := by
  induction rest with
  | nil => intro i a σ h; exact hK a σ h
  | cons o rest ih =>
    rintro i a σ ⟨ρ, t, x, h, hw, rfl, hd⟩
    have hf : fgm [] i (t.map (dv ρ)) = t.map (dv ρ) := rfl
    simp only [bops, hf]
    simp only [okOps] at h
    have loud : ∀ (hl : silent o.op = false), okLoud T o t ρ.length x (okOps T ops K rest) = true → gdec ops o (t.map (dv ρ)) = some true →
        bgd ops o (t.map (dv ρ)) (fun t => bop P T o.op (aeval t) σ (onr (fun v σ' => bops P T ops [] (i + 1) rest (aput t o.dst v) σ' Kb Kp) (fun v σ' => Kp v t σ'))) (fun t => bops P T ops [] (i + 1) rest (aput t o.dst (.tup [])) σ Kb Kp) := by
      intro hl h hg
      exact bgd_iff.mpr (.inl ⟨hg, bop_mono hl (onr_mono (fun v σ' g => ih _ _ _ g) (fun v σ' g => hP _ _ _ g)) (okLoud_ok h hw hd)⟩)
    cases hs : silent o.op with
    | true =>
      cases hg : gst ops o t with
      | free =>
        rw [hs, hg] at h
        have hgd : o.guard = none := by
          unfold gst at hg
          cases hh : o.guard with
          | none => rfl
          | some gw =>
            obtain ⟨j, w⟩ := gw
            rw [hh] at hg
            simp only [] at hg
            repeat' split at hg
            all_goals cases hg
        simp only [hgd]
        exact bgd_iff.mpr (.inl ⟨gst_go (.inl hg), okSilB_ok h hw hd (fun a σ g => ih _ _ _ g)⟩)
      | go =>
        rw [hs, hg] at h
        have hv := okSilV_ok h hw hd
        split
        · rw [gvo_gdec, gst_go (.inr hg)]
          exact og_mono (fun _ h => h) (fun v g => ih _ _ _ g) hv
        · obtain ⟨v, h1, h2⟩ := og_some hv
          exact bgd_iff.mpr (.inl ⟨gst_go (.inr hg), bval_bop h1 (ih _ _ _ h2)⟩)
      | skip =>
        rw [hs, hg] at h
        have hgo : Goes P T R ks (okOps T ops K rest) (aput (t.map (dv ρ)) o.dst (.tup [])) σ := ⟨ρ, _, x, h, hw.put _ trivial, map_sput .., hd⟩
        split
        · rw [gvo_gdec, gst_skip hg]; exact ih _ _ _ hgo
        · exact bgd_iff.mpr (.inr ⟨gst_skip hg, ih _ _ _ hgo⟩)
      | ask b want g s =>
        rw [hs, hg] at h
        obtain ⟨j, h1, _⟩ := gst_ask hg
        simp only [h1]
        exact og_mono (fun _ h => h) (fun v g => ih _ _ _ g) (okAskV_ok hg h hw hd)
      | bad => rw [hs, hg] at h; cases h
    | false =>
      cases hg : gst ops o t with
      | free => rw [hs, hg] at h; exact loud hs h (gst_go (.inl hg))
      | go => rw [hs, hg] at h; exact loud hs h (gst_go (.inr hg))
      | skip =>
        rw [hs, hg] at h
        have hgo : Goes P T R ks (okOps T ops K rest) (aput (t.map (dv ρ)) o.dst (.tup [])) σ := ⟨ρ, _, x, h, hw.put _ trivial, map_sput .., hd⟩
        exact bgd_iff.mpr (.inr ⟨gst_skip hg, ih _ _ _ hgo⟩)
      | ask b want g s =>
        rw [hs, hg] at h
        have := okAsk_ok hs hg h hw hd
        rw [bgd_iff] at this ⊢
        rcases this with ⟨g1, g2⟩ | ⟨g1, g2⟩
        · exact .inl ⟨g1, bop_mono hs (onr_mono (fun v σ' g => ih _ _ _ g) (fun v σ' g => hP _ _ _ g)) g2⟩
        · exact .inr ⟨g1, ih _ _ _ g2⟩
      | bad => rw [hs, hg] at h; cases h
end
end Go.Proofs.Ytjfdgijgkbojnaa.E
