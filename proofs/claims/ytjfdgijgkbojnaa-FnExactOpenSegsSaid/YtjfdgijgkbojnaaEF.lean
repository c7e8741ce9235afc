/- The engine, part 15b: what nobody writes any more. -/
import Derived.Test.YtjfdgijgkbojnaaE15
set_option linter.unusedSectionVars false
namespace Go.Proofs.Ytjfdgijgkbojnaa.E
open Go Go.RowKit
variable [Lam]
/-! ### what nobody writes any more -/
theorem acall_imp {P : Program} {f : FuncId} {args : List AV} {σ : AH} {Q Q' : AEnd → AH → Prop} (h : acall P f args σ Q)
    (k : ∀ e σ', Q e σ' → ∃ v, e = .ret v ∧ ∃ v' σ'', Imp v σ' v' σ'' ∧ Q' (.ret v') σ'') : acall P f args σ Q' := by
  obtain ⟨fn, h1, h2, h3, h4⟩ := h
  refine ⟨fn, h1, h2, h3, fun κ w vs hr hv => (h4 κ w vs hr hv).mono fun e w' ⟨κ', ae, σ', a, b, c⟩ => ?_⟩
  obtain ⟨v, rfl, v', σ'', hi, hq⟩ := k _ _ a
  cases e with
  | returned u =>
    obtain ⟨κ2, s2, r2⟩ := hi κ' w' u b.rel c
    exact ⟨κ2, .ret v', σ'', hq, b.trans s2, r2⟩
  | _ => exact c.elim
/-- What a value comes to when the families that σ has beyond σ0 are written no more. -/
inductive Fz (σ0 σ : AH) : AV → AV → Prop
  | same (a : AV) : Fz σ0 σ a a
  | agg {cs ds : List AV} (hl : cs.length = ds.length) (h : ∀ i, i < cs.length → Fz σ0 σ (cs.getD i .any) (ds.getD i .any)) : Fz σ0 σ (.agg cs) (.agg ds)
  | tup {cs ds : List AV} (hl : cs.length = ds.length) (h : ∀ i, i < cs.length → Fz σ0 σ (cs.getD i .any) (ds.getD i .any)) : Fz σ0 σ (.tup cs) (.tup ds)
  | own {φ st off n : Nat} {F : Fam} {fs : List (List AV)} (hF : σ φ = some F) (h0 : σ0 φ = none) (hst : F.st = st) (hl : off + n ≤ F.es.length) (hn : fs.length = n)
      (hz : ∀ i, i < n → (fs.getD i []).length = F.sz) (h : ∀ i j, i < n → j < F.sz → Fz σ0 σ ((F.es.getD (off + i) []).getD j .any) ((fs.getD i []).getD j .any)) : Fz σ0 σ (.own φ st off n) (.ro fs)
  | ro {es fs : List (List AV)} (hn : es.length = fs.length) (hz : ∀ i, i < es.length → (es.getD i []).length = (fs.getD i []).length)
      (h : ∀ i j, i < es.length → j < (es.getD i []).length → Fz σ0 σ ((es.getD i []).getD j .any) ((fs.getD i []).getD j .any)) : Fz σ0 σ (.ro es) (.ro fs)
  | emp : Fz σ0 σ .emp (.ro [])
  | nil : Fz σ0 σ (.val (.slice none 0 0)) (.ro [])
open Classical in
noncomputable def kapF (σ0 σ : AH) (κ : Kap) (w : World) : Kap :=
  { κ with M := fun b o => if ∃ φ F r, σ φ = some F ∧ σ0 φ = none ∧ κ.ρ φ F.st = some r ∧ r.b = b then w.cell? ⟨b, o, none⟩ else κ.M b o }
open Classical in
theorem imp_freeze {σ0 σ : AH} {a a' : AV} (hs : AH.Sub σ0 σ) (hf : Fz σ0 σ a a') : Imp a σ a' σ0 := by
  intro κ w u hr hv
  have hin : ∀ {φ F r}, σ φ = some F → σ0 φ = none → κ.ρ φ F.st = some r → ∀ o, (kapF σ0 σ κ w).M r.b o = w.cell? ⟨r.b, o, none⟩ := by
    intro φ F r h1 h2 h3 o
    show (if _ then _ else _) = _
    rw [if_pos ⟨φ, F, r, h1, h2, h3, rfl⟩]
  have hE : Ext κ (kapF σ0 σ κ w) := by
    refine ⟨fun _ _ _ h => h, fun b o v hm => ?_, rfl, rfl⟩
    show (if _ then _ else _) = _
    split
    · rename_i hc
      obtain ⟨φ, F, r, h1, _, h3, rfl⟩ := hc
      rw [hr.off φ F r h1 h3 o] at hm; cases hm
    · exact hm
  have hout : ∀ φ F r, σ0 φ = some F → κ.ρ φ F.st = some r → ∀ o, (kapF σ0 σ κ w).M r.b o = κ.M r.b o := by
    intro φ F r h1 h2 o
    show (if _ then _ else _) = _
    rw [if_neg]
    rintro ⟨ψ, G, s, g1, g2, g3, e⟩
    have hne : ψ ≠ φ := by rintro rfl; rw [h1] at g2; cases g2
    exact hr.inj ψ φ G F s r g1 (hs φ F h1) g3 h2 hne e
  refine ⟨kapF σ0 σ κ w, ⟨hE, ?_, ?_⟩, ?_⟩
  · have h0 := hr.sub hs
    refine ⟨?_, h0.inj, ?_, ?_, h0.up, h0.fin, h0.bel, h0.bw, h0.obj, Lam.kpm _ _ hE h0.kp⟩
    · intro φ F hF
      obtain ⟨r, h1, h2, h3⟩ := h0.has φ F hF
      exact ⟨r, h1, h2, h3.same hE rfl⟩
    · intro b o v hm
      have hm : (if _ then _ else _) = _ := hm
      split at hm
      · exact hm
      · exact hr.mem b o v hm
    · intro φ F r hF h1 o
      rw [hout φ F r hF h1 o]; exact h0.off φ F r hF h1 o
  · refine ⟨Nat.le_refl _, fun b hb hu => ⟨rfl, fun o => ?_, fun φ F r hF => hu φ F r (hs φ F hF)⟩, fun φ hn _ => ⟨hs.none hn, fun _ => rfl⟩⟩
    show (if _ then _ else _) = _
    rw [if_neg]
    rintro ⟨φ, F, r, h1, _, h3, e⟩
    exact hu φ F r h1 h3 e
  · clear hout
    induction hf generalizing u with
    | same a => exact hv.mono hE
    | agg hl h ih =>
      cases hv with
      | agg hl2 h2 => exact .agg (hl ▸ hl2) fun i hi => ih i (hl ▸ hi) _ (h2 i (hl ▸ hi))
    | tup hl h ih =>
      cases hv with
      | tup hl2 h2 => exact .tup (hl ▸ hl2) fun i hi => ih i (hl ▸ hi) _ (h2 i (hl ▸ hi))
    | @own φ st off n F fs hF h0 hst hl hn hz h ih =>
      subst hst
      cases hv with
      | @own _ _ _ _ r hρ hlo hn2 =>
        obtain ⟨r', e1, _, H⟩ := hr.has φ F hF
        rw [hρ] at e1; obtain rfl := Option.some.inj e1
        have cell : ∀ i j, ∃ v, i < n → j < F.sz → w.cell? ⟨r.b, r.base + (off + i - r.lo) * r.sz + j, none⟩ = some v ∧ VR κ ((F.es.getD (off + i) []).getD j .any) v := by
          intro i j
          by_cases c : i < n ∧ j < F.sz
          · obtain ⟨v, h1, h2⟩ := H.cell (off + i) j (by omega) (by omega) c.2
            exact ⟨v, fun _ _ => ⟨h1, h2⟩⟩
          · exact ⟨undef, fun h1 h2 => absurd ⟨h1, h2⟩ c⟩
        obtain ⟨vals, hvals⟩ := Classical.axiomOfChoice fun i => Classical.axiomOfChoice (cell i)
        have key : VR (kapF σ0 σ κ w) (.ro fs) (.slice (some ⟨r.b, r.base + (off - r.lo) * r.sz, none⟩) fs.length (r.lo + r.cap - off)) := by
          refine VR.ro (sz := F.sz) (vals := vals) (by omega) (fun i hi => hz i (by omega)) ?_ (fun i j hi hj => ih i j (by omega) hj _ (hvals i j (by omega) hj).2)
          intro i j hi hj
          rw [hin hF h0 hρ]
          have := (hvals i j (by omega) hj).1
          rw [← this]; congr 2
          rw [show off + i - r.lo = (off - r.lo) + i by omega, Nat.add_mul, H.sz]; omega
        rw [hn] at key; exact key
      | ownEnd hρ hoff =>
        obtain rfl := List.eq_nil_of_length_eq_zero hn
        exact .roEnd _
    | @ro es fs hn hz h ih =>
      cases hv with
      | roEnd a =>
        obtain rfl := List.eq_nil_of_length_eq_zero hn.symm
        exact .roEnd _
      | @ro _ b off cap sz vals hc hz2 hm hv =>
        have key : VR (kapF σ0 σ κ w) (.ro fs) (.slice (some ⟨b, off, none⟩) fs.length cap) := by
          refine VR.ro (sz := sz) (vals := vals) (by omega) (fun i hi => ?_) (fun i j hi hj => hE.M _ _ _ (hm i j (by omega) hj)) (fun i j hi hj => ?_)
          · rw [← hz i (by omega), hz2 i (by omega)]
          · exact ih i j (by omega) (by rw [hz2 i (by omega)]; exact hj) _ (hv i j (by omega) hj)
        rw [← hn] at key; exact key
    | emp => cases hv; exact .roEnd _
    | nil => cases hv; exact .roEnd _
theorem aret_freeze {σ0 σ : AH} {a a' : AV} {R : AEnd → AH → Prop} (hs : AH.Sub σ0 σ) (hf : Fz σ0 σ a a') (h : R (.ret a') σ0) : aret a σ R := ⟨a', σ0, imp_freeze hs hf, h⟩
end Go.Proofs.Ytjfdgijgkbojnaa.E
