/- What is owned, lent to a call that only reads it. -/
import Derived.Test.YtmmhaiidcfgbbaaGreatDoorMF
set_option linter.unusedSectionVars false
set_option linter.unusedSimpArgs false
set_option linter.unusedVariables false
namespace Go.Proofs.YtmmhaiidcfgbbaaGreatDoor.E
open Go Go.RowKit
variable [L : Lam]
/-- Values that tell nothing of memory that nobody writes. -/
inductive Nom : AV → Prop
  | val (v : Value) : Nom (.val v)
  | own (φ st off n : Nat) : Nom (.own φ st off n)
  | ptr (φ st i off : Nat) : Nom (.ptr φ st i off)
  | emp : Nom .emp
  | agg {cs : List AV} (h : ∀ i, i < cs.length → Nom (cs.getD i .any)) : Nom (.agg cs)
  | tup {cs : List AV} (h : ∀ i, i < cs.length → Nom (cs.getD i .any)) : Nom (.tup cs)
theorem Nom.vr {κ κ' : Kap} (hρ : κ'.ρ = κ.ρ) {a : AV} (hn : Nom a) : ∀ {v : Value}, VR κ a v → VR κ' a v := by
  induction hn with
  | val u => intro v h; cases h; exact .val _
  | own φ st off n =>
    intro v h
    cases h with
    | own h1 h2 h3 => exact .own (by rw [hρ]; exact h1) h2 h3
    | ownEnd h1 h2 => exact .ownEnd (by rw [hρ]; exact h1) h2
  | ptr φ st i off =>
    intro v h
    cases h with
    | ptr h1 h2 => exact .ptr (by rw [hρ]; exact h1) h2
  | emp => intro v h; cases h; exact .emp _
  | agg h ih =>
    intro v k
    cases k with
    | agg hl h2 => exact .agg hl fun i hi => ih i hi (h2 i hi)
  | tup h ih =>
    intro v k
    cases k with
    | tup hl h2 => exact .tup hl fun i hi => ih i hi (h2 i hi)
def NomH (σ : AH) : Prop := ∀ φ F, σ φ = some F → ∀ i j, i < F.es.length → j < F.sz → Nom ((F.es.getD i []).getD j .any)
def NomE : AEnd → Prop
  | .ret a => Nom a
  | .pan a => Nom a
/-- What was lent is back. -/
def thaw (σ0 σ σ1 : AH) : AH := fun φ => match σ φ, σ0 φ with
  | some F, none => some F
  | _, _ => σ1 φ
theorem thaw_lent {σ0 σ σ1 : AH} {φ : Nat} {F : Fam} (h : σ φ = some F) (h0 : σ0 φ = none) : thaw σ0 σ σ1 φ = some F := by simp [thaw, h, h0]
theorem thaw_other {σ0 σ σ1 : AH} {φ : Nat} (h : σ φ = none ∨ σ0 φ ≠ none) : thaw σ0 σ σ1 φ = σ1 φ := by
  unfold thaw
  rcases h with h | h
  · rw [h]
  · cases e : σ φ with
    | none => rfl
    | some F =>
      cases e0 : σ0 φ with
      | none => exact absurd e0 h
      | some G => rfl
theorem thaw_cases {σ0 σ σ1 : AH} {φ : Nat} {F : Fam} (h : thaw σ0 σ σ1 φ = some F) : (σ φ = some F ∧ σ0 φ = none) ∨ ((σ φ = none ∨ σ0 φ ≠ none) ∧ σ1 φ = some F) := by
  cases e : σ φ with
  | none => right; rw [thaw_other (.inl e)] at h; exact ⟨.inl rfl, h⟩
  | some G =>
    cases e0 : σ0 φ with
    | none => left; rw [thaw_lent e e0] at h; exact ⟨h, rfl⟩
    | some K => right; rw [thaw_other (.inr (by rw [e0]; simp))] at h; exact ⟨.inr (by simp), h⟩
open Classical in
/-- Lent memory told of no more. -/
noncomputable def kapT (σ0 σ : AH) (κ κ1 : Kap) : Kap :=
  { κ1 with M := fun b o => if ∃ φ F r, σ φ = some F ∧ σ0 φ = none ∧ κ.ρ φ F.st = some r ∧ r.b = b then none else κ1.M b o }
open Classical in
theorem acall_lend {P : Program} {f : FuncId} {args args' : List AV} {σ0 σ : AH} {Q : AEnd → AH → Prop} (hs : AH.Sub σ0 σ) (hl : args.length = args'.length) (hf : ∀ i, i < args.length → Fz σ0 σ (args.getD i .any) (args'.getD i .any))
    (h : acall P f args' σ0 fun e σ1 => NomE e ∧ NomH σ1 ∧ Q e σ1) :
    acall P f args σ fun e σ' => ∃ σ1, Q e σ1 ∧ σ' = thaw σ0 σ σ1 ∧ ∀ φ F, σ φ = some F → σ0 φ = none → σ1 φ = none := by
  obtain ⟨fn, h1, h2, h3, h4⟩ := h
  refine ⟨fn, h1, h2, h3, fun κ w vs hr hv => ?_⟩
  obtain ⟨hS, hV⟩ := imp_freeze' hs hr
  have hv' : VRs (kapF σ0 σ κ w) args' vs := ⟨hl ▸ hv.1, fun i hi => hV _ _ _ (hf i (hl ▸ hi)) (hv.2 i (hl ▸ hi))⟩
  refine (h4 _ w vs hS.rel hv').mono ?_
  rintro e w' ⟨κ1, ae, σ1, ⟨hne, hnh, hq⟩, hT, hE⟩
  have hρF : (kapF σ0 σ κ w).ρ = κ.ρ := rfl
  -- the blocks that were lent
  have lent : ∀ b, (∃ φ F r, σ φ = some F ∧ σ0 φ = none ∧ κ.ρ φ F.st = some r ∧ r.b = b) → b < w.heap.size ∧ w'.heap[b]? = w.heap[b]? ∧ (∀ φ F r, σ1 φ = some F → κ1.ρ φ F.st = some r → r.b ≠ b) := by
    rintro b ⟨φ, F, r, hF, h0, hρ, rfl⟩
    have hb := hr.block_lt hF hρ
    refine ⟨hb, ?_⟩
    have key := hT.fra.blk r.b hb (fun ψ G s hG hs' => ?_)
    · exact ⟨key.1, key.2.2⟩
    · have hψ : ψ ≠ φ := by rintro rfl; rw [h0] at hG; cases hG
      exact hr.inj ψ φ G F s r (hs ψ G hG) hF hs' hρ hψ
  have ids : ∀ φ F, σ φ = some F → σ0 φ = none → σ1 φ = none ∧ ∀ st, κ1.ρ φ st = κ.ρ φ st := by
    intro φ F hF h0
    obtain ⟨r, hρ, _, _⟩ := hr.has φ F hF
    exact hT.fra.ids φ h0 ⟨_, r, hρ⟩
  have hρ1 : ∀ φ st r, κ.ρ φ st = some r → κ1.ρ φ st = some r := fun φ st r h => hT.ext.ρ φ st r h
  have hM1 : ∀ b o v, κ.M b o = some v → ¬ (∃ φ F r, σ φ = some F ∧ σ0 φ = none ∧ κ.ρ φ F.st = some r ∧ r.b = b) := by
    rintro b o v hm ⟨φ, F, r, hF, h0, hρ, rfl⟩
    rw [hr.off φ F r hF hρ o] at hm; cases hm
  have hext : Ext κ (kapT σ0 σ κ κ1) := by
    refine ⟨hρ1, fun b o v hm => ?_, hT.ext.B, hT.ext.W⟩
    have hn := hM1 b o v hm
    show (if _ then none else κ1.M b o) = some v
    rw [if_neg hn]
    refine hT.ext.M b o v ?_
    show (if _ then _ else κ.M b o) = some v
    rw [if_neg hn]; exact hm
  have hB : (kapT σ0 σ κ κ1).B = κ.B := hT.ext.B
  refine ⟨kapT σ0 σ κ κ1, ae, thaw σ0 σ σ1, ⟨σ1, hq, rfl, fun φ F hF h0 => (ids φ F hF h0).1⟩, ⟨hext, ?_, ?_⟩, ?_⟩
  · refine ⟨?_, ?_, ?_, ?_, ?_, ?_, ?_, ?_, hT.rel.obj, Lam.kpm _ _ hext hr.kp⟩
    · intro φ F hF
      rcases thaw_cases hF with ⟨hF, h0⟩ | ⟨_, hF⟩
      · obtain ⟨r, hρ, hb, hH⟩ := hr.has φ F hF
        exact ⟨r, hρ1 _ _ _ hρ, by rw [hB]; exact hb, hH.same hext (lent r.b ⟨φ, F, r, hF, h0, hρ, rfl⟩).2.1⟩
      · obtain ⟨r, hρ, hb, hH⟩ := hT.rel.has φ F hF
        refine ⟨r, hρ, hb, ⟨hH.sz, hH.len, hH.row, hH.free, hH.esz, fun i j hlo hi hj => ?_⟩⟩
        obtain ⟨v, hc, hv⟩ := hH.cell i j hlo hi hj
        exact ⟨v, hc, (hnh φ F hF i j hi hj).vr (κ := κ1) (κ' := kapT σ0 σ κ κ1) rfl hv⟩
    · intro φ ψ F G r s hF hG hr1 hs1 hne
      rcases thaw_cases hF with ⟨hF, h0⟩ | ⟨_, hF⟩
      · have hρF' : κ.ρ φ F.st = some r := by rw [← (ids φ F hF h0).2]; exact hr1
        rcases thaw_cases hG with ⟨hG, h0'⟩ | ⟨_, hG⟩
        · have hρG' : κ.ρ ψ G.st = some s := by rw [← (ids ψ G hG h0').2]; exact hs1
          exact hr.inj φ ψ F G r s hF hG hρF' hρG' hne
        · exact Ne.symm ((lent r.b ⟨φ, F, r, hF, h0, hρF', rfl⟩).2.2 ψ G s hG hs1)
      · rcases thaw_cases hG with ⟨hG, h0'⟩ | ⟨_, hG⟩
        · have hρG' : κ.ρ ψ G.st = some s := by rw [← (ids ψ G hG h0').2]; exact hs1
          exact (lent s.b ⟨ψ, G, s, hG, h0', hρG', rfl⟩).2.2 φ F r hF hr1
        · exact hT.rel.inj φ ψ F G r s hF hG hr1 hs1 hne
    · intro b o v hm
      have hm' : (if ∃ φ F r, σ φ = some F ∧ σ0 φ = none ∧ κ.ρ φ F.st = some r ∧ r.b = b then none else κ1.M b o) = some v := hm
      split at hm'
      · cases hm'
      · exact hT.rel.mem b o v hm'
    · intro φ F r hF hρ o
      show (if _ then none else κ1.M r.b o) = none
      split
      · rfl
      · rename_i hn
        rcases thaw_cases hF with ⟨hF, h0⟩ | ⟨_, hF⟩
        · exact absurd ⟨φ, F, r, hF, h0, by rw [← (ids φ F hF h0).2]; exact hρ, rfl⟩ hn
        · exact hT.rel.off φ F r hF hρ o
    · intro φ F st hF hst
      rcases thaw_cases hF with ⟨hF, h0⟩ | ⟨_, hF⟩
      · show κ1.ρ φ st = none
        rw [(ids φ F hF h0).2]
        exact hr.up φ F st hF hst
      · exact hT.rel.up φ F st hF hst
    · obtain ⟨n1, k1⟩ := hr.fin
      obtain ⟨n2, k2⟩ := hT.rel.fin
      refine ⟨max n1 n2, fun φ hφ => ?_⟩
      obtain ⟨a1, a2⟩ := k1 φ (by omega)
      obtain ⟨b1, b2⟩ := k2 φ (by omega)
      exact ⟨by rw [thaw_other (.inl a1)]; exact b1, b2⟩
    · exact hT.rel.bel
    · exact hT.rel.bw
  · refine ⟨hT.fra.size, fun b hb hu => ?_, fun φ hn hex => ?_⟩
    · have hnl : ¬ (∃ φ F r, σ φ = some F ∧ σ0 φ = none ∧ κ.ρ φ F.st = some r ∧ r.b = b) := by
        rintro ⟨φ, F, r, hF, _, hρ, e⟩
        exact hu φ F r hF hρ e
      obtain ⟨c1, c2, c3⟩ := hT.fra.blk b hb (fun φ F r hF hρ => hu φ F r (hs φ F hF) hρ)
      refine ⟨c1, fun o => ?_, fun φ F r hF hρ => ?_⟩
      · show (if _ then none else κ1.M b o) = κ.M b o
        rw [if_neg hnl, c2 o]
        show (if _ then _ else κ.M b o) = κ.M b o
        rw [if_neg hnl]
      · rcases thaw_cases hF with ⟨hF, h0⟩ | ⟨_, hF⟩
        · exact hu φ F r hF (by rw [← (ids φ F hF h0).2]; exact hρ)
        · exact c3 φ F r hF hρ
    · have hn0 : σ0 φ = none := hs.none hn
      obtain ⟨c1, c2⟩ := hT.fra.ids φ hn0 hex
      exact ⟨by rw [thaw_other (.inl hn)]; exact c1, c2⟩
  · cases ae with
    | ret a =>
      cases e with
      | returned v => exact (show Nom a from hne).vr (κ := κ1) (κ' := kapT σ0 σ κ κ1) rfl hE
      | _ => exact hE.elim
    | pan a =>
      cases e with
      | panicked ch =>
        obtain ⟨v, e1, e2⟩ := hE
        exact ⟨v, e1, (show Nom a from hne).vr (κ := κ1) (κ' := kapT σ0 σ κ κ1) rfl e2⟩
      | _ => exact hE.elim
end Go.Proofs.YtmmhaiidcfgbbaaGreatDoor.E
