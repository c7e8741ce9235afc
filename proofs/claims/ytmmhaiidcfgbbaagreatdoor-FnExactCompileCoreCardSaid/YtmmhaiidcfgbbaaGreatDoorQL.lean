/- Code that is lent, and handed back. -/
import Derived.Test.YtmmhaiidcfgbbaaGreatDoorO6
set_option linter.unusedSectionVars false
set_option linter.unusedSimpArgs false
set_option linter.unusedVariables false
namespace Go.Proofs.YtmmhaiidcfgbbaaGreatDoor.E
open Go Go.RowKit
set_option maxRecDepth 100000
variable [L : Lam]
variable {σ τ τ' : AH} {R : AEnd → AH → Prop}
/-! ### what is left of a heap -/
open Classical in
noncomputable def only (τ : AH) (F : List Nat) : AH := fun φ => if φ ∈ F then τ φ else none
theorem only_in {F : List Nat} {φ : Nat} (h : φ ∈ F) : only τ F φ = τ φ := by unfold only; rw [if_pos h]
theorem only_sub (F : List Nat) : AH.Sub (only τ F) τ := fun φ G h => by
  unfold only at h
  split at h
  · exact h
  · cases h
theorem Buf.nom {sz : Nat} {a : AV} {es : List (List AV)} (h : Buf τ sz a es) : Nom a := by
  rcases h with ⟨rfl | rfl, _⟩ | ⟨φ, st, rfl, _⟩
  · exact .val _
  · exact .emp
  · exact .own ..
theorem row_nom {sz : Nat} {a : AV} {es : List (List AV)} {φ : Nat} {F : Fam} (h : Buf τ sz a es) (hφ : φ ∈ famL a) (hF : τ φ = some F) (hn : ∀ c, c ∈ es → ∀ j, j < sz → Nom (c.getD j .any)) : ∀ i j, i < F.es.length → j < F.sz → Nom ((F.es.getD i []).getD j .any) := by
  rcases h with ⟨rfl | rfl, _⟩ | ⟨ψ, st, rfl, hG⟩
  · cases hφ
  · cases hφ
  · obtain rfl : φ = ψ := by simpa [famL] using hφ
    rw [hG] at hF
    cases hF
    intro i j hi hj
    have e : es.getD i [] = es[i] := by simp [List.getD, hi]
    simp only
    rw [e]
    exact hn _ (List.getElem_mem hi) j hj
theorem nom_blks {v : AV} {B : List BI} (h : BlksH τ v B) : NomH (only τ (blksF v B)) := by
  intro φ F hF
  have hm : φ ∈ blksF v B := by
    refine Classical.byContradiction fun c => ?_
    unfold only at hF
    rw [if_neg c] at hF; cases hF
  rw [only_in hm] at hF
  rcases List.mem_append.1 hm with c | c
  · refine row_nom h.1 c hF fun r hr j hj => ?_
    obtain ⟨b, hb, rfl⟩ := List.mem_map.1 hr
    match j, hj with
    | 0, _ => exact .val _
    | 1, _ => exact (h.2 b hb).1.nom
  · obtain ⟨b, hb, c⟩ := List.mem_flatMap.1 c
    rcases List.mem_append.1 c with c | c
    · refine row_nom (h.2 b hb).1 c hF fun r hr j hj => ?_
      obtain ⟨p, hp, rfl⟩ := List.mem_map.1 hr
      match j, hj with
      | 0, _ => exact .val _
      | 1, _ => exact .val _
      | 2, _ => exact .val _
      | 3, _ => exact .val _
      | 4, _ => exact .val _
      | 5, _ => exact .val _
      | 6, _ => exact ((h.2 b hb).2 p hp).nom
    · obtain ⟨p, hp, c⟩ := List.mem_flatMap.1 c
      refine row_nom ((h.2 b hb).2 p hp) c hF fun r hr j hj => ?_
      obtain ⟨d, hd, rfl⟩ := List.mem_map.1 hr
      match j, hj with
      | 0, _ => exact .val _
      | 1, _ => exact .val _
      | 2, _ => exact .val _
      | 3, _ => exact .val _
theorem nom2 {c : Int} {l : AV} (h : Nom l) : Nom (.agg [iv c, l]) := by
  refine .agg fun i hi => ?_
  match i, hi with
  | 0, _ => exact .val _
  | 1, _ => exact h
/-- A function that hands back code of its own, called with code that is lent. -/
theorem lend_code {f : FuncId} {args args' : List AV} {C : Int} {bs' : List Blk} {K : AEnd → AH → Prop} (hl : args.length = args'.length) (hf : ∀ i, i < args.length → Fz ah0 τ (args.getD i .any) (args'.getD i .any))
    (hc : ∀ R : AEnd → AH → Prop, (∀ v B τ, cont B = bs' → NewB ah0 τ v B → R (.ret (.agg [iv C, v])) τ) → acall TP f args' ah0 R)
    (hK : ∀ v B τ', cont B = bs' → NewB τ τ' v B → K (.ret (.agg [iv C, v])) τ') : acall TP f args τ K := by
  refine (acall_lend (σ0 := ah0) (args := args) (args' := args') (Q := fun e σ1 => ∃ v B, cont B = bs' ∧ NewB ah0 σ1 v B ∧ e = .ret (.agg [iv C, v])) (sub_none τ) hl hf ?_).mono ?_
  · refine acall_imp (hc (fun e σ1 => ∃ v B, cont B = bs' ∧ NewB ah0 σ1 v B ∧ e = .ret (.agg [iv C, v])) fun v B τ h1 h2 => ⟨v, B, h1, h2, rfl⟩) ?_
    rintro e σ1 ⟨v, B, h1, h2, rfl⟩
    refine ⟨_, rfl, _, only σ1 (blksF v B), .sub (only_sub _), nom2 h2.own.1.nom, nom_blks h2.own, v, B, h1, ⟨h2.own.keep fun ψ hψ => only_in hψ, h2.nd, h2.fr, sub_none _⟩, rfl⟩
  · rintro e σ' ⟨σ1, ⟨v, B, h1, h2, rfl⟩, rfl, hd⟩
    have hn : ∀ ψ, ψ ∈ blksF v B → τ ψ = none := fun ψ hψ => by
      obtain ⟨F, e⟩ := h2.own.live hψ
      cases e2 : τ ψ with
      | none => rfl
      | some G => rw [hd ψ G e2 rfl] at e; cases e
    refine hK v B _ h1 ⟨h2.own.keep fun ψ hψ => thaw_other (.inl (hn ψ hψ)), h2.nd, hn, fun ψ F hF => thaw_lent hF rfl⟩
/-! ### how much there is -/
theorem opsK_ub {N : Nat} : ∀ (os : List OpD) (k : Int), (∀ o, o ∈ os → o.data.length ≤ N) → opsK k os ≤ k + (os.length : Int) * (6 + 4 * (N : Int)) := by
  intro os
  induction os with
  | nil => intro k _; simp [opsK]
  | cons o r ih =>
    intro k h
    have h1 := ih (k + 1 + 1 + 1 + 1 + 1 + 1 + 4 * (o.data.length : Int)) fun o ho => h o (List.mem_cons_of_mem _ ho)
    have h2 := h o (List.mem_cons_self ..)
    simp only [opsK, List.length_cons]
    have e : ((r.length + 1 : Nat) : Int) * (6 + 4 * (N : Int)) = (r.length : Int) * (6 + 4 * (N : Int)) + (6 + 4 * (N : Int)) := by
      rw [Int.natCast_add, Int.add_mul]; simp
    rw [e]
    omega
theorem blksK_ub : ∀ (bs : List Blk) (k : Int), (∀ b, b ∈ bs → bO 1048576 b.ops) → blksK k bs ≤ k + (bs.length : Int) * 4398052802561 := by
  intro bs
  induction bs with
  | nil => intro k _; simp [blksK]
  | cons b r ih =>
    intro k h
    have h1 := ih (opsK (k + 1) b.ops) fun o ho => h o (List.mem_cons_of_mem _ ho)
    obtain ⟨h2, h3⟩ := h b (List.mem_cons_self ..)
    have h4 := opsK_ub (N := 1048576) b.ops (k + 1) fun o ho => (h3 o ho).2.1
    simp only [blksK, List.length_cons]
    omega
theorem blksK_bC {bs : List Blk} (h : bC 1048576 bs) : blksK 1 bs ≤ 9000000000000000000 := by
  have := blksK_ub bs 1 h.2
  have := h.1
  omega
end Go.Proofs.YtmmhaiidcfgbbaaGreatDoor.E
