/- Code that is owned: copies of arguments; what is lent. -/
import Derived.Test.YtmmhaiidcfgbbaaGreatDoorO3
set_option linter.unusedSectionVars false
set_option linter.unusedSimpArgs false
set_option linter.unusedVariables false
namespace Go.Proofs.YtmmhaiidcfgbbaaGreatDoor.E
open Go Go.RowKit
set_option maxRecDepth 100000
variable [L : Lam]
variable {σ τ τ' : AH} {R : AEnd → AH → Prop}
structure NewO (σ τ : AH) (v : AV) (its : Its) : Prop where
  own : OpsH τ v its
  nd : (opsF' v its).Nodup
  fr : ∀ ψ, ψ ∈ opsF' v its → σ ψ = none
  sub : AH.Sub σ τ
structure NewB (σ τ : AH) (v : AV) (bs : List BI) : Prop where
  own : BlksH τ v bs
  nd : (blksF v bs).Nodup
  fr : ∀ ψ, ψ ∈ blksF v bs → σ ψ = none
  sub : AH.Sub σ τ
theorem not_live {φ : Nat} {F : List Nat} (h : τ φ = none) (hl : ∀ ψ, ψ ∈ F → ∃ G, τ ψ = some G) : φ ∉ F := fun c => by obtain ⟨G, e⟩ := hl _ c; rw [h] at e; cases e
theorem NewO.one {v : AV} {its : Its} (h : NewO σ τ v its) : v.one = true := by
  rcases h.own.1 with ⟨rfl | rfl, _⟩ | ⟨φ, st, rfl, _⟩ <;> rfl
theorem BisH.keep {bs : List BI} (h : BisH τ bs) (k : ∀ ψ, ψ ∈ bsF bs → τ' ψ = τ ψ) : BisH τ' bs := fun b hb => (h b hb).keep fun ψ hψ => k ψ (List.mem_flatMap.2 ⟨b, hb, hψ⟩)
theorem BisH.live {bs : List BI} (h : BisH τ bs) {ψ : Nat} (hm : ψ ∈ bsF bs) : ∃ F, τ ψ = some F := by
  obtain ⟨b, hb, hψ⟩ := List.mem_flatMap.1 hm
  exact (h b hb).live hψ
theorem NewB.one {v : AV} {bs : List BI} (h : NewB σ τ v bs) : v.one = true := by
  rcases h.own.1 with ⟨rfl | rfl, _⟩ | ⟨φ, st, rfl, _⟩ <;> rfl
/-! ### lent -/
theorem nomH_none : NomH ah0 := fun φ F h => by cases h
theorem thaw_none (σ : AH) : thaw ah0 σ ah0 = σ := by
  funext φ
  unfold thaw
  cases e : σ φ <;> simp [ah0]
theorem sub_none (τ : AH) : AH.Sub ah0 τ := fun φ F h => by cases h
/-- A call that only reads. -/
theorem lend_val {f : FuncId} {args args' : List AV} {v : AV} {K : AEnd → AH → Prop} (hv : Nom v) (hl : args.length = args'.length) (hf : ∀ i, i < args.length → Fz ah0 τ (args.getD i .any) (args'.getD i .any))
    (h : ∀ R : AEnd → AH → Prop, R (.ret v) ah0 → acall TP f args' ah0 R) (hK : K (.ret v) τ) : acall TP f args τ K := by
  refine (acall_lend (σ0 := ah0) (args := args) (args' := args') (Q := fun e σ1 => e = .ret v ∧ σ1 = ah0) (sub_none τ) hl hf (h _ ⟨hv, nomH_none, rfl, rfl⟩)).mono ?_
  rintro e σ' ⟨σ1, ⟨rfl, rfl⟩, rfl, _⟩
  rw [thaw_none]
  exact hK
theorem fz0_blks {v : AV} {bs : List BI} (h : BlksH τ v bs) : Fz ah0 τ v (roBk (cont bs)) := fz_blks h fun _ _ => rfl
theorem lend_eqCodeResult {c : Int} {v : AV} {B : List BI} {K : AEnd → AH → Prop} (h : BlksH τ v B) (hb : bC 1048576 (cont B)) (hK : K (.ret (bv true)) τ) : acall TP fn_laws_eqCodeResult [.agg [iv c, v], .agg [iv c, roBk (cont B)]] τ K := by
  refine lend_val (args' := [.agg [iv c, roBk (cont B)], .agg [iv c, roBk (cont B)]]) (.val _) rfl (fun i hi => ?_) (fun R hR => c_laws_eqCodeResult hb hR) hK
  match i, hi with
  | 0, _ => exact Fz.agg2 (.same _) (fz0_blks h)
  | 1, _ => exact .same _
theorem lend_eqBlockS {v : AV} {B : List BI} {K : AEnd → AH → Prop} (h : BlksH τ v B) (hb : bC 1048576 (cont B)) (hK : K (.ret (bv true)) τ) : acall TP fn_laws_eqBlockS [v, roBk (cont B)] τ K := by
  refine lend_val (args' := [roBk (cont B), roBk (cont B)]) (.val _) rfl (fun i hi => ?_) (fun R hR => c_laws_eqBlockS hb hR) hK
  match i, hi with
  | 0, _ => exact fz0_blks h
  | 1, _ => exact .same _
theorem lend_held {c k : Int} {v : AV} {B : List BI} {bs : List Blk} {K : AEnd → AH → Prop} (h : BlksH τ v B) (hB : cont B = mkBksD k bs) (h0 : 0 ≤ k) (h1 : blksK k bs ≤ 9000000000000000000) (hK : K (.ret (iv (blksK k bs))) τ) : acall TP fn_laws_heldCodeResult [.agg [iv c, v], iv k] τ K := by
  refine lend_val (args' := [.agg [iv c, roBk (mkBksD k bs)], iv k]) (.val _) rfl (fun i hi => ?_) (fun R hR => c_laws_heldCodeResult h0 h1 hR) hK
  match i, hi with
  | 0, _ => exact Fz.agg2 (.same _) (hB ▸ fz0_blks h)
  | 1, _ => exact .same _
end Go.Proofs.YtmmhaiidcfgbbaaGreatDoor.E
