/- The law of CompileCore. -/
import Derived.Test.YtmmhaiidcfgbbaaGreatDoorV13
import Derived.Test.YtmmhaiidcfgbbaaGreatDoorV15
import Derived.Test.YtmmhaiidcfgbbaaGreatDoorQL
set_option linter.unusedSectionVars false
set_option linter.unusedSimpArgs false
set_option linter.unusedVariables false
namespace Go.Proofs.YtmmhaiidcfgbbaaGreatDoor.E
open Go Go.RowKit
set_option maxRecDepth 100000
variable [L : Lam]
variable {σ τ τ' : AH} {R : AEnd → AH → Prop}
theorem bCo_at {N : Nat} {cs : List Cor} (h : bCo N cs) (i : Nat) : (corAt cs i).name.size ≤ N ∧ bD N (corAt cs i).data := by
  by_cases hi : i < cs.length
  · rw [← corAt_eq hi]; exact h.2 _ (List.getElem_mem hi)
  · have : corAt cs i = default := by simp [corAt, List.getD, List.getElem?_eq_none (Nat.le_of_not_lt hi)]
    rw [this]
    exact ⟨Nat.zero_le _, Nat.zero_le _, fun d hd => by cases hd⟩
theorem cmpB_bC {cs : List Cor} (hb : bCo 1048576 cs) : bC 1048576 (cmpB cs) := by
  unfold cmpB
  split
  case isFalse => exact ⟨by simp, fun b hb => by cases hb⟩
  rename_i h0
  have hf : fits (fin0 cs) := by
    unfold cmpC at h0
    split at h0
    · rename_i c; exact absurd h0 c
    · split at h0
      · rename_i c; exact fitB_iff.1 c
      · cases h0
  have hA : AllO (fun o => o.name.size ≤ 1048576 ∧ bD 1048576 o.data) (fin0 cs) := mkC_all ⟨fun o h1 h2 => by rw [h1, h2]; exact ⟨by rw [size_none]; omega, Nat.zero_le _, fun d hd => by cases hd⟩, fun k i => ⟨(bCo_at hb i).1, Nat.zero_le _, fun d hd => by cases hd⟩, fun i => ⟨by show (⟨#[]⟩ : ByteArray).size ≤ _; rw [size_none]; omega, (bCo_at hb i).2⟩, fun o a h => h⟩ _ _ _ _ _ (fun p hp q hq => by simp at hp; subst hp; cases hq)
  refine ⟨by have := hf.1; simp only [toBk, List.length_map]; omega, fun b hb => ?_⟩
  obtain ⟨p, hp, rfl⟩ := List.mem_map.1 hb
  refine ⟨?_, fun o ho => hA p hp o ho⟩
  obtain ⟨k, hk, rfl⟩ := List.mem_iff_getElem.1 hp
  have := hf.2 k hk
  unfold lenS' at this
  rw [show (fin0 cs).getD k (0, []) = (fin0 cs)[k] by simp [List.getD, hk]] at this
  show (fin0 cs)[k].2.length ≤ _
  omega
theorem c_laws_FnExactCompileCore {cs : List Cor} (hb0 : bCo 9223372036854775807 cs) (ha : aOk cs) {R : AEnd → AH → Prop} (h : ∀ σ, R (.ret (bv true)) σ) : acall TP fn_laws_FnExactCompileCore [roC cs] ah0 R := by
  have hret : ∀ σ, aret (bv true) σ R := fun σ => ret_here (h σ)
  refine s_laws_FnExactCompileCore_ok ?_
  unfold s_laws_FnExactCompileCore
  refine c_laws_szCoreS (by decide) (by decide) hb0 fun v _ _ hb1 => ?_
  simp only [RR]
  refine apick_cases (fun _ => hret _) (fun c => ?_)
  have hb := hb1 (by have := of_decide_eq_false c; omega)
  have hU := cmpB_bC hb
  refine c_laws_toCoreS hb ?_
  refine c_spec_CompileCore (fun i => by have := (bCo_at hb i).1; omega) (fun i d hd => by have := (bCo_at hb i).2.2 d hd; omega) ?_
  refine new_frz rfl rfl rfl (one2 rfl rfl) ?_
  refine c_laws_toCoreSX hb fun x X τ hX hNX => ?_
  simp only [RR]
  refine lend_code (args' := [roC cs]) rfl (fun i hi => ?_) (fun R hR => c_impl_CompileCore ha (by have := hb.1; omega) hR) fun v B τ1 hB hNB => ?_
  · obtain rfl : i = 0 := by simp at hi; omega
    exact hX ▸ fz_cores hNX
  refine new_frz rfl rfl rfl (one2 rfl hNB.one) ?_
  simp only [lodA_all (cs := [_, _]) (n := 2) rfl, RR]
  have hBb : bC 1048576 (cont B) := hB ▸ hU
  have heq : ∀ (τ : AH) (v : AV) (B : List BI) (K : AEnd → AH → Prop), BlksH τ v B → cont B = cmpB cs → K (.ret (bv true)) τ → acall TP fn_laws_eqCodeResult [.agg [iv (cmpC cs), v], .agg [iv (cmpC cs), roBk (cmpB cs)]] τ K := fun τ v B K h1 h2 h3 => by
    have := lend_eqCodeResult (c := cmpC cs) (K := K) h1 (h2 ▸ hU) h3
    rwa [h2] at this
  refine heq _ _ _ _ hNB.own hB ?_
  simp only [RR]
  refine c_laws_toCoreS hb ?_
  have hX1 := hNX.grow hNB.sub
  refine lend_val (v := bv true) (args' := [roC cs, roC cs]) (.val _) rfl (fun i hi => ?_) (fun R hR => c_laws_eqCoreS hb hR) ?_
  · match i, hi with
    | 0, _ => exact hX ▸ fz_cores hX1
    | 1, _ => exact .same _
  simp only [RR]
  have hm1 := markN_le cs (fun c hc => (hb.2 c hc).2.1)
  have hm2 := hb.1
  have hk2 := blksK_bC hU
  have hl2 := blksK_le (cmpB cs) 1
  refine c_laws_markCoreSX hX1 (by decide) (by rw [hX]; omega) fun k' τ2 hk' hfr2 => ?_
  have hB2 : BlksH τ2 v B := hNB.own.keep fun ψ hψ => hfr2 ψ fun c => by
    obtain ⟨F, e⟩ := hNX.live c
    rw [hNB.fr ψ hψ] at e; cases e
  have g : ¬ k' < 0 := by omega
  simp only [jn, g, lodA_all (cs := [_, _]) (n := 2) rfl, RR]
  refine heq _ _ _ _ hB2 hB ?_
  simp only [RR]
  refine c_laws_markCodeResultX hB2 hNB.nd (by decide) (hB ▸ hk2) fun τ3 hB3 _ => ?_
  simp only [lodA_all (cs := [_, _]) (n := 2) rfl, RR]
  have hcm : cont (mkBk 1 B) = mkBksD 1 (cmpB cs) := by rw [cont_mkBk, hB]
  refine lend_held hB3 hcm (by decide) hk2 ?_
  have g2 : ¬ blksK 1 (cmpB cs) < 0 := by omega
  simp only [g2, hB, dec_self, RR]
  refine c_laws_toCoreS hb ?_
  simp only [RR]
  refine c_impl_CompileCore ha (by have := hb.1; omega) fun v' B' τ4 hB' hNB' => ?_
  refine new_frz rfl rfl rfl (one2 rfl hNB'.one) ?_
  simp only [lodA_all (cs := [_, _]) (n := 2) rfl, RR]
  refine heq _ _ _ _ hNB'.own hB' ?_
  simp only [lodA_all (cs := [_, _]) (n := 2) rfl, RR]
  have hB4 : BlksH τ4 v (mkBk 1 B) := (Kp.of_sub (F := []) hNB'.sub).blks hB3 fun _ _ c => by cases c
  refine lend_held hB4 hcm (by decide) hk2 ?_
  simp only [g2, dec_self, RR]
  exact hret _
end Go.Proofs.YtmmhaiidcfgbbaaGreatDoor.E
