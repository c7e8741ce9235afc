/- Code of cores, by both. -/
import Derived.Test.YtmmhaiidcfgbbaaGreatDoorV12
set_option linter.unusedSectionVars false
set_option linter.unusedSimpArgs false
set_option linter.unusedVariables false
namespace Go.Proofs.YtmmhaiidcfgbbaaGreatDoor.E
open Go Go.RowKit
set_option maxRecDepth 100000
variable [L : Lam]
variable {σ τ τ' : AH} {R : AEnd → AH → Prop}
def cmpC (cs : List Cor) : Int := if coresF cs ≠ 0 then coresF cs else if fitB (fin0 cs) then 0 else 2
def cmpB (cs : List Cor) : List Blk := if cmpC cs = 0 then toBk (fin0 cs) else []
theorem fin_cR {φ : Nat} {z cs : List AV} (hF : τ φ = some ⟨0, 2, [z]⟩) (hz : z.length = 2) (hc : cs.length = 2) (h1 : ∀ y, y ∈ cs → y.one = true) (h : aret (.agg cs) (τ.set φ ⟨0, 2, [cs]⟩) R) :
    sto 2 (.ptr φ 0 0 0) (.agg cs) τ fun σ => og (lodA 2 (.ptr φ 0 0 0) σ) fun r => aret r σ R := by
  refine sto_own (es := [z]) (cs := cs) hF (by simp) (by simpa using hz) rfl hc h1 ?_
  simp only [List.set_cons_zero]
  have e := lodA_at (σ := τ.set φ ⟨0, 2, [cs]⟩) (φ := φ) (st := 0) (i := 0) (n := 2) (cs := cs) (AH.set_same ..) rfl rfl hc
  rw [e]
  exact h
theorem newB_nul (hs : AH.Sub σ τ) : NewB σ τ nilS [] := ⟨⟨nilB, fun p hp => by cases hp⟩, .nil, (fun ψ c => by cases c), hs⟩
theorem c_impl_CompileCore {cs : List Cor} (ha : aOk cs) (hbig : cs.length ≤ 9223372036854775807) (h : ∀ v B τ, cont B = cmpB cs → NewB σ τ v B → R (.ret (.agg [iv (cmpC cs), v])) τ) : acall TP fn_impl_CompileCore [roC cs] σ R := by
  refine s_impl_CompileCore_ok ?_
  unfold s_impl_CompileCore
  intro φ hφ
  have hs1 : AH.Sub σ (σ.set φ ⟨0, [(AV.val (.int .i64 0)), (AV.val (.slice none 0 0))].length, [[(AV.val (.int .i64 0)), (AV.val (.slice none 0 0))]]⟩) := .set (.refl σ) _ hφ
  have hF1 := AH.set_same σ φ (⟨0, 2, [[(AV.val (.int .i64 0)), (AV.val (.slice none 0 0))]]⟩ : Fam)
  refine c_impl_CoreFault ha hbig ?_
  simp only [RR]
  by_cases c0 : coresF cs = 0
  case neg =>
    have d : decide (coresF cs = 0) = false := by simp [c0]
    have eC : cmpC cs = coresF cs := by unfold cmpC; rw [if_pos c0]
    have eB : cmpB cs = [] := by unfold cmpB; rw [if_neg (by rw [eC]; exact c0)]
    have eb : bld [(.val (.int .i64 0)), (.val (.slice none 0 0))] [(0, 1), (1, 1)] [(0, iv (coresF cs))] = some (.agg [iv (coresF cs), nilS]) := rfl
    simp only [d, eb, RR]
    refine fin_cR hF1 rfl rfl (one2 rfl rfl) (ret_here ?_)
    rw [← eC, AH.set_set]
    exact h nilS [] _ (by rw [eB]; rfl) (newB_nul (.set (.refl σ) _ hφ))
  have d : decide (coresF cs = 0) = true := by simp [c0]
  obtain ⟨hw, hdat⟩ := coresF_wf c0
  simp only [d, RR]
  have keep : ∀ {τ : AH} {F : Fam}, AH.Sub (σ.set φ ⟨0, [(AV.val (.int .i64 0)), (AV.val (.slice none 0 0))].length, [[(AV.val (.int .i64 0)), (AV.val (.slice none 0 0))]]⟩) τ → AH.Sub σ (τ.set φ F) := fun hs ψ G hG => by
    rw [AH.set_ne' (by rintro rfl; rw [hφ] at hG; cases hG)]
    exact hs _ _ (hs1 _ _ hG)
  refine c_impl_compiled hw (fun i => by have := hdat i; omega) (fun fD v B τ hcB hN => ?_) (fun nf τ hs => ?_)
  · have eC : cmpC cs = 0 := by unfold cmpC; rw [if_neg (by rw [c0]; decide), if_pos (fitB_iff.2 fD)]
    have eB : cmpB cs = toBk (fin0 cs) := by unfold cmpB; rw [if_pos eC]
    have y0 : aext (.tup [v, iv 0]) 0 = some v := rfl
    have y1 : aext (.tup [v, iv 0]) 1 = some (iv 0) := rfl
    have eb := bld_buf (n := 0) hN.own.1
    simp only [y0, y1, eb, RR]
    have hφB : φ ∉ blksF v B := fun c => by have := hN.fr φ c; rw [AH.set_same] at this; cases this
    refine fin_cR (hN.sub _ _ hF1) rfl rfl (one2 rfl hN.one) (ret_here ?_)
    have := h v B (τ.set φ ⟨0, 2, [[iv 0, v]]⟩) (by rw [eB]; exact hcB) ⟨hN.own.keep fun ψ hψ => AH.set_ne' (by rintro rfl; exact hφB hψ), hN.nd, fun ψ hψ => hs1.none (hN.fr ψ hψ), keep hN.sub⟩
    rw [eC] at this
    exact this
  · have eC : cmpC cs = 2 := by unfold cmpC; rw [if_neg (by rw [c0]; decide), if_neg (fun k => nf (fitB_iff.1 k))]
    have eB : cmpB cs = [] := by unfold cmpB; rw [if_neg (by rw [eC]; decide)]
    have y0 : aext (.tup [nilS, iv 2]) 0 = some nilS := rfl
    have y1 : aext (.tup [nilS, iv 2]) 1 = some (iv 2) := rfl
    have eb : bld [(.val (.int .i64 0)), (.val (.slice none 0 0))] [(0, 1), (1, 1)] [(0, iv 2), (1, nilS)] = some (.agg [iv 2, nilS]) := rfl
    simp only [y0, y1, eb, RR]
    refine fin_cR (hs _ _ hF1) rfl rfl (one2 rfl rfl) (ret_here ?_)
    have := h nilS [] (τ.set φ ⟨0, 2, [[iv 2, nilS]]⟩) (by rw [eB]; rfl) (newB_nul (keep hs))
    rw [eC] at this
    exact this
theorem c_spec_CompileCore {cs : List Cor} (hnm : ∀ i, (corAt cs i).name.size ≤ 1099511627776) (hsd : ∀ i, sD (corAt cs i).data) (h : R (.ret (.agg [iv (cmpC cs), roBk (cmpB cs)])) σ) : acall TP fn_spec_CompileCore [roC cs] σ R := by
  refine s_spec_CompileCore_ok ?_
  unfold s_spec_CompileCore
  intro φ hφ
  have hF1 := AH.set_same σ φ (⟨0, 2, [[(AV.val (.int .i64 0)), (AV.val (.slice none 0 0))]]⟩ : Fam)
  refine c_spec_l4Fault hnm hsd ?_
  simp only [RR]
  by_cases c0 : coresF cs = 0
  case neg =>
    have d : decide (coresF cs = 0) = false := by simp [c0]
    have eC : cmpC cs = coresF cs := by unfold cmpC; rw [if_pos c0]
    have eB : cmpB cs = [] := by unfold cmpB; rw [if_neg (by rw [eC]; exact c0)]
    have eb : bld [(.val (.int .i64 0)), (.val (.slice none 0 0))] [(0, 1), (1, 1)] [(0, iv (coresF cs))] = some (.agg [iv (coresF cs), nilS]) := rfl
    rw [eB, eC] at h
    simp only [d, eb, RR]
    refine fin_cR hF1 rfl rfl (one2 rfl rfl) (aret_freeze (a' := .agg [iv (coresF cs), roBk []]) ?_ (Fz.agg2 (.same _) .nil) h)
    rw [AH.set_set]; exact .set (.refl σ) _ hφ
  have d : decide (coresF cs = 0) = true := by simp [c0]
  obtain ⟨hw, hdat⟩ := coresF_wf c0
  simp only [d, RR]
  refine c_spec_l9Code hw (fun i => by have := hdat i; omega) ?_
  have y0 : aext (.tup [roBk (toBk (fin0 cs)), bv (fitB (fin0 cs))]) 0 = some (roBk (toBk (fin0 cs))) := rfl
  have y1 : aext (.tup [roBk (toBk (fin0 cs)), bv (fitB (fin0 cs))]) 1 = some (bv (fitB (fin0 cs))) := rfl
  simp only [y0, y1, RR]
  cases hf : fitB (fin0 cs) with
  | true =>
    have eC : cmpC cs = 0 := by unfold cmpC; rw [if_neg (by rw [c0]; decide), if_pos hf]
    have eB : cmpB cs = toBk (fin0 cs) := by unfold cmpB; rw [if_pos eC]
    have eb : bld [(.val (.int .i64 0)), (.val (.slice none 0 0))] [(0, 1), (1, 1)] [(1, roBk (toBk (fin0 cs)))] = some (.agg [iv 0, roBk (toBk (fin0 cs))]) := rfl
    rw [eB, eC] at h
    simp only [eb, RR]
    refine fin_cR hF1 rfl rfl (one2 rfl rfl) (aret_sub ?_ h)
    rw [AH.set_set]; exact .set (.refl σ) _ hφ
  | false =>
    have eC : cmpC cs = 2 := by unfold cmpC; rw [if_neg (by rw [c0]; decide), if_neg (by rw [hf]; decide)]
    have eB : cmpB cs = [] := by unfold cmpB; rw [if_neg (by rw [eC]; decide)]
    have eb : bld [(.val (.int .i64 0)), (.val (.slice none 0 0))] [(0, 1), (1, 1)] [(0, (.val (.int .i64 2)))] = some (.agg [iv 2, nilS]) := rfl
    rw [eB, eC] at h
    simp only [eb, RR]
    refine fin_cR hF1 rfl rfl (one2 rfl rfl) (aret_freeze (a' := .agg [iv 2, roBk []]) ?_ (Fz.agg2 (.same _) .nil) h)
    rw [AH.set_set]; exact .set (.refl σ) _ hφ
end Go.Proofs.YtmmhaiidcfgbbaaGreatDoor.E
