/- UnfuseCode: the reference's. -/
import Derived.Test.YtlggnigbemghgaaGreatDoorS2
set_option linter.unusedSectionVars false
set_option linter.unusedSimpArgs false
set_option linter.unusedVariables false
namespace Go.Proofs.YtlggnigbemghgaaGreatDoor.E
open Go Go.RowKit
set_option maxRecDepth 100000
variable [L : Lam]
variable {σ τ τ' : AH} {R : AEnd → AH → Prop}
set_option maxHeartbeats 2000000 in
theorem c_spec_l11Unfuse {σ1 : AH} {φ st i : Nat} {F : Fam} {n : Int} {av : AV} {its : Its} {os : List OpD} (hF : τ φ = some F) (hst : F.st = st) (hr : F.es[i]? = some [iv n, av]) (hH : OpsH τ av its) (hbo : its.map (·.1) = os) (hol : os.length ≤ 200) (hsm : smB os) (htg : ∀ o, o ∈ os → tgtN o < os.length)
    (hbase : AH.Sub σ1 τ) (hitf : ∀ ψ, ψ ∈ itsF its → σ1 ψ = none) (hitn : (itsF its).Nodup)
    (h : ∀ w τ', OpsH τ' w ((its.flatMap splitP).map (turnP (plcN os os.length))) → AH.Sub τ τ' → (∀ ψ, ψ ∈ famL w → τ ψ = none) → R (.ret w) τ') : acall TP fn_spec_l11Unfuse [.ptr φ st i 0] τ R := by
  have hrg : F.es.getD i [] = [iv n, av] := by simp [List.getD, hr]
  have hbl : its.length = os.length := by rw [← hbo]; simp
  have hitl : ∀ ψ, ψ ∈ itsF its → τ ψ ≠ none := fun ψ hψ => live_ne (hH.2.live hψ)
  refine s_spec_l11Unfuse_ok ?_
  unfold s_spec_l11Unfuse
  refine bsl0 ?_
  refine bsl0 ?_
  refine lp_rel its.length (fun j x τ' => ∃ w u, x = (.ptr φ st i 0, w, u, iv (j : Int), ()) ∧ NewO σ1 τ' w ((its.take j).flatMap splitP) ∧ Buf τ' 1 u (ivs (plcN os j)) ∧
      AH.Sub τ τ' ∧ (∀ ψ, ψ ∈ famL w → τ ψ = none) ∧ (∀ ψ, ψ ∈ famL u → τ ψ = none) ∧ ∀ ψ, ψ ∈ famL w → ψ ∉ famL u) ⟨.emp, .emp, rfl, .emp hbase, .inl ⟨.inr rfl, rfl⟩, .refl τ, (fun ψ c => by cases c), (fun ψ c => by cases c), fun ψ c => by cases c⟩ ?_
  rintro j _ τ1 hj ⟨w, u, rfl, hO, hU, hsub, hwf, huf, hwu⟩ R2 hR2
  have hWl : ((its.take j).flatMap splitP).length = ((os.take j).flatMap splitO).length := by
    have := congrArg List.length (splits_fst (its.take j))
    rw [List.map_take, hbo, List.length_map] at this
    exact this
  have hlw := buf_len hO.own.1
  rw [List.length_map, hWl] at hlw
  have hspl : ((os.take j).flatMap splitO).length ≤ 400 := by
    have := splits_len (os.take j)
    rw [List.length_take] at this
    omega
  have hbH1 : OpsH τ1 av its := (Kp.of_sub (F := []) hsub).ops hH fun _ _ c => by cases c
  have hlb := buf_len hbH1.1
  rw [show (its.map fun p => encOpA p.1 p.2).length = its.length by simp] at hlb
  have el : ∀ τ2, AH.Sub τ τ2 → lod (.ptr φ st i 1) τ2 = some av := fun τ2 hs => lod_at (hs _ _ hF) hst (by rw [hrg]; rfl)
  have el1 := el τ1 hsub
  simp only [el1, hlb, RR]
  by_cases hlt2 : j < its.length
  · have g2 : (j : Int) < (its.length : Int) := by omega
    have hp1 : its[j].2.one = true := (hbH1.2 _ (List.getElem_mem hlt2)).av1
    simp only [g2, hlw, RR]
    refine buf_push (row := [iv (((os.take j).flatMap splitO).length : Int)]) hU rfl rfl (fun y hy => by rw [List.mem_singleton.1 hy]; rfl) (by omega) (by simp [plcN_len]; omega) fun u' τ2 hU2 hK2 hf2 => ?_
    have hsub2 : AH.Sub τ τ2 := hK2.sub hsub huf
    have hbH2 : OpsH τ2 av its := (Kp.of_sub (F := []) hsub2).ops hH fun _ _ c => by cases c
    have el2 := el τ2 hsub2
    obtain ⟨φo, sto, rfl, hFo⟩ := buf_own hbH2.1 (by intro c; rw [List.map_eq_nil_iff] at c; rw [c] at hlt2; cases hlt2)
    have ixo := idx_own (st := sto) (off := 0) hFo (show j < (its.map fun p => encOpA p.1 p.2).length by simpa using hlt2)
    rw [Nat.zero_add] at ixo
    simp only [el2, ixo, RR]
    have hO2 : NewO σ1 τ2 w ((its.take j).flatMap splitP) := hO.kp hK2 (fun ψ hψ c => by
      rcases List.mem_append.1 hψ with d | d
      · exact hwu ψ d c
      · have hm : ψ ∈ itsF its := ((splits_fam _).trans (itsF_take its j)).subset d
        exact hitl ψ hm (huf ψ c)) fun ψ hψ => hbase.none (huf ψ hψ)
    have hD2 : Buf τ2 4 its[j].2 (its[j].1.data.map encDat) := hbH2.2 _ (List.getElem_mem hlt2)
    refine c_spec_l11Split (o := its[j].1) (a := its[j].2) hFo rfl (by simp [hlt2]) hD2 fun x τ3 hx hs3 => ?_
    have hpf : ∀ ψ, ψ ∈ itsF (splitP its[j]) → ψ ∈ itsF its := fun ψ hψ => List.mem_flatMap.2 ⟨_, List.getElem_mem hlt2, (splitP_fam _).subset hψ⟩
    have etk : (its.take (j + 1)).flatMap splitP = (its.take j).flatMap splitP ++ splitP its[j] := by
      rw [List.take_succ_eq_append_getElem hlt2, List.flatMap_append]; simp
    simp only [RR]
    refine (hO2.grow hs3).app (qs := splitP its[j]) hx (splitP_own ((Kp.of_sub (F := []) hs3).buf hD2 fun _ _ c => by cases c)) ?_ (fun ψ hψ c => hitl ψ (hpf ψ hψ) (hwf ψ c)) (fun ψ hψ => hitf ψ (hpf ψ hψ)) (splitP_one hp1) ?_ fun w' τ4 hO4 hK4 hf4 => ?_
    · rw [← itsF_append, ← etk]
      exact hitn.sublist ((splits_fam _).trans (itsF_take its _))
    · rw [hWl]
      have : (splitP its[j]).length ≤ 2 := by have := congrArg List.length (splitP_fst its[j]); rw [List.length_map] at this; rw [this]; exact (splitO_len _).2
      omega
    simp only [ibin_up hlt2 (by omega), RR]
    have hs23 : ∀ ψ, τ2 ψ ≠ none → τ3 ψ = τ2 ψ := fun ψ hn => by
      cases e : τ2 ψ with
      | none => exact absurd e hn
      | some G => exact hs3 _ _ e
    have hK24 : Kp (famL w) τ2 τ4 := fun ψ h1 h2 => by
      rw [hK4 ψ h1 (by rw [hs23 ψ h2]; exact h2), hs23 ψ h2]
    have hu'w : ∀ ψ, ψ ∈ famL u' → ψ ∉ famL w := fun ψ h1 h2 => by
      rcases hf2 ψ h1 with d | d
      · exact hwu ψ h2 d
      · exact live_ne (buf_live hO.own.1 h2) d
    have hu'l : ∀ ψ, ψ ∈ famL u' → τ2 ψ ≠ none := fun ψ h1 => live_ne (buf_live hU2 h1)
    refine hR2 _ _ _ hlt2 (.refl _) ⟨w', u', rfl, by rw [etk]; exact hO4, ?_, hK24.sub hsub2 hwf, fun ψ hψ => ?_, fun ψ hψ => ?_, fun ψ h1 h2 => ?_⟩
    · have := hK24.buf hU2 hu'w
      rw [plcN_succ, ivs, List.map_append]
      exact this
    · rcases hf4 ψ hψ with d | d
      · exact hwf ψ d
      · exact hsub2.none (hs3.none d)
    · rcases hf2 ψ hψ with d | d
      · exact huf ψ d
      · exact hsub.none d
    · rcases hf4 ψ h1 with d | d
      · exact hu'w ψ h2 d
      · exact hu'l ψ h2 (hs3.none d)
  · have g2 : ¬ (j : Int) < (its.length : Int) := by omega
    obtain rfl : j = its.length := by omega
    rw [List.take_length] at hO
    rw [hbl] at hU
    simp only [g2, RR]
    have hWs : ((its.flatMap splitP).map (·.1)) = os.flatMap splitO := by rw [splits_fst, hbo]
    refine c_spec_l11Turn hO.own.1 hU hwu (fun p hpm => ?_) (by have := congrArg List.length hWs; rw [List.length_map] at this; have := splits_len os; omega) fun τ4 hB4 hK4 => ?_
    · have hm : p.1 ∈ os.flatMap splitO := by rw [← hWs]; exact List.mem_map.2 ⟨p, hpm, rfl⟩
      obtain ⟨o, ho, hq⟩ := List.mem_flatMap.1 hm
      have := split_ok (n := os.length) (hsm o ho) (htg o ho) hq
      rw [plcN_len]
      exact this
    obtain ⟨_, _, hn3⟩ := nodup_app.1 hO.nd
    simp only [RR]
    refine ret_here (h w τ4 ⟨hB4, turnP_own (hO.own.2.keep fun ψ hψ => hK4 ψ fun c => hn3 ψ c hψ)⟩ (fun ψ G hG => ?_) hwf)
    rw [hK4 ψ fun c => by rw [hwf ψ c] at hG; cases hG]
    exact hsub _ _ hG
open Classical in
noncomputable def unfBs (bs : List Blk) : List Blk := if unfC bs = 0 then bs.map unfB else []
theorem newB_nil : NewB σ σ nilS [] := ⟨⟨nil_buf, fun p hp => by cases hp⟩, .nil, (fun ψ c => by cases c), .refl σ⟩
theorem c_impl_UnfuseCodeX {bs : List Blk} (hb : bC 1048576 bs) (h : ∀ v B τ, cont B = unfBs bs → NewB σ τ v B → R (.ret (.agg [iv (unfC bs), v])) τ) : acall TP fn_impl_UnfuseCode [roBk bs] σ R := by
  refine c_impl_UnfuseCode hb (fun c => ?_) fun c v B τ h1 h2 => ?_
  · exact h nilS [] σ (by unfold unfBs; rw [if_neg c]; rfl) newB_nil
  · have := h v B τ (by unfold unfBs; rw [if_pos c]; exact h1) h2
    rwa [c] at this
theorem NewB.fz {v : AV} {B : List BI} (h : NewB σ τ v B) : Fz σ τ v (roBk (cont B)) := fz_blks h.own h.fr
theorem ret_frz {v v' : AV} (hs : AH.Sub σ τ) (hf : Fz σ τ v v') (h : R (.ret v') σ) : aret v τ R := ⟨v', σ, imp_freeze hs hf, h⟩
set_option maxHeartbeats 2000000 in
theorem c_spec_UnfuseCode {bs : List Blk} (hb : bC 1048576 bs) (h : R (.ret (.agg [iv (unfC bs), roBk (unfBs bs)])) σ) : acall TP fn_spec_UnfuseCode [roBk bs] σ R := by
  refine s_spec_UnfuseCode_ok ?_
  unfold s_spec_UnfuseCode
  intro φ2 hφ2
  have hs1 : AH.Sub σ (σ.set φ2 ⟨0, [(AV.val (.int .i64 0)), (AV.val (.slice none 0 0))].length, [[(AV.val (.int .i64 0)), (AV.val (.slice none 0 0))]]⟩) := .set (.refl σ) _ hφ2
  have hF2 := AH.set_same σ φ2 (⟨0, 2, [[(AV.val (.int .i64 0)), (AV.val (.slice none 0 0))]]⟩ : Fam)
  refine c_spec_l10Fault (bC_sC hb) (fun hc => ?_) (fun hc up hp' hall hu => ?_)
  · have eC : unfC bs = codeF bs := by unfold unfC; rw [if_pos hc]
    have eB : unfBs bs = [] := by unfold unfBs; rw [if_neg (by rw [eC]; exact hc)]
    rw [eC, eB] at h
    simp only [aext0, aext1, hc, bld_c, RR]
    refine fin_cr hF2 rfl rfl (one2 rfl rfl) (ret_frz ?_ (Fz.agg2 (.same _) .nil) h)
    rw [AH.set_set]
    exact .set (.refl σ) _ hφ2
  obtain ⟨hp, hht, _⟩ := codeF_pre hc
  have hl := hp.len
  simp only [aext0, aext1, RR]
  have eU : unfC bs = if ∃ b, b ∈ bs ∧ 200 < unfL b.ops then 2 else 0 := by unfold unfC; rw [if_neg (by rw [hc]; simp)]
  generalize hσ1 : σ.set φ2 ⟨0, [(AV.val (.int .i64 0)), (AV.val (.slice none 0 0))].length, [[(AV.val (.int .i64 0)), (AV.val (.slice none 0 0))]]⟩ = σ1 at *
  have hF1 : σ1 φ2 = some ⟨0, 2, [[(AV.val (.int .i64 0)), (AV.val (.slice none 0 0))]]⟩ := by rw [← hσ1]; exact AH.set_same ..
  refine c_spec_l9Copy hb.1 (fun b hm => ⟨(hb.2 b hm).1, fun o ho => ((hb.2 b hm).2 o ho).2.1⟩) fun v B0 τ0 hc0 hN0 => ?_
  simp only [RR]
  refine lp_rel bs.length (fun i x τ => ∃ B, x = (.ptr φ2 0 0 0, v, iv (i : Int), ()) ∧ cont B = (bs.take i).map unfB ++ bs.drop i ∧ NewB σ1 τ v B ∧ ∀ b, b ∈ bs.take i → unfL b.ops ≤ 200) ⟨B0, rfl, by simpa using hc0, hN0, by simp⟩ ?_
  rintro i _ τ hi ⟨B, rfl, hcB, hN, hsm⟩ R' hR'
  have hlv := buf_len hN.own.1
  have hBl : (B.map fun b => [iv b.args, b.av]).length = bs.length := by have := congrArg List.length hcB; simp [cont] at this; simp [this]; omega
  rw [hBl] at hlv
  simp only [hlv, RR]
  by_cases hlt : i < bs.length
  · have g : (i : Int) < (bs.length : Int) := by omega
    obtain ⟨hsmb, hol⟩ := hp.sm _ (List.getElem_mem hlt)
    obtain ⟨out, hout⟩ : ∃ out, hts bs[i].ops = some out := by
      cases e : hts bs[i].ops with
      | none => exact absurd e (hht _ (List.getElem_mem hlt))
      | some o => exact ⟨o, rfl⟩
    have hok := hts_some hout
    rw [List.drop_eq_getElem_cons hlt] at hcB
    obtain ⟨BA, b, BC, rfl, hcA, hcb, hcC, hAl⟩ := cont_split hcB
    have hAl : BA.length = i := by rw [hAl]; simp; omega
    have hba : b.args = bs[i].args := congrArg Blk.args hcb
    have hbo : b.its.map (·.1) = bs[i].ops := congrArg Blk.ops hcb
    have hbH : OpsH τ b.av b.its := hN.own.2 b (by simp)
    obtain ⟨φ, st, rfl, hF⟩ := buf_own hN.own.1 (by simp)
    have ix := idx_own (st := st) (off := 0) hF (show i < ((BA ++ b :: BC).map fun b => [iv b.args, b.av]).length by simp; omega)
    rw [Nat.zero_add] at ix
    have hrow : ((BA ++ b :: BC).map fun b => [iv b.args, b.av])[i]? = some [iv b.args, b.av] := by subst hAl; simp
    simp only [g, ix, RR]
    have hitf : ∀ ψ, ψ ∈ itsF b.its → σ1 ψ = none := fun ψ hψ => hN.fr ψ (by
      refine List.mem_append_right _ (List.mem_flatMap.2 ⟨b, by simp, List.mem_append_right _ hψ⟩))
    have hitn : (itsF b.its).Nodup := by
      have := hN.nd
      have e : blksF (.own φ st 0 ((BA ++ b :: BC).map fun b => [iv b.args, b.av]).length) (BA ++ b :: BC) = famL (.own φ st 0 ((BA ++ b :: BC).map fun b => [iv b.args, b.av]).length) ++ (bsF BA ++ ((famL b.av ++ itsF b.its) ++ bsF BC)) := by
        have : bsF (BA ++ b :: BC) = bsF BA ++ ((famL b.av ++ itsF b.its) ++ bsF BC) := by rw [bsF_app, bsF_cons]; rfl
        rw [← this]; rfl
      rw [e] at this
      exact (nodup_app.1 (nodup_app.1 (nodup_app.1 (nodup_app.1 this).2.1).2.1).1).2.1
    refine c_spec_l11Unfuse hF rfl hrow hbH hbo hol hsmb hok.tgt hN.sub hitf hitn fun w τ4 hO4 hs4 hwf => ?_
    have hWs : (((b.its.flatMap splitP).map (turnP (plcN bs[i].ops bs[i].ops.length))).map (·.1)) = unfO bs[i].ops := by rw [turnP_fst, splits_fst, hbo]; rfl
    have hlw := buf_len hO4.1
    have hWl : (((b.its.flatMap splitP).map (turnP (plcN bs[i].ops bs[i].ops.length))).map fun p => encOpA p.1 p.2).length = unfL bs[i].ops := by
      have := congrArg List.length hWs
      rw [List.length_map] at this
      rw [List.length_map, this]
      unfold unfO unfL
      rw [List.length_map]
    rw [hWl] at hlw
    simp only [hlw, RR]
    by_cases c200 : (200 : Int) < (unfL bs[i].ops : Int)
    · have e2 : ∃ b, b ∈ bs ∧ 200 < unfL b.ops := ⟨bs[i], List.getElem_mem hlt, by omega⟩
      rw [if_pos e2] at eU
      have eB : unfBs bs = [] := by unfold unfBs; rw [if_neg (by rw [eU]; simp)]
      rw [eU, eB] at h
      have b2 : bld [(.val (.int .i64 0)), (.val (.slice none 0 0))] [(0, 1), (1, 1)] [(0, (.val (.int .i64 2)))] = some (.agg [iv 2, nilS]) := rfl
      simp only [c200, b2, RR]
      refine fin_cr (hs4 _ _ (hN.sub _ _ hF1)) rfl rfl (one2 rfl rfl) (ret_frz ?_ (Fz.agg2 (.same _) .nil) h)
      exact fun ψ F hF => by
        have hne : ψ ≠ φ2 := by rintro rfl; rw [hφ2] at hF; cases hF
        rw [AH.set_ne' hne]
        exact hs4 _ _ (hN.sub _ _ (hs1 _ _ hF))
    · simp only [c200, RR]
      obtain ⟨φ', st', hv, _, _, ix', hst⟩ := NewB.repl (τ := τ4) (w := w) (W := (b.its.flatMap splitP).map (turnP (plcN bs[i].ops bs[i].ops.length))) hN hO4 (by rw [turnP_fam]; exact splits_fam _) hwf (fun ψ h1 h2 => by
        cases e : τ ψ with
        | none => exact absurd e h2
        | some F => exact hs4 _ _ e) hO4.av1
      rw [hAl] at ix' hst
      simp only [ix', RR]
      refine hst _ fun τ5 hN5 => ?_
      simp only [ibin_up hlt (by omega), RR]
      refine hR' _ _ _ hlt (.refl _) ⟨_, rfl, ?_, hN5, ?_⟩
      · have : cont (BA ++ ⟨b.args, w, (b.its.flatMap splitP).map (turnP (plcN bs[i].ops bs[i].ops.length))⟩ :: BC) = cont BA ++ ⟨b.args, ((b.its.flatMap splitP).map (turnP (plcN bs[i].ops bs[i].ops.length))).map (·.1)⟩ :: cont BC := by simp [cont]
        rw [this, hcA, hcC, hWs, hba, List.take_succ_eq_append_getElem hlt, List.map_append, List.append_assoc]
        try rfl
      · intro q hq
        rw [List.take_succ_eq_append_getElem hlt] at hq
        rcases List.mem_append.1 hq with d | d
        · exact hsm q d
        · obtain rfl : q = bs[i] := by simpa using d
          omega
  · have g : ¬ (i : Int) < (bs.length : Int) := by omega
    obtain rfl : i = bs.length := by omega
    rw [List.take_length] at hcB hsm
    rw [List.drop_length, List.append_nil] at hcB
    have e2 : ¬ ∃ b, b ∈ bs ∧ 200 < unfL b.ops := by rintro ⟨b, hm, h2⟩; have := hsm b hm; omega
    rw [if_neg e2] at eU
    have eB : unfBs bs = bs.map unfB := by unfold unfBs; rw [if_pos eU]
    rw [eU, eB, ← hcB] at h
    have eb := bld_b hN.own.1
    simp only [g, eb, RR]
    have hφB : φ2 ∉ blksF v B := fun c => by have := hN.fr φ2 c; rw [hF1] at this; cases this
    have hs9 : AH.Sub σ (τ.set φ2 ⟨0, 2, [[iv 0, v]]⟩) := fun ψ F hF => by
      have hne : ψ ≠ φ2 := by rintro rfl; rw [hφ2] at hF; cases hF
      rw [AH.set_ne' hne]
      exact hN.sub _ _ (hs1 _ _ hF)
    have hN9 : NewB σ (τ.set φ2 ⟨0, 2, [[iv 0, v]]⟩) v B := ⟨hN.own.keep fun ψ hψ => AH.set_ne' (by rintro rfl; exact hφB hψ), hN.nd, fun ψ hψ => hs1.none (hN.fr ψ hψ), hs9⟩
    exact fin_cr (hN.sub _ _ hF1) rfl rfl (one2 rfl hN.one) (ret_frz hs9 (Fz.agg2 (.same _) hN9.fz) h)
end Go.Proofs.YtlggnigbemghgaaGreatDoor.E
