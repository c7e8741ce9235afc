/- Code that is taken apart: the program's UnfuseCode. -/
import Derived.Test.YtlggnigbemghgaaGreatDoorO8
set_option linter.unusedSectionVars false
set_option linter.unusedSimpArgs false
set_option linter.unusedVariables false
namespace Go.Proofs.YtlggnigbemghgaaGreatDoor.E
open Go Go.RowKit
set_option maxRecDepth 100000
variable [L : Lam]
variable {σ τ τ' : AH} {R : AEnd → AH → Prop}
/-- A result is put together and handed back. -/
theorem fin_cr {φ : Nat} {z cs : List AV} (hF : τ φ = some ⟨0, 2, [z]⟩) (hz : z.length = 2) (hc : cs.length = 2) (h1 : ∀ y, y ∈ cs → y.one = true) (h : aret (.agg cs) (τ.set φ ⟨0, 2, [cs]⟩) R) :
    sto 2 (.ptr φ 0 0 0) (.agg cs) τ fun σ => og (lodA 2 (.ptr φ 0 0 0) σ) fun r => aret r σ R := by
  refine sto_own (es := [z]) (cs := cs) hF (by simp) (by simpa using hz) rfl hc h1 ?_
  simp only [List.set_cons_zero]
  have e := lodA_at (σ := τ.set φ ⟨0, 2, [cs]⟩) (φ := φ) (st := 0) (i := 0) (n := 2) (cs := cs) (AH.set_same ..) rfl rfl hc
  rw [e]
  exact h
theorem itsF_take (its : Its) (j : Nat) : (itsF (its.take j)).Sublist (itsF its) := by
  have e : itsF its = itsF (its.take j) ++ itsF (its.drop j) := by rw [← itsF_append, List.take_append_drop]
  rw [e]; exact List.sublist_append_left _ _
theorem ael_n {ψ sz : Nat} {es : List (List AV)} : aelems (τ.set ψ ⟨0, sz, es⟩) (.own ψ 0 0 es.length) = some es := by simp [aelems]
theorem buf_at {sz i : Nat} {a : AV} {es : List (List AV)} (h : Buf τ sz a es) (hi : i < es.length) (hl : es[i].length = sz) : ∃ p, idx sz a (iv (i : Int)) τ = some p ∧ lodA sz p τ = some (.agg es[i]) := by
  obtain ⟨φ, st, rfl, hF⟩ := buf_own h (by rintro rfl; cases hi)
  have ix := idx_own (st := st) (off := 0) hF hi
  rw [Nat.zero_add] at ix
  exact ⟨_, ix, lodA_at hF rfl (List.getElem?_eq_getElem hi) hl⟩
theorem bld_c (c : Int) : bld [(.val (.int .i64 0)), (.val (.slice none 0 0))] [(0, 1), (1, 1)] [(0, iv c)] = some (.agg [iv c, nilS]) := rfl
theorem bld_b {w : AV} {sz : Nat} {es : List (List AV)} (h : Buf τ sz w es) : bld [(.val (.int .i64 0)), (.val (.slice none 0 0))] [(0, 1), (1, 1)] [(1, w)] = some (.agg [iv 0, w]) := by
  rcases h with ⟨rfl | rfl, _⟩ | ⟨φ, st, rfl, _⟩ <;> rfl
theorem OpsH.av1 {v : AV} {its : Its} (h : OpsH τ v its) : v.one = true := h.1.av1
/-- The list of blocks of which some are turned already. -/
theorem cont_split {B : List BI} {xs ys : List Blk} {y : Blk} (h : cont B = xs ++ y :: ys) : ∃ BA b BC, B = BA ++ b :: BC ∧ cont BA = xs ∧ blkOf b = y ∧ cont BC = ys ∧ BA.length = xs.length := by
  have h' : B.map blkOf = xs ++ y :: ys := h
  obtain ⟨BA, B2, rfl, h1, h2⟩ := List.map_eq_append_iff.1 h'
  obtain ⟨b, BC, rfl, h3, h4⟩ := List.map_eq_cons_iff.1 h2
  exact ⟨BA, b, BC, rfl, h1, h3, h4, by rw [← h1]; simp⟩
set_option maxHeartbeats 2000000 in
theorem c_impl_UnfuseCode {bs : List Blk} (hb : bC 1048576 bs) (h0 : unfC bs ≠ 0 → R (.ret (.agg [iv (unfC bs), nilS])) σ) (h1 : unfC bs = 0 → ∀ v B τ, cont B = bs.map unfB → NewB σ τ v B → R (.ret (.agg [iv 0, v])) τ) : acall TP fn_impl_UnfuseCode [roBk bs] σ R := by
  refine s_impl_UnfuseCode_ok ?_
  unfold s_impl_UnfuseCode
  unfold unfC at h0 h1
  intro φ2 hφ2
  have hs1 : AH.Sub σ (σ.set φ2 ⟨0, [(AV.val (.int .i64 0)), (AV.val (.slice none 0 0))].length, [[(AV.val (.int .i64 0)), (AV.val (.slice none 0 0))]]⟩) := .set (.refl σ) _ hφ2
  have hF2 := AH.set_same σ φ2 (⟨0, 2, [[(AV.val (.int .i64 0)), (AV.val (.slice none 0 0))]]⟩ : Fam)
  refine c_impl_CodeFault ?_
  by_cases c : codeF bs = 0
  case neg =>
    rw [if_pos c] at h0
    simp only [c, bld_c, RR]
    refine fin_cr hF2 rfl rfl (one2 rfl rfl) (aret_sub ?_ (h0 c))
    rw [AH.set_set]
    exact .set (.refl σ) _ hφ2
  rw [if_neg (by rw [c]; simp)] at h0 h1
  obtain ⟨hp, hht, _⟩ := codeF_pre c
  have hl := hp.len
  simp only [c, RR]
  generalize hσ1 : σ.set φ2 ⟨0, [(AV.val (.int .i64 0)), (AV.val (.slice none 0 0))].length, [[(AV.val (.int .i64 0)), (AV.val (.slice none 0 0))]]⟩ = σ1 at *
  have hF1 : σ1 φ2 = some ⟨0, 2, [[(AV.val (.int .i64 0)), (AV.val (.slice none 0 0))]]⟩ := by rw [← hσ1]; exact AH.set_same ..
  refine c_impl_copiedCode hb.1 (fun b hm => ⟨(hb.2 b hm).1, fun o ho => ((hb.2 b hm).2 o ho).2.1⟩) fun v B0 τ0 hc0 hN0 => ?_
  have hlv := buf_len hN0.own.1
  have hB0 : (B0.map fun b => [iv b.args, b.av]).length = bs.length := by have := congrArg List.length hc0; simpa [cont] using this
  rw [hB0] at hlv
  simp only [hlv, RR]
  refine lp_rel bs.length (fun i x τ => ∃ B, x = (.ptr φ2 0 0 0, v, v, iv (bs.length : Int), iv (i : Int), ()) ∧ cont B = (bs.take i).map unfB ++ bs.drop i ∧ NewB σ1 τ v B ∧ ∀ b, b ∈ bs.take i → unfL b.ops ≤ 200) ⟨B0, rfl, by simpa using hc0, hN0, by simp⟩ ?_
  rintro i _ τ hi ⟨B, rfl, hcB, hN, hsm⟩ R' hR'
  by_cases hlt : i < bs.length
  · have g : (i : Int) < (bs.length : Int) := by omega
    obtain ⟨hsmb, hol⟩ := hp.sm _ (List.getElem_mem hlt)
    have hob := hb.2 _ (List.getElem_mem hlt)
    obtain ⟨out, hout⟩ : ∃ out, hts bs[i].ops = some out := by
      cases e : hts bs[i].ops with
      | none => exact absurd e (hht _ (List.getElem_mem hlt))
      | some o => exact ⟨o, rfl⟩
    have hok := hts_some hout
    rw [List.drop_eq_getElem_cons hlt] at hcB
    obtain ⟨BA, b, BC, rfl, hcA, hcb, hcC, hAl⟩ := cont_split hcB
    have hAl : BA.length = i := by rw [hAl]; simp; omega
    have hba : b.args = bs[i].args := congrArg Blk.args hcb
    have hbo : b.its.map (·.1) = bs[i].ops := congrArg Blk.ops hcb
    have hbl : b.its.length = bs[i].ops.length := by rw [← hbo]; simp
    have hbH : OpsH τ b.av b.its := hN.own.2 b (by simp)
    have hrow : (((BA ++ b :: BC).map fun b => [iv b.args, b.av])[i]'(by simp; omega)) = [iv b.args, b.av] := by
      subst hAl; simp
    obtain ⟨pt, q1, q2⟩ := buf_at (i := i) hN.own.1 (by simp; omega) (by rw [hrow]; rfl)
    rw [hrow] at q2
    simp only [g, q1, q2, RR]
    refine new_frz rfl rfl rfl (one2 rfl hbH.av1) ?_
    refine bsl0 ?_
    refine bsl0 ?_
    have l1 : ∀ τ, lod (.rop [iv b.args, b.av] 1) τ = some b.av := fun _ => rfl
    have hlb := buf_len hbH.1
    rw [show (b.its.map fun p => encOpA p.1 p.2).length = b.its.length by simp] at hlb
    simp only [l1, hlb, RR]
    have hitl : ∀ ψ, ψ ∈ itsF b.its → τ ψ ≠ none := fun ψ hψ => live_ne (hbH.2.live hψ)
    have hitf : ∀ ψ, ψ ∈ itsF b.its → σ1 ψ = none := fun ψ hψ => hN.fr ψ (by
      refine List.mem_append_right _ (List.mem_flatMap.2 ⟨b, by simp, List.mem_append_right _ hψ⟩))
    have hitn : (itsF b.its).Nodup := by
      have := hN.nd
      have e : blksF v (BA ++ b :: BC) = famL v ++ (bsF BA ++ ((famL b.av ++ itsF b.its) ++ bsF BC)) := by
        have : bsF (BA ++ b :: BC) = bsF BA ++ ((famL b.av ++ itsF b.its) ++ bsF BC) := by rw [bsF_app, bsF_cons]; rfl
        rw [← this]; rfl
      rw [e] at this
      exact (nodup_app.1 (nodup_app.1 (nodup_app.1 (nodup_app.1 this).2.1).2.1).1).2.1
    refine lp_rel b.its.length (fun j x τ' => ∃ w u, x = (.ptr φ2 0 0 0, v, iv (i : Int), w, u, v, iv (bs.length : Int), iv (i : Int), b.av, iv (b.its.length : Int), iv (j : Int), ()) ∧ NewO σ1 τ' w ((b.its.take j).flatMap splitP) ∧ Buf τ' 1 u (ivs (plcN bs[i].ops j)) ∧
        AH.Sub τ τ' ∧ (∀ ψ, ψ ∈ famL w → τ ψ = none) ∧ (∀ ψ, ψ ∈ famL u → τ ψ = none) ∧ ∀ ψ, ψ ∈ famL w → ψ ∉ famL u) ⟨.emp, .emp, rfl, .emp hN.sub, .inl ⟨.inr rfl, rfl⟩, .refl τ, (fun ψ c => by cases c), (fun ψ c => by cases c), fun ψ c => by cases c⟩ ?_
    rintro j _ τ1 hj ⟨w, u, rfl, hO, hU, hsub, hwf, huf, hwu⟩ R2 hR2
    have hWl : ((b.its.take j).flatMap splitP).length = ((bs[i].ops.take j).flatMap splitO).length := by
      have := congrArg List.length (splits_fst (b.its.take j))
      rw [List.map_take, hbo, List.length_map] at this
      exact this
    have hlw := buf_len hO.own.1
    rw [List.length_map, hWl] at hlw
    have hspl : ((bs[i].ops.take j).flatMap splitO).length ≤ 400 := by
      have := splits_len (bs[i].ops.take j)
      rw [List.length_take] at this
      omega
    by_cases hlt2 : j < b.its.length
    · have g2 : (j : Int) < (b.its.length : Int) := by omega
      have hbH1 : OpsH τ1 b.av b.its := (Kp.of_sub (F := []) hsub).ops hbH fun _ _ c => by cases c
      have hrow2 : ((b.its.map fun p => encOpA p.1 p.2)[j]'(by simpa using hlt2)) = encIt b.its[j] := by simp
      obtain ⟨pt2, q3, q4⟩ := buf_at (i := j) hbH1.1 (by simpa using hlt2) (by rw [hrow2]; rfl)
      rw [hrow2] at q4
      have hp1 : b.its[j].2.one = true := (hbH1.2 _ (List.getElem_mem hlt2)).av1
      simp only [g2, q3, q4, RR]
      refine new_frz rfl rfl rfl (one7 hp1) ?_
      simp only [hlw, RR]
      refine buf_push (row := [iv (((bs[i].ops.take j).flatMap splitO).length : Int)]) hU rfl rfl (fun y hy => by rw [List.mem_singleton.1 hy]; rfl) (by omega) (by simp [plcN_len]; omega) fun u' τ2 hU2 hK2 hf2 => ?_
      have e7 : ∀ τ, lodA 7 (.rop (encIt b.its[j]) 0) τ = some (.agg (encIt b.its[j])) := fun _ => rfl
      simp only [e7, RR]
      have hsub2 : AH.Sub τ τ2 := hK2.sub hsub huf
      have hO2 : NewO σ1 τ2 w ((b.its.take j).flatMap splitP) := hO.kp hK2 (fun ψ hψ c => by
        rcases List.mem_append.1 hψ with d | d
        · exact hwu ψ d c
        · have hm : ψ ∈ itsF b.its := ((splits_fam _).trans (itsF_take b.its j)).subset d
          exact hitl ψ hm (huf ψ c)) fun ψ hψ => hN.sub.none (huf ψ hψ)
      have hD2 : Buf τ2 4 b.its[j].2 (b.its[j].1.data.map encDat) := (Kp.of_sub (F := []) hsub2).buf (hbH.2 _ (List.getElem_mem hlt2)) fun _ _ c => by cases c
      refine c_impl_Op_apart hD2 fun χ hχ => ?_
      have hs3 : AH.Sub τ2 (τ2.set χ ⟨0, 7, (splitP b.its[j]).map encIt⟩) := .set (.refl τ2) _ hχ
      have hpf : ∀ ψ, ψ ∈ itsF (splitP b.its[j]) → ψ ∈ itsF b.its := fun ψ hψ => List.mem_flatMap.2 ⟨_, List.getElem_mem hlt2, (splitP_fam _).subset hψ⟩
      have hel : aelems (τ2.set χ ⟨0, 7, (splitP b.its[j]).map encIt⟩) (.own χ 0 0 (splitP b.its[j]).length) = some ((splitP b.its[j]).map encIt) := by
        have := ael_n (τ := τ2) (ψ := χ) (sz := 7) (es := (splitP b.its[j]).map encIt)
        rwa [List.length_map] at this
      have etk : (b.its.take (j + 1)).flatMap splitP = (b.its.take j).flatMap splitP ++ splitP b.its[j] := by
        rw [List.take_succ_eq_append_getElem hlt2, List.flatMap_append]; simp
      simp only [RR]
      refine (hO2.grow hs3).app (qs := splitP b.its[j]) hel (splitP_own ((Kp.of_sub (F := []) hs3).buf hD2 fun _ _ c => by cases c)) ?_ (fun ψ hψ c => hitl ψ (hpf ψ hψ) (hwf ψ c)) (fun ψ hψ => hitf ψ (hpf ψ hψ)) (splitP_one hp1) ?_ fun w' τ4 hO4 hK4 hf4 => ?_
      · rw [← itsF_append, ← etk]
        exact hitn.sublist ((splits_fam _).trans (itsF_take b.its _))
      · rw [hWl]
        have : (splitP b.its[j]).length ≤ 2 := by have := congrArg List.length (splitP_fst b.its[j]); rw [List.length_map] at this; rw [this]; exact (splitO_len _).2
        omega
      simp only [ibin_up hlt2 (by omega), RR]
      have hK24 : Kp (famL w) τ2 τ4 := fun ψ h1 h2 => by
        have hne : ψ ≠ χ := by rintro rfl; exact h2 hχ
        have e : (τ2.set χ ⟨0, 7, (splitP b.its[j]).map encIt⟩) ψ = τ2 ψ := AH.set_ne' hne
        rw [hK4 ψ h1 (by rw [e]; exact h2), e]
      have hu'w : ∀ ψ, ψ ∈ famL u' → ψ ∉ famL w := fun ψ h1 h2 => by
        rcases hf2 ψ h1 with d | d
        · exact hwu ψ h2 d
        · exact live_ne (buf_live hO.own.1 h2) d
      have hu'l : ∀ ψ, ψ ∈ famL u' → τ2 ψ ≠ none := fun ψ h1 => live_ne (buf_live hU2 h1)
      refine hR2 _ _ _ hlt2 (.refl _) ⟨w', u', rfl, by rw [etk]; exact hO4, ?_, hK24.sub hsub2 hwf, fun ψ hψ => ?_, fun ψ hψ => ?_, fun ψ h1 h2 => ?_⟩
      · have := hK24.buf hU2 hu'w
        rw [plcN_succ, ivs, List.map_append]
        exact this
      · rcases hf4 ψ hψ with d | d
        · exact hwf ψ d
        · exact hsub2.none (hs3.none d)
      · rcases hf2 ψ hψ with d | d
        · exact huf ψ d
        · exact hsub.none d
      · rcases hf4 ψ h1 with d | d
        · exact hu'w ψ h2 d
        · exact hu'l ψ h2 (hs3.none d)
    · have g2 : ¬ (j : Int) < (b.its.length : Int) := by omega
      obtain rfl : j = b.its.length := by omega
      rw [List.take_length] at hO
      rw [hbl] at hlw hU
      rw [List.take_length] at hlw
      simp only [g2, hlw, RR]
      by_cases c200 : (200 : Int) < (unfL bs[i].ops : Int)
      · have c200' : (200 : Int) < (((bs[i].ops.flatMap splitO).length : Nat) : Int) := c200
        have e2 : ∃ b, b ∈ bs ∧ 200 < unfL b.ops := ⟨bs[i], List.getElem_mem hlt, by omega⟩
        rw [if_pos e2] at h0
        have b2 : bld [(.val (.int .i64 0)), (.val (.slice none 0 0))] [(0, 1), (1, 1)] [(0, (.val (.int .i64 2)))] = some (.agg [iv 2, nilS]) := rfl
        simp only [c200', b2, RR]
        refine fin_cr (hsub _ _ (hN.sub _ _ hF1)) rfl rfl (one2 rfl rfl) (aret_sub ?_ (h0 (by simp)))
        exact fun ψ F hF => by
          have hne : ψ ≠ φ2 := by rintro rfl; rw [hφ2] at hF; cases hF
          rw [AH.set_ne' hne]
          exact hsub _ _ (hN.sub _ _ (hs1 _ _ hF))
      · have c200' : ¬ (200 : Int) < (((bs[i].ops.flatMap splitO).length : Nat) : Int) := c200
        simp only [c200', RR]
        have hWs : ((b.its.flatMap splitP).map (·.1)) = bs[i].ops.flatMap splitO := by rw [splits_fst, hbo]
        refine c_impl_moved hO.own.1 hU hwu (fun p hpm => ?_) (by have := congrArg List.length hWs; rw [List.length_map] at this; have := splits_len bs[i].ops; omega) fun τ4 hB4 hK4 => ?_
        · have hm : p.1 ∈ bs[i].ops.flatMap splitO := by rw [← hWs]; exact List.mem_map.2 ⟨p, hpm, rfl⟩
          obtain ⟨o, ho, hq⟩ := List.mem_flatMap.1 hm
          have := split_ok (n := bs[i].ops.length) (hsmb o ho) (hok.tgt o ho) hq
          rw [plcN_len]
          exact this
        obtain ⟨_, _, hn3⟩ := nodup_app.1 hO.nd
        have hI4 : ItsH τ4 ((b.its.flatMap splitP).map (turnP (plcN bs[i].ops bs[i].ops.length))) := turnP_own (hO.own.2.keep fun ψ hψ => hK4 ψ fun c => hn3 ψ c hψ)
        obtain ⟨φ, st, hv, _, _, ix, hst⟩ := NewB.repl (τ := τ4) (w := w) (W := (b.its.flatMap splitP).map (turnP (plcN bs[i].ops bs[i].ops.length))) hN ⟨hB4, hI4⟩ (by rw [turnP_fam]; exact splits_fam _) hwf (fun ψ h1 h2 => by
          rw [hK4 ψ h1]
          cases e : τ ψ with
          | none => exact absurd e h2
          | some F => exact hsub _ _ e) hO.own.av1
        rw [hAl] at ix hst
        simp only [ix, RR]
        refine hst _ fun τ5 hN5 => ?_
        simp only [ibin_up hlt (by omega), RR]
        refine hR' _ _ _ hlt (.refl _) ⟨_, rfl, ?_, hN5, ?_⟩
        · have : cont (BA ++ ⟨b.args, w, (b.its.flatMap splitP).map (turnP (plcN bs[i].ops bs[i].ops.length))⟩ :: BC) = cont BA ++ ⟨b.args, ((b.its.flatMap splitP).map (turnP (plcN bs[i].ops bs[i].ops.length))).map (·.1)⟩ :: cont BC := by simp [cont]
          rw [this, hcA, hcC, turnP_fst, hWs, hba, List.take_succ_eq_append_getElem hlt, List.map_append, List.append_assoc]
          try rfl
        · intro q hq
          rw [List.take_succ_eq_append_getElem hlt] at hq
          rcases List.mem_append.1 hq with d | d
          · exact hsm q d
          · obtain rfl : q = bs[i] := by simpa using d
            omega
  · have g : ¬ (i : Int) < (bs.length : Int) := by omega
    obtain rfl : i = bs.length := by omega
    rw [List.take_length] at hcB hsm
    rw [List.drop_length, List.append_nil] at hcB
    have e2 : ¬ ∃ b, b ∈ bs ∧ 200 < unfL b.ops := by rintro ⟨b, hm, h2⟩; have := hsm b hm; omega
    rw [if_neg e2] at h1
    have eb := bld_b hN.own.1
    simp only [g, eb, RR]
    have hφB : φ2 ∉ blksF v B := fun c => by have := hN.fr φ2 c; rw [hF1] at this; cases this
    refine fin_cr (hN.sub _ _ hF1) rfl rfl (one2 rfl hN.one) (ret_here (h1 rfl v B _ hcB ⟨hN.own.keep fun ψ hψ => AH.set_ne' (by rintro rfl; exact hφB hψ), hN.nd, fun ψ hψ => hs1.none (hN.fr ψ hψ), fun ψ F hF => ?_⟩))
    have hne : ψ ≠ φ2 := by rintro rfl; rw [hφ2] at hF; cases hF
    rw [AH.set_ne' hne]
    exact hN.sub _ _ (hs1 _ _ hF)
end Go.Proofs.YtlggnigbemghgaaGreatDoor.E
