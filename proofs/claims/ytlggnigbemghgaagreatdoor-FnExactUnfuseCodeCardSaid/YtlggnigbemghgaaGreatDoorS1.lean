/- Code that is copied and taken apart: the reference's way. -/
import Derived.Test.YtlggnigbemghgaaGreatDoorO9
set_option linter.unusedSectionVars false
set_option linter.unusedSimpArgs false
set_option linter.unusedVariables false
namespace Go.Proofs.YtlggnigbemghgaaGreatDoor.E
open Go Go.RowKit
set_option maxRecDepth 100000
variable [L : Lam]
variable {σ τ τ' : AH} {R : AEnd → AH → Prop}
set_option maxHeartbeats 1000000 in
theorem c_spec_l9Copy {bs : List Blk} (hl : bs.length ≤ 1048576) (hb : ∀ b, b ∈ bs → b.ops.length ≤ 1048576 ∧ ∀ o, o ∈ b.ops → o.data.length ≤ 1048576) (h : ∀ v B τ, cont B = bs → NewB σ τ v B → R (.ret v) τ) : acall TP fn_spec_l9Copy [roBk bs] σ R := by
  refine s_spec_l9Copy_ok ?_
  unfold s_spec_l9Copy
  refine bsl0 ?_
  refine lp_rel bs.length (fun i x τ => ∃ v B, x = (roBk bs, v, iv (i : Int), ()) ∧ cont B = bs.take i ∧ NewB σ τ v B) ⟨.emp, [], rfl, rfl, .emp (.refl σ)⟩ ?_
  rintro i _ τ hi ⟨v, B, rfl, hcB, hN⟩ R' hR'
  simp only [len_ro, RR]
  by_cases hlt : i < bs.length
  · have g : (i : Int) < (bs.length : Int) := by omega
    obtain ⟨hol, hod⟩ := hb _ (List.getElem_mem hlt)
    have eb : bld [(.val (.int .i64 0)), (.val (.slice none 0 0))] [(0, 1), (1, 1)] [(0, iv bs[i].args)] = some (.agg [iv bs[i].args, nilS]) := rfl
    simp only [g, idx_ro hlt len_encBlk, eb, RR, RT]
    intro φ hφ
    refine sto_own (es := [[iv 0, nilS]]) (cs := [iv bs[i].args, nilS]) (by rw [AH.set_same]; rfl) (by simp) rfl rfl rfl (one2 rfl rfl) ?_
    simp only [List.set_cons_zero, AH.set_set]
    refine lp_rel bs[i].ops.length (fun j x τ' => ∃ w its, x = (roBk bs, v, iv (i : Int), .ptr φ 0 0 0, iv (j : Int), ()) ∧ its.map (·.1) = bs[i].ops.take j ∧ NewO τ τ' w its ∧ τ' φ = some ⟨0, 2, [[iv bs[i].args, w]]⟩ ∧ φ ∉ opsF' w its)
      ⟨nilS, [], rfl, rfl, ⟨⟨nil_buf, fun p hp => by cases hp⟩, .nil, (fun ψ c => by cases c), .set (.refl τ) _ hφ⟩, AH.set_same .., fun c => by cases c⟩ ?_
    rintro j _ τ1 hj ⟨w, its, rfl, hits, hO, hF, hφo⟩ R2 hR2
    have hil : its.length = j := by have := congrArg List.length hits; simpa [Nat.min_eq_left hj] using this
    simp only [idx_ro hlt len_encBlk, len_ro, RR, RT]
    by_cases hlt2 : j < bs[i].ops.length
    · have g2 : (j : Int) < (bs[i].ops.length : Int) := by omega
      have hdl := hod _ (List.getElem_mem hlt2)
      simp only [g2, idx_ro hlt2 len_encOp, lodA_all (len_encOp _), RR]
      intro χ hχ
      refine sto_own (es := [[iv 0, iv 0, iv 0, iv 0, iv 0, str ⟨#[]⟩, nilS]]) (cs := encOp bs[i].ops[j]) (by rw [AH.set_same]; rfl) (by simp) rfl rfl rfl (one_encOp _) ?_
      simp only [List.set_cons_zero, AH.set_set]
      refine bsl0 ?_
      have el : lod (.ptr χ 0 0 6) (τ1.set χ ⟨0, 7, [encOp bs[i].ops[j]]⟩) = some (roD bs[i].ops[j].data) := lod_at (AH.set_same ..) rfl rfl
      simp only [el, RR]
      refine buf_app (es := []) (xs := bs[i].ops[j].data.map encDat) (.inl ⟨.inr rfl, rfl⟩) rfl (by intro c hc; obtain ⟨x, _, rfl⟩ := List.mem_map.1 hc; rfl) (by intro c hc y hy; obtain ⟨x, _, rfl⟩ := List.mem_map.1 hc; exact one_encDat x y hy) (by simp; omega) fun a τ2 hA hAk hAf => ?_
      rw [List.nil_append] at hA
      have hAs : AH.Sub (τ1.set χ ⟨0, 7, [encOp bs[i].ops[j]]⟩) τ2 := hAk.sub (.refl _) fun ψ c => by cases c
      have hAf : ∀ ψ, ψ ∈ famL a → (τ1.set χ ⟨0, 7, [encOp bs[i].ops[j]]⟩) ψ = none := fun ψ hψ => (hAf ψ hψ).elim (fun c => by cases c) id
      have hF2 : τ2 χ = some ⟨0, 7, [encOp bs[i].ops[j]]⟩ := hAs _ _ (AH.set_same ..)
      refine sto_fld hF2 rfl (by decide) (acells_one hA.av1) hA.av1 ?_
      have hφa : χ ∉ famL a := fun c => by have := hAf χ c; rw [AH.set_same] at this; cases this
      refine ⟨.rop (encOpA bs[i].ops[j] a) 0, (τ2.set χ ⟨0, 7, [encOpA bs[i].ops[j] a]⟩).del χ, .del _ _, .ptr (AH.set_same ..) (AH.del_same ..) rfl (by simp) rfl rfl (fun j hj => .same _), ?_⟩
      generalize hτ3 : (τ2.set χ ⟨0, 7, [encOpA bs[i].ops[j] a]⟩).del χ = τ3
      have h3 : ∀ ψ, ψ ≠ χ → τ3 ψ = τ2 ψ := fun ψ hn => by rw [← hτ3, AH.del_ne _ hn, AH.set_ne' hn]
      have hs3 : AH.Sub τ1 τ3 := fun ψ F hF => by
        have hn : ψ ≠ χ := by rintro rfl; rw [hχ] at hF; cases hF
        rw [h3 ψ hn]
        exact hAs _ _ (by rw [AH.set_ne' hn]; exact hF)
      have hA3 : Buf τ3 4 a (bs[i].ops[j].data.map encDat) := buf_keep hA fun ψ hψ => h3 ψ (by rintro rfl; exact hφa hψ)
      have hAf1 : ∀ ψ, ψ ∈ famL a → τ1 ψ = none := fun ψ hψ => (AH.set_none.1 (hAf ψ hψ)).2
      have hF3 : τ3 φ = some ⟨0, 2, [[iv bs[i].args, w]]⟩ := hs3 _ _ hF
      have el2 : lod (.ptr φ 0 0 1) τ3 = some w := lod_at hF3 rfl rfl
      simp only [el2, lodA_all (cs := encOpA bs[i].ops[j] a) (n := 7) rfl, RR]
      refine (hO.grow hs3).push (p := (bs[i].ops[j], a)) rfl hA3 (fun ψ hψ c => ?_) (fun ψ hψ => hO.sub.none (hAf1 ψ hψ)) hA.av1 (by omega) fun w' τ4 hN4 hK4 hf4 => ?_
      · obtain ⟨F, e⟩ := hO.own.live c
        rw [hAf1 ψ hψ] at e; cases e
      have hφw : φ ∉ famL w := fun c => hφo (List.mem_append_left _ c)
      have hF4 : τ4 φ = some ⟨0, 2, [[iv bs[i].args, w]]⟩ := by rw [hK4 φ hφw (by rw [hF3]; simp)]; exact hF3
      have hφo4 : φ ∉ opsF' w' (its ++ [(bs[i].ops[j], a)]) := by
        intro c
        rcases List.mem_append.1 c with c | c
        · rcases hf4 φ c with d | d
          · exact hφw d
          · rw [hF3] at d; cases d
        · rw [itsF_append] at c
          rcases List.mem_append.1 c with c | c
          · exact hφo (List.mem_append_right _ c)
          · have : φ ∈ famL a := by simpa [itsF] using c
            have := hAf1 φ this
            rw [hF] at this; cases this
      refine sto_fld hF4 rfl (by decide) (acells_one hN4.one) hN4.one ?_
      simp only [ibin_up hlt2 (by omega), RR]
      have hkp : Kp [φ] τ4 (τ4.set φ ⟨0, 2, [[iv bs[i].args, w]].set 0 ([iv bs[i].args, w].set 1 w')⟩) := fun ψ hψ _ => AH.set_ne' (by rintro rfl; exact hψ (by simp))
      exact hR2 _ _ _ hlt2 (.refl _) ⟨w', its ++ [(bs[i].ops[j], a)], rfl, by rw [List.take_succ_eq_append_getElem hlt2, List.map_append, hits]; rfl,
        hN4.kp hkp (fun ψ hψ c => hφo4 (by obtain rfl : ψ = φ := by simpa using c
                                           exact hψ)) (fun ψ hψ => by obtain rfl : ψ = φ := by simpa using hψ
                                                                      exact hφ), AH.set_same .., hφo4⟩
    · have g2 : ¬ (j : Int) < (bs[i].ops.length : Int) := by omega
      obtain rfl : j = bs[i].ops.length := by omega
      rw [List.take_length] at hits
      have el3 : lodA 2 (.ptr φ 0 0 0) τ1 = some (.agg [iv bs[i].args, w]) := lodA_at hF rfl rfl rfl
      simp only [g2, el3, RR]
      have hN1 := hN.grow hO.sub
      refine hN1.push (its := its) rfl hO.own hO.nd (fun ψ hψ c => ?_) (fun ψ hψ => hN.sub.none (hO.fr ψ hψ)) hO.one ?_ fun v' τ4 hN4 => ?_
      · obtain ⟨F, e⟩ := hN.own.live c
        rw [hO.fr ψ hψ] at e; cases e
      · have := congrArg List.length hcB
        simp [cont] at this
        omega
      simp only [ibin_up hlt (by omega), RR]
      refine hR' _ _ _ hlt (.refl _) ⟨v', B ++ [⟨bs[i].args, w, its⟩], rfl, ?_, hN4⟩
      rw [List.take_succ_eq_append_getElem hlt, cont, List.map_append, ← cont, hcB]
      simp only [List.map_cons, List.map_nil, hits]
  · have g : ¬ (i : Int) < (bs.length : Int) := by omega
    obtain rfl : i = bs.length := by omega
    rw [List.take_length] at hcB
    simp only [g, RR]
    exact ret_here (h v B τ hcB hN)
end Go.Proofs.YtlggnigbemghgaaGreatDoor.E
