/- Code that is owned: the program's copy. -/
import Derived.Test.YtmmhaiidcfgbbaaGreatDoorO5
set_option linter.unusedSectionVars false
set_option linter.unusedSimpArgs false
set_option linter.unusedVariables false
namespace Go.Proofs.YtmmhaiidcfgbbaaGreatDoor.E
open Go Go.RowKit
set_option maxRecDepth 100000
variable [L : Lam]
variable {σ τ τ' : AH} {R : AEnd → AH → Prop}
theorem Buf.av1 {sz : Nat} {a : AV} {es : List (List AV)} (h : Buf τ sz a es) : a.one = true := by
  rcases h with ⟨rfl | rfl, _⟩ | ⟨φ, st, rfl, _⟩ <;> rfl
theorem bld_buf {n : Int} {w : AV} {sz : Nat} {es : List (List AV)} (h : Buf τ sz w es) : bld [(.val (.int .i64 0)), (.val (.slice none 0 0))] [(0, 1), (1, 1)] [(0, iv n), (1, w)] = some (.agg [iv n, w]) := by
  rcases h with ⟨rfl | rfl, _⟩ | ⟨φ, st, rfl, _⟩ <;> rfl
theorem one7 {o : OpD} {a : AV} (h : a.one = true) : ∀ y, y ∈ encOpA o a → y.one = true := by
  intro y hy
  simp only [encOpA, List.mem_cons, List.not_mem_nil, or_false] at hy
  rcases hy with rfl | rfl | rfl | rfl | rfl | rfl | rfl <;> first | rfl | exact h
theorem NewB.trans {v : AV} {B : List BI} {σ0 : AH} (h : NewB σ τ v B) (hs : AH.Sub σ0 σ) : NewB σ0 τ v B := ⟨h.own, h.nd, fun ψ hψ => hs.none (h.fr ψ hψ), hs.trans h.sub⟩
set_option maxHeartbeats 1000000 in
theorem c_impl_copiedCode {bs : List Blk} (hl : bs.length ≤ 1048576) (hb : ∀ b, b ∈ bs → b.ops.length ≤ 1048576 ∧ ∀ o, o ∈ b.ops → o.data.length ≤ 1048576) (h : ∀ v B τ, cont B = bs → NewB σ τ v B → R (.ret v) τ) : acall TP fn_impl_copiedCode [roBk bs] σ R := by
  refine s_impl_copiedCode_ok ?_
  unfold s_impl_copiedCode
  refine bsl0 ?_
  simp only [len_ro, RR]
  refine lp_rel bs.length (fun i x τ => ∃ v B, x = (v, roBk bs, iv (bs.length : Int), iv (i : Int), ()) ∧ cont B = bs.take i ∧ NewB σ τ v B) ⟨.emp, [], rfl, rfl, .emp (.refl σ)⟩ ?_
  rintro i _ τ hi ⟨v, B, rfl, hcB, hN⟩ R' hR'
  by_cases hlt : i < bs.length
  · have g : (i : Int) < (bs.length : Int) := by omega
    obtain ⟨hol, hod⟩ := hb _ (List.getElem_mem hlt)
    simp only [g, idx_ro hlt len_encBlk, lodA_all (len_encBlk _), RR]
    refine new_encBlk rfl ?_
    refine bsl0 ?_
    simp only [RR, RT, len_ro]
    refine lp_rel bs[i].ops.length (fun j x τ' => ∃ w its, x = (v, .rop (encBlk bs[i]) 0, w, roBk bs, iv (bs.length : Int), iv (i : Int), roO bs[i].ops, iv (bs[i].ops.length : Int), iv (j : Int), ()) ∧ its.map (·.1) = bs[i].ops.take j ∧ NewO τ τ' w its) ⟨.emp, [], rfl, rfl, .emp (.refl τ)⟩ ?_
    rintro j _ τ1 hj ⟨w, its, rfl, hits, hO⟩ R2 hR2
    have hil : its.length = j := by have := congrArg List.length hits; simpa [Nat.min_eq_left hj] using this
    by_cases hlt2 : j < bs[i].ops.length
    · have g2 : (j : Int) < (bs[i].ops.length : Int) := by omega
      have hdl := hod _ (List.getElem_mem hlt2)
      simp only [g2, idx_ro hlt2 len_encOp, lodA_all (len_encOp _), RR]
      intro φ hφ
      refine sto_own (es := [[iv 0, iv 0, iv 0, iv 0, iv 0, str ⟨#[]⟩, nilS]]) (cs := encOp bs[i].ops[j]) (by rw [AH.set_same]; rfl) (by simp) rfl rfl rfl (one_encOp _) ?_
      simp only [List.set_cons_zero, AH.set_set, RR]
      have el : lod (.ptr φ 0 0 6) (τ1.set φ ⟨0, 7, [encOp bs[i].ops[j]]⟩) = some (roD bs[i].ops[j].data) := lod_at (AH.set_same ..) rfl rfl
      simp only [el, RR]
      refine c_slices_Clone (by omega) fun a τ2 hA hAf hAs => ?_
      simp only [RR]
      have hF2 : τ2 φ = some ⟨0, 7, [encOp bs[i].ops[j]]⟩ := hAs _ _ (AH.set_same ..)
      refine sto_fld hF2 rfl (by decide) (acells_one hA.av1) hA.av1 ?_
      have hφa : φ ∉ famL a := fun c => by have := hAf φ c; rw [AH.set_same] at this; cases this
      refine ⟨.rop (encOpA bs[i].ops[j] a) 0, (τ2.set φ ⟨0, 7, [encOpA bs[i].ops[j] a]⟩).del φ, .del _ _, .ptr (AH.set_same ..) (AH.del_same ..) rfl (by simp) rfl rfl (fun j hj => .same _), ?_⟩
      generalize hτ3 : (τ2.set φ ⟨0, 7, [encOpA bs[i].ops[j] a]⟩).del φ = τ3
      have h3 : ∀ ψ, ψ ≠ φ → τ3 ψ = τ2 ψ := fun ψ hn => by rw [← hτ3, AH.del_ne _ hn, AH.set_ne' hn]
      have hs3 : AH.Sub τ1 τ3 := fun ψ F hF => by
        have hn : ψ ≠ φ := by rintro rfl; rw [hφ] at hF; cases hF
        rw [h3 ψ hn]
        exact hAs _ _ (by rw [AH.set_ne' hn]; exact hF)
      have hA3 : Buf τ3 4 a (bs[i].ops[j].data.map encDat) := buf_keep hA fun ψ hψ => h3 ψ (by rintro rfl; exact hφa hψ)
      have hAf1 : ∀ ψ, ψ ∈ famL a → τ1 ψ = none := fun ψ hψ => (AH.set_none.1 (hAf ψ hψ)).2
      simp only [lodA_all (cs := encOpA bs[i].ops[j] a) (n := 7) rfl, RR]
      refine (hO.grow hs3).push (p := (bs[i].ops[j], a)) rfl hA3 (fun ψ hψ c => ?_) (fun ψ hψ => hO.sub.none (hAf1 ψ hψ)) hA.av1 (by omega) fun w' τ4 hN4 hK4 _ => ?_
      · obtain ⟨F, e⟩ := hO.own.live c
        rw [hAf1 ψ hψ] at e; cases e
      simp only [ibin_up hlt2 (by omega), RR]
      exact hR2 _ _ _ hlt2 (.refl _) ⟨w', its ++ [(bs[i].ops[j], a)], rfl, by rw [List.take_succ_eq_append_getElem hlt2, List.map_append, hits]; rfl, hN4⟩
    · have g2 : ¬ (j : Int) < (bs[i].ops.length : Int) := by omega
      obtain rfl : j = bs[i].ops.length := by omega
      rw [List.take_length] at hits
      have eb := bld_buf (n := bs[i].args) hO.own.1
      simp only [g2, RR, RT, eb]
      have hN1 := hN.grow hO.sub
      refine hN1.push (its := its) rfl hO.own hO.nd (fun ψ hψ c => ?_) (fun ψ hψ => hN.sub.none (hO.fr ψ hψ)) hO.one ?_ fun v' τ4 hN4 => ?_
      · obtain ⟨F, e⟩ := hN.own.live c
        rw [hO.fr ψ hψ] at e; cases e
      · have := congrArg List.length hcB
        simp [cont] at this
        omega
      simp only [ibin_up hlt (by omega), RR]
      refine hR' _ _ _ hlt (.refl _) ⟨v', B ++ [⟨bs[i].args, w, its⟩], rfl, ?_, hN4⟩
      rw [List.take_succ_eq_append_getElem hlt, cont, List.map_append, ← cont, hcB]
      simp only [List.map_cons, List.map_nil, hits]
  · have g : ¬ (i : Int) < (bs.length : Int) := by omega
    obtain rfl : i = bs.length := by omega
    rw [List.take_length] at hcB
    simp only [g, RR]
    exact ret_here (h v B τ hcB hN)
end Go.Proofs.YtmmhaiidcfgbbaaGreatDoor.E
