/- The reference's faults of code. -/
import Derived.Test.YtlggnigbemghgaaGreatDoorP16
set_option linter.unusedSectionVars false
set_option linter.unusedSimpArgs false
set_option linter.unusedVariables false
namespace Go.Proofs.YtlggnigbemghgaaGreatDoor.E
open Go Go.RowKit
variable [L : Lam]
variable {σ τ : AH} {R : AEnd → AH → Prop}
theorem c_spec_l10Locals {bs : List Blk} {up : List Int} {i : Nat} (hu : Ups bs up) (hi : i < bs.length) (hl : bs.length ≤ 60) (hsm : smB bs[i].ops) (hbl : bs[i].ops.length ≤ 200) (h : R (.ret (iv (blkLocF bs up i))) σ) : acall TP fn_spec_l10Locals [roBk bs, .ro (ivs up), iv (i : Int)] σ R := by
  refine s_spec_l10Locals_ok ?_
  unfold s_spec_l10Locals
  have eb : bs.getD i default = bs[i] := (blk_at hi).symm
  unfold blkLocF at h
  rw [eb] at h
  refine lp_first (n := bs[i].ops.length) (st := fun j => (roBk bs, AV.ro (ivs up), iv (i : Int), iv (j : Int), ())) (f := fun j => opLocF bs up i (opA bs[i].ops j)) ?_ ?_ h
  · intro j k hj h0 h1
    have g : (j : Int) < (bs[i].ops.length : Int) := by omega
    have hso := hsm _ (List.getElem_mem hj)
    have eo : opA bs[i].ops j = bs[i].ops[j] := (op_at hj).symm
    simp only [eo] at h0 h1
    have hsl := locs_sm hso
    simp only [idx_ro hi len_encBlk, RR, RT, len_ro, g, idx_ro hj len_encOp]
    refine jn_of (fun x τ => τ = σ ∧ x = (roBk bs, AV.ro (ivs up), iv (i : Int), iv (j : Int), bv ((locsN bs[i].ops[j]).all fun l => locB bs up i l.1 l.2), ()) ∧ ¬ (bs[i].ops[j].kind = 9 ∧ 0 < i)) ?_ ?_
    · rintro _ _ ⟨rfl, rfl, hn⟩
      have eF : opLocF bs up i bs[i].ops[j] = if (locsN bs[i].ops[j]).all (fun l => locB bs up i l.1 l.2) = true then 0 else 3 := by unfold opLocF; rw [if_neg hn]
      cases hB : (locsN bs[i].ops[j]).all fun l => locB bs up i l.1 l.2
      · rw [hB] at eF
        simp only [RR]
        have := h1 (by rw [eF]; decide)
        rw [eF] at this
        exact ret_here this
      · rw [hB] at eF
        simp only [ibin_up hj (by omega), RR]
        exact h0 eF
    intro k2 hk2
    simp only [RR, RT, jn]
    have one : ∀ (hk : bs[i].ops[j].kind = 2 ∨ bs[i].ops[j].kind = 14 ∨ bs[i].ops[j].kind = 16), k2 (roBk bs, AV.ro (ivs up), iv (i : Int), iv (j : Int), bv (locB bs up i bs[i].ops[j].a bs[i].ops[j].b), ()) σ := by
      intro hk
      refine hk2 _ _ ⟨rfl, ?_, by omega⟩
      unfold locsN
      rw [if_pos hk]
      simp
      rfl
    by_cases c1 : bs[i].ops[j].kind = 2
    · simp only [c1, RR, RT]
      refine c_spec_l10Local hu (by omega) (by omega) hso.1 hso.2.1 ?_
      exact ⟨trivial, one (.inl c1)⟩
    by_cases c2 : bs[i].ops[j].kind = 14
    · simp only [c2, RR, RT]
      refine c_spec_l10Local hu (by omega) (by omega) hso.1 hso.2.1 ?_
      exact ⟨trivial, one (.inr (.inl c2))⟩
    by_cases c3 : bs[i].ops[j].kind = 16
    · simp only [c3, RR, RT]
      refine c_spec_l10Local hu (by omega) (by omega) hso.1 hso.2.1 ?_
      exact ⟨trivial, one (.inr (.inr c3))⟩
    by_cases c4 : bs[i].ops[j].kind = 15
    · simp only [c4, RR, RT]
      refine c_spec_l10Local hu (by omega) (by omega) hso.1 hso.2.1 ?_
      refine ⟨trivial, ?_⟩
      have e2 : (locsN bs[i].ops[j]).all (fun l => locB bs up i l.1 l.2) = (locB bs up i bs[i].ops[j].a bs[i].ops[j].b && locB bs up i bs[i].ops[j].c bs[i].ops[j].d) := by
        unfold locsN
        rw [if_neg (by omega), if_pos c4]
        simp
      rw [e2] at hk2
      cases hB : locB bs up i bs[i].ops[j].a bs[i].ops[j].b
      · rw [hB] at hk2
        simp only [RR]
        exact hk2 _ _ ⟨rfl, rfl, by omega⟩
      · rw [hB] at hk2
        simp only [RR, RT]
        refine c_spec_l10Local hu (by omega) (by omega) hso.2.2.2.2.1 hso.2.2.2.2.2.1 ?_
        exact ⟨trivial, hk2 _ _ ⟨rfl, rfl, by omega⟩⟩
    have e0 : locsN bs[i].ops[j] = [] := by unfold locsN; rw [if_neg (by omega), if_neg c4]
    by_cases c5 : bs[i].ops[j].kind = 9
    · by_cases ci : (0 : Int) < (i : Int)
      · simp only [c5, ci, RR]
        have eF : opLocF bs up i bs[i].ops[j] = 1 := by unfold opLocF; rw [e0, if_pos (show ([] : List (Int × Int)).all (fun l => locB bs up i l.1 l.2) = true from rfl), if_pos ⟨c5, by omega⟩]
        have := h1 (by rw [eF]; decide)
        rw [eF] at this
        exact ret_here this
      · simp only [c5, ci, RR]
        exact hk2 _ _ ⟨rfl, by rw [e0]; rfl, by omega⟩
    · simp only [c1, c2, c3, c4, c5, RR]
      exact hk2 _ _ ⟨rfl, by rw [e0]; rfl, fun h => c5 h.1⟩
  · intro k h0
    have g : ¬ (bs[i].ops.length : Int) < (bs[i].ops.length : Int) := by omega
    simp only [idx_ro hi len_encBlk, RR, RT, len_ro, g]
    rw [h0] at h
    exact ret_here h
theorem c_spec_l10Fault {bs : List Blk} (hs : sC bs) (hbad : codeF bs ≠ 0 → R (.ret (.tup [nilS, iv (codeF bs)])) σ) (hok : codeF bs = 0 → ∀ up, Pre bs → (∀ b, b ∈ bs → hts b.ops ≠ none) → arndM bs = some up → R (.ret (.tup [.ro (ivs up), iv 0])) σ) :
    acall TP fn_spec_l10Fault [roBk bs] σ R := by
  refine s_spec_l10Fault_ok ?_
  unfold s_spec_l10Fault
  refine c_spec_l9Fault hs ?_
  by_cases c0 : opsF bs = 0
  case neg =>
    rw [codeF_ops c0] at hbad
    simp only [c0, RR]
    exact ret_here (hbad c0)
  simp only [c0, RR, len_ro]
  refine pre_cases c0 (fun h1 => ?_) (fun hp => ?_)
  · rw [codeF_first c0 h1] at hbad
    exact ret_here (hbad (by decide))
  have hl := hp.len
  refine c_spec_l10Around hp.ne hl hs (opsF_blk c0) (fun hn => ?_) (fun hall up hu => ?_)
  · have e : codeF bs = 1 := by
      rcases hn with hn | hn
      · exact codeF_hts hp hn
      · exact codeF_arn hp hn
    rw [e] at hbad
    simp only [aext0, aext1, RR]
    exact ret_here (hbad (by decide))
  have hups := ups_of hu
  have e := codeF_loc hp hall hu
  simp only [aext0, aext1, RR]
  refine lp_zero (n := bs.length) (st := fun i => (roBk bs, AV.ro (ivs up), iv (i : Int), ())) (f := blkLocF bs up) ?_ ?_
  · intro i k hi hz hk
    have g : (i : Int) < (bs.length : Int) := by omega
    obtain ⟨hsm, hbl⟩ := hp.sm _ (List.getElem_mem hi)
    simp only [len_ro, g, RR]
    refine c_spec_l10Locals hups hi hl hsm hbl ?_
    by_cases c : blkLocF bs up i = 0
    · simp only [c, ibin_up hi (by omega), RR]
      exact hk c
    · simp only [c, RR]
      have e2 : codeF bs = blkLocF bs up i := by
        rw [e]
        unfold locF
        rw [firstF_is hi c hz]
      rw [e2] at hbad
      exact ret_here (hbad c)
  · intro k hz
    have g : ¬ (bs.length : Int) < (bs.length : Int) := by omega
    simp only [len_ro, g, RR]
    have e2 : codeF bs = 0 := by
      rw [e]
      exact firstF_no hz
    exact ret_here (hok e2 up hp hall hu)
theorem codeF_pre {bs : List Blk} (h : codeF bs = 0) : Pre bs ∧ (∀ b, b ∈ bs → hts b.ops ≠ none) ∧ ∃ up, arndM bs = some up := by
  have h0 : opsF bs = 0 := by
    by_cases c : opsF bs = 0
    · exact c
    · rw [codeF_ops c] at h; exact h
  have h1 : ¬ (bs = [] ∨ (bs.getD 0 default).args ≠ 0) := fun c => by rw [codeF_first h0 c] at h; cases h
  have hp : Pre bs := ⟨h0, fun c => h1 (.inl c), Classical.byContradiction fun c => h1 (.inr c)⟩
  refine ⟨hp, fun b hb c => ?_, ?_⟩
  · rw [codeF_hts hp ⟨b, hb, c⟩] at h; cases h
  · cases c : arndM bs with
    | none => rw [codeF_arn hp c] at h; cases h
    | some up => exact ⟨up, rfl⟩
end Go.Proofs.YtlggnigbemghgaaGreatDoor.E
