/- The reference's heights, whole. -/
import Derived.Test.YtlggnigbemghgaaGreatDoorP12
set_option linter.unusedSectionVars false
set_option linter.unusedSimpArgs false
set_option linter.unusedVariables false
namespace Go.Proofs.YtlggnigbemghgaaGreatDoor.E
open Go Go.RowKit
variable [L : Lam]
variable {σ τ : AH} {R : AEnd → AH → Prop}
theorem blkF_sm {b : Blk} (h : blkF b = 0) : smB b.ops ∧ b.ops.length ≤ 200 := by
  unfold blkF at h
  split at h
  · cases h
  split at h
  · cases h
  refine ⟨fun o ho => ?_, by omega⟩
  obtain ⟨i, hi, rfl⟩ := List.getElem_of_mem ho
  have := firstF_zero _ _ h i (Nat.zero_le _) (by omega)
  rw [← op_at hi] at this
  exact opF_sm this
theorem opsF_blk {bs : List Blk} (h : opsF bs = 0) : ∀ b, b ∈ bs → blkF b = 0 := by
  unfold opsF at h
  split at h
  · cases h
  intro b hb
  obtain ⟨i, hi, rfl⟩ := List.getElem_of_mem hb
  have := firstF_zero _ _ h i (Nat.zero_le _) (by omega)
  rwa [← blk_at hi] at this
theorem c_spec_l10Heights_own {b : Blk} (hs : sB b) (hbad0 : blkF b ≠ 0 → R (.ret (.tup [nilS, iv (blkF b)])) σ) (hbad : blkF b = 0 → HBad b.ops → R (.ret (.tup [nilS, iv 1])) σ)
    (hok : blkF b = 0 → ∀ out φ st, HOk b.ops out → σ φ = none → R (.ret (.tup [.own φ st 0 out.length, iv 0])) (σ.set φ ⟨st, 1, ivs out⟩)) : acall TP fn_spec_l10Heights [.rop (encBlk b) 0] σ R := by
  refine s_spec_l10Heights_ok ?_
  unfold s_spec_l10Heights
  refine c_spec_l9Block hs ?_
  by_cases c0 : blkF b = 0
  case neg =>
    simp only [c0, RR]
    exact ret_here (hbad0 c0)
  obtain ⟨hsm, hl⟩ := blkF_sm c0
  simp only [c0, RR, RT, len_ro]
  by_cases c1 : b.ops.length = 0
  · have : ((b.ops.length : Int) = 0) := by omega
    simp only [this, RR]
    exact ret_here (hbad c0 (.inl c1))
  have c1' : ¬ ((b.ops.length : Int) = 0) := by omega
  simp only [c1', RR]
  refine lp_same b.ops.length (fun j => (AV.rop (encBlk b) 0, iv (j : Int), ())) (fun j => ∀ (i : Nat) (hi : i < b.ops.length), i < j → tgtN b.ops[i] < b.ops.length) rfl (fun i hi h => by omega) ?_
  intro j hj hH R' hR'
  simp only [RR, RT, len_ro]
  by_cases hlt : j < b.ops.length
  · have g : (j : Int) < (b.ops.length : Int) := by omega
    simp only [g, idx_ro hlt len_encOp, RR, RT, len_ro]
    refine c_spec_l9Target ?_
    simp only [RR, RT, eq_self, true_and, and_true]
    by_cases c2 : (b.ops.length : Int) ≤ tgtN b.ops[j]
    · simp only [c2, RR]
      exact ret_here (hbad c0 (.inr (.inl ⟨_, List.getElem_mem hlt, c2⟩)))
    · simp only [c2, ibin_up hlt (by omega), RR]
      refine hR' hlt (fun i hi h => ?_) _ (.refl _)
      rcases Nat.lt_or_ge i j with h1 | h1
      · exact hH i hi h1
      · obtain rfl : i = j := by omega
        omega
  have g : ¬ (j : Int) < (b.ops.length : Int) := by omega
  have htg : ∀ o, o ∈ b.ops → tgtN o < b.ops.length := by
    intro o ho
    obtain ⟨i, hi, rfl⟩ := List.getElem_of_mem ho
    exact hH i hi (by omega)
  simp only [g, RR]
  clear hR' R' hH
  refine bsl_one fun φ hφ => ?_
  refine lp_rel (b.ops.length - 1) (fun i x τ => ∃ a, x = (.rop (encBlk b) 0, a, iv ((i + 1 : Nat) : Int), ()) ∧ Gr σ τ a (0 :: List.replicate i (-1))) ⟨_, rfl, .inr ⟨φ, 0, hφ, rfl, rfl⟩⟩ ?_
  rintro i _ τ hi ⟨a, rfl, hG⟩ R' hR'
  simp only [RR, RT, len_ro]
  by_cases hlt2 : i < b.ops.length - 1
  · have g : ((i + 1 : Nat) : Int) < (b.ops.length : Int) := by omega
    simp only [g, RR]
    refine hG.push (by simp; omega) fun a' τ' τ'' hG' hsub => ?_
    simp only [ibin_up (i := i + 1) (n := b.ops.length) (by omega) (by omega), RR]
    exact hR' _ _ τ' hlt2 hsub ⟨a', rfl, by rw [List.replicate_succ', ← List.cons_append]; exact hG'⟩
  have g : ¬ ((i + 1 : Nat) : Int) < (b.ops.length : Int) := by omega
  obtain rfl : i = b.ops.length - 1 := by omega
  simp only [g, RR]
  clear hR' R'
  rcases hG with ⟨_, he, _⟩ | ⟨φ, st, hφ, rfl, rfl⟩
  · cases he
  have hn : (0 :: List.replicate (b.ops.length - 1) (-1 : Int)).length = b.ops.length := by simp; omega
  rw [hn]
  refine lp_by (fun k x τ => ∃ out, k ≤ b.ops.length ∧ negs out = k ∧ x = (.rop (encBlk b) 0, .own φ st 0 b.ops.length, ()) ∧ τ = σ.set φ ⟨st, 1, ivs out⟩ ∧ HInv b.ops out (fun _ => True) (400 * (b.ops.length - k))) (b.ops.length - 1)
    ⟨0 :: List.replicate (b.ops.length - 1) (-1), by omega, negs_init _, rfl, rfl, (HInv.init (P := fun _ => True) (by omega) trivial).weak (by omega) fun _ _ _ _ => .inl trivial⟩ ?_
  rintro k x τ ⟨out, hk, hng, rfl, rfl, hI⟩ R' hR'
  refine c_spec_l10Pass hsm hl (AH.set_same ..) hI (by omega) (by omega) (fun out' hb => ?_) (fun out' turned hP => ?_)
  · simp only [aext0, aext1, RR, AH.set_set]
    exact aret_sub (.set (.refl σ) _ hφ) (hbad c0 hb)
  · cases turned
    · simp only [aext0, aext1, RR, AH.set_set]
      obtain ⟨rfl, hd⟩ := hP.eq rfl
      have hok' := hok c0 out' φ st (HInv.fin (m := 400 * (b.ops.length - k)) (by omega) (hI.weak (Int.le_refl _) fun j hj h0 _ => .inr (hd j hj h0)) htg) hφ
      rw [hI.len] at hok'
      exact ret_here hok'
    · have hlt := hP.lt rfl
      simp only [aext0, aext1, RR, AH.set_set]
      exact hR' _ _ (negs out') _ (by omega) (.refl _) ⟨out', by omega, rfl, rfl, rfl, hP.inv.weak (by omega) fun _ _ _ _ => .inl trivial⟩
noncomputable def htsW (b : Blk) : AV := if blkF b = 0 then (match hts b.ops with
  | some out => .tup [.ro (ivs out), iv 0]
  | none => .tup [nilS, iv 1]) else .tup [nilS, iv (blkF b)]
theorem fz_own' {φ st : Nat} {out : List Int} (hφ : σ φ = none) : Fz σ (σ.set φ ⟨st, 1, ivs out⟩) (.own φ st 0 out.length) (.ro (ivs out)) :=
  fz_ints hφ rfl fun i hi => by rw [List.getElem?_map, List.getElem?_eq_getElem hi]; rfl
theorem c_spec_l10Heights {b : Blk} (hs : sB b) (h : R (.ret (htsW b)) σ) : acall TP fn_spec_l10Heights [.rop (encBlk b) 0] σ R := by
  refine acall_imp (c_spec_l10Heights_own (σ := σ) (R := fun e σ' => (e = .ret (htsW b) ∧ σ' = σ) ∨ ∃ out φ st, htsW b = .tup [.ro (ivs out), iv 0] ∧ σ φ = none ∧ e = .ret (.tup [.own φ st 0 out.length, iv 0]) ∧ σ' = σ.set φ ⟨st, 1, ivs out⟩) hs (fun h0 => .inl ⟨?_, rfl⟩) (fun h0 h1 => .inl ⟨?_, rfl⟩) (fun h0 out φ st h1 hφ => .inr ⟨out, φ, st, ?_, hφ, rfl, rfl⟩)) ?_
  · unfold htsW; rw [if_neg h0]
  · unfold htsW; rw [if_pos h0, hts_bad h1]
  · unfold htsW; rw [if_pos h0, hts_ok h1]
  rintro e σ' (⟨rfl, rfl⟩ | ⟨out, φ, st, h0, hφ, rfl, rfl⟩)
  · exact ⟨_, rfl, _, σ', imp_freeze (.refl σ') (.same _), h⟩
  · rw [h0] at h
    exact ⟨_, rfl, _, σ, imp_freeze (.set (.refl σ) _ hφ) (Fz.tup2 (fz_own' hφ) (.same _)), h⟩
end Go.Proofs.YtlggnigbemghgaaGreatDoor.E
