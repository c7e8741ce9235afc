/- The reference's around; locals; the faults of code. -/
import Derived.Test.YtlggnigbemghgaaGreatDoorP14
set_option linter.unusedSectionVars false
set_option linter.unusedSimpArgs false
set_option linter.unusedVariables false
namespace Go.Proofs.YtlggnigbemghgaaGreatDoor.E
open Go Go.RowKit
variable [L : Lam]
variable {σ τ : AH} {R : AEnd → AH → Prop}
theorem htsW_ok {b : Blk} (h : blkF b = 0) : htsW b = match hts b.ops with
  | some out => .tup [.ro (ivs out), iv 0]
  | none => .tup [nilS, iv 1] := by unfold htsW; rw [if_pos h]; rfl
theorem c_spec_l10Around {bs : List Blk} (hb : bs ≠ []) (hl : bs.length ≤ 60) (hs : sC bs) (h0 : ∀ b, b ∈ bs → blkF b = 0) (hbad : ((∃ b, b ∈ bs ∧ hts b.ops = none) ∨ arndM bs = none) → R (.ret (.tup [nilS, iv 1])) σ)
    (hok : (∀ b, b ∈ bs → hts b.ops ≠ none) → ∀ up, arndM bs = some up → R (.ret (.tup [.ro (ivs up), iv 0])) σ) : acall TP fn_spec_l10Around [roBk bs] σ R := by
  refine s_spec_l10Around_ok ?_
  unfold s_spec_l10Around
  have hpos : 0 < bs.length := List.length_pos_iff.2 hb
  refine ⟨by decide, ?_⟩
  rw [if_pos rfl]
  refine lp_rel bs.length (fun i x τ => ∃ a, x = (roBk bs, a, iv (i : Int), ()) ∧ Gr σ τ a (List.replicate i (-1))) ⟨.emp, rfl, .inl ⟨rfl, rfl, rfl⟩⟩ ?_
  rintro i _ τ hi ⟨a, rfl, hG⟩ R' hR'
  simp only [RR, len_ro]
  by_cases hlt : i < bs.length
  · have g : (i : Int) < (bs.length : Int) := by omega
    simp only [g, RR]
    refine hG.push (by simp; omega) fun a' τ' τ'' hG' hsub => ?_
    simp only [ibin_up hlt (by omega), RR]
    exact hR' _ _ τ' hlt hsub ⟨a', rfl, by rw [List.replicate_succ']; exact hG'⟩
  have g : ¬ (i : Int) < (bs.length : Int) := by omega
  obtain rfl : i = bs.length := by omega
  simp only [g, RR]
  clear hR' R'
  rcases hG with ⟨_, he, _⟩ | ⟨φ, st, hφ, rfl, rfl⟩
  · have := congrArg List.length he
    rw [List.length_replicate, List.length_nil] at this
    omega
  rw [List.length_replicate]
  have hsub : ∀ F, AH.Sub σ (σ.set φ F) := fun F => .set (.refl σ) _ hφ
  refine lp_by (fun k x τ => ∃ (i : Nat) (out : List Int), i + k = bs.length ∧ x = (roBk bs, .own φ st 0 bs.length, iv (i : Int), ()) ∧ τ = σ.set φ ⟨st, 1, ivs out⟩ ∧ arAll bs.length 0 (bs.take i) (List.replicate bs.length (-1)) = some out ∧
      ∀ (j : Nat) (hj : j < bs.length), j < i → hts bs[j].ops ≠ none) bs.length ⟨0, _, by omega, rfl, rfl, rfl, fun j hj h => by omega⟩ ?_
  rintro k x τ ⟨i, out, hk, rfl, rfl, hA, hH⟩ R' hR'
  have hI := arAll_inv _ _ (ArI.init bs.length) hA
  simp only [RR, len_ro]
  by_cases hi : i < bs.length
  · have g : (i : Int) < (bs.length : Int) := by omega
    have hm := List.getElem_mem hi
    have hb0 := h0 _ hm
    obtain ⟨hsb, hlb⟩ := blkF_sm hb0
    simp only [g, idx_ro hi len_encBlk, RR]
    refine c_spec_l10Heights (hs _ hm) ?_
    rw [htsW_ok hb0]
    cases hh : hts bs[i].ops with
    | none =>
      simp only [aext0, aext1, RR]
      exact aret_sub (hsub _) (hbad (.inl ⟨_, hm, hh⟩))
    | some o1 =>
    simp only [aext0, aext1, RR]
    refine lp_by (fun k2 x τ => ∃ (j : Nat) (out2 : List Int), j + k2 = bs[i].ops.length ∧ x = (roBk bs, .own φ st 0 bs.length, iv (i : Int), iv (j : Int), ()) ∧
      τ = σ.set φ ⟨st, 1, ivs out2⟩ ∧ arOps bs.length i (bs[i].ops.take j) out = some out2) bs[i].ops.length ⟨0, out, by omega, rfl, rfl, rfl⟩ ?_
    rintro k2 x τ ⟨j, out2, hk2, rfl, rfl, hA2⟩ R2 hR2
    have hI2 := arOps_inv _ hI hA2
    have hF2 := AH.set_same σ φ (⟨st, 1, ivs out2⟩ : Fam)
    simp only [idx_ro hi len_encBlk, RR, RT, len_ro]
    by_cases hj2 : j < bs[i].ops.length
    · have g2 : (j : Int) < (bs[i].ops.length : Int) := by omega
      have hnext := arOps_at hj2 hA2
      simp only [g2, jn, idx_ro hi len_encBlk, idx_ro hj2 len_encOp, RR, RT, len_ro, ibin_up hj2 (by omega)]
      have hso := hsb _ (List.getElem_mem hj2)
      have hfail : arOp bs.length i out2 bs[i].ops[j] = none → R (.ret (.tup [nilS, iv 1])) σ := by
        intro hn
        refine hbad (.inr ?_)
        unfold arndM
        have : arAll bs.length 0 (bs.take (i + 1)) (List.replicate bs.length (-1)) = none := by
          rw [arAll_at hi hA]
          exact arOps_none (k := j + 1) (hnext.trans hn)
        rw [arAll_none this]
      by_cases c4 : bs[i].ops[j].kind = 4
      case neg =>
        have : arOp bs.length i out2 bs[i].ops[j] = some out2 := by unfold arOp; rw [if_neg c4]
        simp only [c4, RR]
        exact hR2 _ _ (k2 - 1) _ (by omega) (.refl _) ⟨j + 1, out2, by omega, rfl, rfl, by rw [hnext, this]⟩
      obtain ⟨q1, q2⟩ := ar_conds (n := bs.length) (i := i) (out := out2) c4
      by_cases c5 : bs[i].ops[j].a ≤ (i : Int)
      · simp only [c4, c5, RR, RT, len_ro]
        exact aret_sub (hsub _) (hfail (q1.2 (.inl c5)))
      by_cases c6 : (bs.length : Int) ≤ bs[i].ops[j].a
      · simp only [c4, c5, c6, RR, RT, len_ro]
        exact aret_sub (hsub _) (hfail (q1.2 (.inr (.inl c6))))
      generalize ht : bs[i].ops[j].a = t at *
      obtain ⟨tn, rfl⟩ : ∃ tn : Nat, t = (tn : Int) := ⟨t.toNat, by omega⟩
      have htn : tn < bs.length := by omega
      obtain ⟨r1, r2⟩ := own_rd hF2 (i := tn) (by rw [hI2.1]; exact htn)
      rw [hI2.1] at r1
      by_cases c7 : 0 ≤ atH out2 tn
      · simp only [c4, c5, c6, c7, ht, r1, r2, RR, RT, len_ro]
        exact aret_sub (hsub _) (hfail (q1.2 (.inr (.inr c7))))
      · simp only [c4, c5, c6, c7, ht, r1, r2, RR, RT, len_ro]
        refine own_wr hF2 (by rw [hI2.1]; exact htn) ?_
        simp only [AH.set_set]
        refine hR2 _ _ (k2 - 1) _ (by omega) (.refl _) ⟨j + 1, out2.set tn i, by omega, rfl, rfl, ?_⟩
        rw [hnext, q2 (by rw [Int.toNat_natCast]; omega), Int.toNat_natCast]
    · have g2 : ¬ (j : Int) < (bs[i].ops.length : Int) := by omega
      obtain rfl : j = bs[i].ops.length := by omega
      rw [List.take_length] at hA2
      simp only [g2, ibin_up hi (by omega), RR]
      exact hR' _ _ (k - 1) _ (by omega) (.refl _) ⟨i + 1, out2, by omega, rfl, rfl, by rw [arAll_at hi hA]; exact hA2, fun j hj h => by
        rcases Nat.lt_or_ge j i with h1 | h1
        · exact hH j hj h1
        · obtain rfl : j = i := by omega
          rw [hh]; simp⟩
  · have g : ¬ (i : Int) < (bs.length : Int) := by omega
    obtain rfl : i = bs.length := by omega
    rw [List.take_length] at hA
    simp only [g, RR]
    clear hR' R'
    have hF2 := AH.set_same σ φ (⟨st, 1, ivs out⟩ : Fam)
    have hall : ∀ b, b ∈ bs → hts b.ops ≠ none := fun b hb => by
      obtain ⟨j, hj, rfl⟩ := List.getElem_of_mem hb
      exact hH j hj hj
    refine lp_by (fun k x τ => ∃ i : Nat, i + k = bs.length ∧ x = (roBk bs, .own φ st 0 bs.length, iv (i : Int), ()) ∧ τ = σ.set φ ⟨st, 1, ivs out⟩ ∧ 1 ≤ i ∧ ∀ j, 1 ≤ j → j < i → 0 ≤ atH out j) (bs.length - 1) ⟨1, by omega, rfl, rfl, Nat.le_refl _, fun j h1 h2 => by omega⟩ ?_
    rintro k x τ ⟨i, hk, rfl, rfl, h1i, hj⟩ R' hR'
    simp only [RR, len_ro]
    by_cases hi2 : i < bs.length
    · have g : (i : Int) < (bs.length : Int) := by omega
      obtain ⟨r1, r2⟩ := own_rd hF2 (i := i) (by rw [hI.1]; omega)
      rw [hI.1] at r1
      simp only [g, r1, r2, RR]
      by_cases c : atH out i < 0
      · simp only [c, RR]
        refine aret_sub (hsub _) (hbad (.inr ?_))
        unfold arndM
        rw [hA]
        simp only
        rw [if_neg (by rw [full_bad (k := i) (by omega) (by rw [hI.1]; omega) c]; simp)]
      · simp only [c, ibin_up hi2 (by omega), RR]
        refine hR' _ _ (k - 1) _ (by omega) (.refl _) ⟨i + 1, by omega, rfl, rfl, by omega, fun j h1 h2 => ?_⟩
        rcases Nat.lt_or_ge j i with h3 | h3
        · exact hj j h1 h3
        · obtain rfl : j = i := by omega
          omega
    · have g : ¬ (i : Int) < (bs.length : Int) := by omega
      simp only [g, RR]
      have hup : arndM bs = some out := by
        unfold arndM
        rw [hA]
        simp only
        rw [if_pos (full_ok fun k h1 hk => hj k h1 (by rw [hI.1] at hk; omega))]
      have := fz_own' (st := st) (out := out) hφ
      rw [hI.1] at this
      exact aret_freeze (hsub _) (Fz.tup2 this (.same _)) (hok hall out hup)
/-! ### locals -/
def upN (up : List Int) : Nat → Int → Int
  | 0, at_ => at_
  | a + 1, at_ => if 0 < at_ then upN up a (atH up at_.toNat) else at_
def bArgs (bs : List Blk) (i : Int) : Int := (bs.getD i.toNat default).args
def locB (bs : List Blk) (up : List Int) (i a b : Int) : Bool := decide (0 < upN up a.toNat i) && decide (b < bArgs bs (upN up a.toNat i))
structure Ups (bs : List Blk) (up : List Int) : Prop where
  len : up.length = bs.length
  lt : ∀ k, 1 ≤ k → k < bs.length → 0 ≤ atH up k ∧ atH up k < k
theorem upN_stop {up : List Int} {at_ : Int} (h : ¬ 0 < at_) : ∀ n, upN up n at_ = at_ := by
  intro n
  cases n with
  | zero => rfl
  | succ n => simp only [upN]; rw [if_neg h]
theorem ro_rd {up : List Int} {n : Nat} (h : n < up.length) : idx 1 (.ro (ivs up)) (iv (n : Int)) σ = some (.rop [iv (atH up n)] 0) := by
  have := idx_ro (σ := σ) (enc := fun x => [iv x]) (sz := 1) h (fun _ => rfl)
  rw [this]
  simp [atH, List.getD, h]
theorem c_impl_isLocal {bs : List Blk} {up : List Int} {i a b : Int} (hu : Ups bs up) (hi0 : 0 ≤ i) (hi : i < bs.length) (ha0 : 0 ≤ a) (ha : a ≤ 999) (h : R (.ret (bv (locB bs up i a b))) σ) : acall TP fn_impl_isLocal [roBk bs, .ro (ivs up), iv i, iv a, iv b] σ R := by
  refine s_impl_isLocal_ok ?_
  unfold s_impl_isLocal
  refine lp_by (fun k x τ => ∃ at_ : Int, x = (roBk bs, .ro (ivs up), iv (k : Int), iv b, iv at_, ()) ∧ τ = σ ∧ 0 ≤ at_ ∧ at_ < bs.length ∧ upN up k at_ = upN up a.toNat i ∧ k ≤ 999) a.toNat ⟨i, by rw [Int.toNat_of_nonneg ha0]; rfl, rfl, hi0, hi, rfl, by omega⟩ ?_
  rintro k x τ ⟨at_, rfl, rfl, h0, h1, e, hk⟩ R' hR'
  unfold locB at h
  by_cases c1 : (0 : Int) < (k : Int)
  · by_cases c2 : 0 < at_
    · obtain ⟨n, rfl⟩ : ∃ n : Nat, at_ = (n : Int) := ⟨at_.toNat, by omega⟩
      have hn : n < bs.length := by omega
      obtain ⟨l1, l2⟩ := hu.lt n (by omega) hn
      have e1 : ibin .sub (iv (k : Int)) (.val (.int .i64 1)) = some (iv (((k - 1 : Nat)) : Int)) := by rw [ibin_sub (by omega) (by omega)]; congr 3; omega
      simp only [c1, c2, e1, ro_rd (by rw [hu.len]; exact hn), lod_one, RR]
      refine hR' _ _ (k - 1) τ (by omega) (.refl _) ⟨atH up n, rfl, rfl, l1, by omega, ?_, by omega⟩
      rw [← e]
      obtain ⟨d, rfl⟩ : ∃ d, k = d + 1 := ⟨k - 1, by omega⟩
      simp only [upN]
      rw [if_pos c2]
      simp
    · have e2 : upN up a.toNat i = at_ := by rw [← e, upN_stop c2]
      rw [e2, decide_eq_false c2, Bool.false_and] at h
      simp only [c1, c2, RR]
      exact ret_here h
  · obtain rfl : k = 0 := by omega
    have e2 : upN up a.toNat i = at_ := e.symm
    rw [e2] at h
    by_cases c2 : 0 < at_
    · obtain ⟨n, rfl⟩ : ∃ n : Nat, at_ = (n : Int) := ⟨at_.toNat, by omega⟩
      have hn : n < bs.length := by omega
      rw [decide_eq_true c2, Bool.true_and] at h
      have eb : bArgs bs (n : Int) = bs[n].args := by unfold bArgs; rw [Int.toNat_natCast, ← blk_at hn]
      rw [eb] at h
      simp only [c1, c2, idx_ro hn len_encBlk, RR, RT]
      exact ret_here h
    · rw [decide_eq_false c2, Bool.false_and] at h
      simp only [c1, c2, RR]
      exact ret_here h
theorem c_spec_l10Local {bs : List Blk} {up : List Int} {i a b : Int} (hu : Ups bs up) (hi0 : 0 ≤ i) (hi : i < bs.length) (ha0 : 0 ≤ a) (ha : a ≤ 999) (h : R (.ret (bv (locB bs up i a b))) σ) : acall TP fn_spec_l10Local [roBk bs, .ro (ivs up), iv i, iv a, iv b] σ R := by
  refine s_spec_l10Local_ok ?_
  unfold s_spec_l10Local
  refine lp_by (fun k x τ => ∃ at_ : Int, x = (roBk bs, .ro (ivs up), iv at_, iv (k : Int), iv b, ()) ∧ τ = σ ∧ 0 ≤ at_ ∧ at_ < bs.length ∧ upN up k at_ = upN up a.toNat i ∧ k ≤ 999) a.toNat ⟨i, by rw [Int.toNat_of_nonneg ha0]; rfl, rfl, hi0, hi, rfl, by omega⟩ ?_
  rintro k x τ ⟨at_, rfl, rfl, h0, h1, e, hk⟩ R' hR'
  unfold locB at h
  by_cases c1 : (0 : Int) < (k : Int)
  · by_cases c2 : 0 < at_
    · obtain ⟨n, rfl⟩ : ∃ n : Nat, at_ = (n : Int) := ⟨at_.toNat, by omega⟩
      have hn : n < bs.length := by omega
      obtain ⟨l1, l2⟩ := hu.lt n (by omega) hn
      have e1 : ibin .sub (iv (k : Int)) (.val (.int .i64 1)) = some (iv (((k - 1 : Nat)) : Int)) := by rw [ibin_sub (by omega) (by omega)]; congr 3; omega
      simp only [c1, c2, e1, ro_rd (by rw [hu.len]; exact hn), lod_one, RR]
      refine hR' _ _ (k - 1) τ (by omega) (.refl _) ⟨atH up n, rfl, rfl, l1, by omega, ?_, by omega⟩
      rw [← e]
      obtain ⟨d, rfl⟩ : ∃ d, k = d + 1 := ⟨k - 1, by omega⟩
      simp only [upN]
      rw [if_pos c2]
      simp
    · have e2 : upN up a.toNat i = at_ := by rw [← e, upN_stop c2]
      rw [e2, decide_eq_false c2, Bool.false_and] at h
      simp only [c1, c2, RR]
      exact ret_here h
  · obtain rfl : k = 0 := by omega
    have e2 : upN up a.toNat i = at_ := e.symm
    rw [e2] at h
    by_cases c2 : 0 < at_
    · obtain ⟨n, rfl⟩ : ∃ n : Nat, at_ = (n : Int) := ⟨at_.toNat, by omega⟩
      have hn : n < bs.length := by omega
      rw [decide_eq_true c2, Bool.true_and] at h
      have eb : bArgs bs (n : Int) = bs[n].args := by unfold bArgs; rw [Int.toNat_natCast, ← blk_at hn]
      rw [eb] at h
      simp only [c1, c2, idx_ro hn len_encBlk, RR, RT]
      exact ret_here h
    · rw [decide_eq_false c2, Bool.false_and] at h
      simp only [c1, c2, RR]
      exact ret_here h
end Go.Proofs.YtlggnigbemghgaaGreatDoor.E
