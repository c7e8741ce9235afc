/- The faults of code. -/
import Derived.Test.YtlggnigbemghgaaGreatDoorP15
set_option linter.unusedSectionVars false
set_option linter.unusedSimpArgs false
set_option linter.unusedVariables false
namespace Go.Proofs.YtlggnigbemghgaaGreatDoor.E
open Go Go.RowKit
variable [L : Lam]
variable {σ τ : AH} {R : AEnd → AH → Prop}
def enc2 (x : Int × Int) : List AV := [iv x.1, iv x.2]
theorem len_enc2 (x : Int × Int) : (enc2 x).length = 2 := rfl
def locsN (o : OpD) : List (Int × Int) := if o.kind = 2 ∨ o.kind = 14 ∨ o.kind = 16 then [(o.a, o.b)] else if o.kind = 15 then [(o.a, o.b), (o.c, o.d)] else []
theorem c_impl_Op_localsIn {o : OpD} (h : R (.ret (.ro ((locsN o).map enc2))) σ) : acall TP fn_impl_Op_localsIn [.agg (encOp o)] σ R := by
  refine s_impl_Op_localsIn_ok ?_
  unfold s_impl_Op_localsIn
  refine box_encOp ?_
  unfold locsN at h
  have one : ∀ a b : Int, R (.ret (.ro ([(a, b)].map enc2))) σ → bsl 2 [iv 0, iv 0] 1 [(0, .agg [iv a, iv b])] σ fun v σ => aret v σ R := by
    intro a b h
    refine ⟨by decide, ?_⟩
    rw [if_neg (by decide)]
    intro φ hφ
    refine aret_freeze (σ0 := σ) (.set (.refl σ) _ hφ) (.own (AH.set_same ..) hφ rfl (by simp) rfl (fun i hi => ?_) (fun i j hi hj => ?_)) h
    · obtain rfl : i = 0 := by omega
      rfl
    · obtain rfl : i = 0 := by omega
      exact .same _
  have two : ∀ a b c d : Int, R (.ret (.ro ([(a, b), (c, d)].map enc2))) σ → bsl 2 [iv 0, iv 0] 2 [(0, .agg [iv a, iv b]), (1, .agg [iv c, iv d])] σ fun v σ => aret v σ R := by
    intro a b c d h
    refine ⟨by decide, ?_⟩
    rw [if_neg (by decide)]
    intro φ hφ
    refine aret_freeze (σ0 := σ) (.set (.refl σ) _ hφ) (.own (AH.set_same ..) hφ rfl (by simp) rfl (fun i hi => ?_) (fun i j hi hj => ?_)) h
    · match i, hi with
      | 0, _ => rfl
      | 1, _ => rfl
    · match i, hi with
      | 0, _ => exact .same _
      | 1, _ => exact .same _
  have b1 : ∀ a b : Int, bld [iv 0, iv 0] [(0, 1), (1, 1)] [(0, iv a), (1, iv b)] = some (.agg [iv a, iv b]) := fun _ _ => rfl
  simp only [RR, RT, jn]
  by_cases c1 : o.kind = 2
  · rw [if_pos (by omega)] at h; simp only [c1, RR, RT, b1]; exact one _ _ h
  by_cases c2 : o.kind = 14
  · rw [if_pos (by omega)] at h; simp only [c2, RR, RT, b1]; exact one _ _ h
  by_cases c3 : o.kind = 16
  · rw [if_pos (by omega)] at h; simp only [c3, RR, RT, b1]; exact one _ _ h
  rw [if_neg (by omega)] at h
  by_cases c4 : o.kind = 15
  · rw [if_pos c4] at h; simp only [c4, RR, RT, b1]; exact two _ _ _ _ h
  rw [if_neg c4] at h
  simp only [c1, c2, c3, c4, RR]
  exact aret_freeze (.refl σ) .nil h
/-- A loop in which all is as it has to be so far. -/
theorem lp_zero {X : Type} {st : Nat → X} {f : Nat → Int} {n : Nat} {body : (X → AH → Prop) → X → AH → Prop}
    (hb : ∀ (j : Nat) (k : X → AH → Prop), j < n → (∀ i, i < j → f i = 0) → (f j = 0 → k (st (j + 1)) σ) → body k (st j) σ) (he : ∀ k : X → AH → Prop, (∀ i, i < n → f i = 0) → body k (st n) σ) : lp body (st 0) σ := by
  refine lp_same n st (fun i => ∀ j, j < i → f j = 0) rfl (fun j hj => by omega) ?_
  intro i hi hj R' hR'
  rcases Nat.lt_or_ge i n with hlt | hge
  · refine hb i R' hlt hj (fun h0 => hR' hlt (fun j h1 => ?_) σ (.refl _))
    rcases Nat.lt_or_ge j i with h2 | h2
    · exact hj j h2
    · obtain rfl : j = i := by omega
      exact h0
  · obtain rfl : i = n := by omega
    exact he R' hj
def opLocF (bs : List Blk) (up : List Int) (i : Nat) (o : OpD) : Int := if (locsN o).all (fun l => locB bs up i l.1 l.2) then (if o.kind = 9 ∧ 0 < i then 1 else 0) else 3
def blkLocF (bs : List Blk) (up : List Int) (i : Nat) : Int := firstF (fun j => opLocF bs up i (opA (bs.getD i default).ops j)) 0 (bs.getD i default).ops.length
def locF (bs : List Blk) (up : List Int) : Int := firstF (blkLocF bs up) 0 bs.length
open Classical in
noncomputable def codeF (bs : List Blk) : Int := if opsF bs ≠ 0 then opsF bs else if bs = [] ∨ (bs.getD 0 default).args ≠ 0 then 1 else if (∃ b, b ∈ bs ∧ hts b.ops = none) then 1 else match arndM bs with
  | none => 1
  | some up => locF bs up
theorem firstF_is {f : Nat → Int} {n k : Nat} (hk : k < n) (h : f k ≠ 0) (h0 : ∀ i, i < k → f i = 0) : firstF f 0 n = f k := firstF_at h n 0 (Nat.zero_le _) (by omega) fun j _ h2 => h0 j h2
theorem firstF_no {f : Nat → Int} {n : Nat} (h0 : ∀ i, i < n → f i = 0) : firstF f 0 n = 0 := firstF_all _ _ fun j _ h2 => h0 j (by omega)
theorem locs_sm {o : OpD} (h : smO o) : ∀ l, l ∈ locsN o → 0 ≤ l.1 ∧ l.1 ≤ 999 := by
  obtain ⟨h1, h2, h3, h4, h5, h6, h7, h8⟩ := h
  intro l hl
  unfold locsN at hl
  split at hl
  · rw [List.mem_singleton] at hl; subst hl; exact ⟨h1, h2⟩
  · split at hl
    · simp only [List.mem_cons, List.not_mem_nil, or_false] at hl
      rcases hl with rfl | rfl
      · exact ⟨h1, h2⟩
      · exact ⟨h5, h6⟩
    · cases hl
/-- What code is like whose first faults are none. -/
structure Pre (bs : List Blk) : Prop where
  ops : opsF bs = 0
  ne : bs ≠ []
  first : (bs.getD 0 default).args = 0
theorem Pre.len {bs : List Blk} (h : Pre bs) : bs.length ≤ 60 := (opsF_len h.ops).1
theorem Pre.sm {bs : List Blk} (h : Pre bs) : ∀ b, b ∈ bs → smB b.ops ∧ b.ops.length ≤ 200 := fun b hb => blkF_sm (opsF_blk h.ops b hb)
theorem codeF_ops {bs : List Blk} (h : opsF bs ≠ 0) : codeF bs = opsF bs := by unfold codeF; rw [if_pos h]
theorem codeF_first {bs : List Blk} (h : opsF bs = 0) (h2 : bs = [] ∨ (bs.getD 0 default).args ≠ 0) : codeF bs = 1 := by unfold codeF; rw [if_neg (by rw [h]; simp), if_pos h2]
theorem codeF_hts {bs : List Blk} (h : Pre bs) (h2 : ∃ b, b ∈ bs ∧ hts b.ops = none) : codeF bs = 1 := by
  unfold codeF; rw [if_neg (by rw [h.ops]; simp), if_neg (by rintro (c | c); exact h.ne c; exact c h.first), if_pos h2]
theorem codeF_arn {bs : List Blk} (h : Pre bs) (h2 : arndM bs = none) : codeF bs = 1 := by
  unfold codeF; rw [if_neg (by rw [h.ops]; simp), if_neg (by rintro (c | c); exact h.ne c; exact c h.first)]
  split
  · rfl
  · rw [h2]
theorem codeF_loc {bs : List Blk} {up : List Int} (h : Pre bs) (h1 : ∀ b, b ∈ bs → hts b.ops ≠ none) (h2 : arndM bs = some up) : codeF bs = locF bs up := by
  unfold codeF; rw [if_neg (by rw [h.ops]; simp), if_neg (by rintro (c | c); exact h.ne c; exact c h.first), if_neg (by rintro ⟨b, hb, c⟩; exact h1 b hb c), h2]
theorem ups_of {bs : List Blk} {up : List Int} (h : arndM bs = some up) : Ups bs up := ⟨(arndM_inv h).1, fun k h1 h2 => (arndM_inv h).2 k h1 h2⟩
theorem htsV_none {os : List OpD} (h : hts os = none) : htsV os = .tup [nilS, bv false] := by unfold htsV; rw [h]
theorem htsV_some {os : List OpD} {out : List Int} (h : hts os = some out) : htsV os = .tup [.ro (ivs out), bv true] := by unfold htsV; rw [h]
/-- The first test of both. -/
theorem pre_cases {bs : List Blk} {X Y : Prop} (h0 : opsF bs = 0) (h1 : (bs = [] ∨ (bs.getD 0 default).args ≠ 0) → X) (h2 : Pre bs → Y) :
    og (ibin .eql (iv (bs.length : Int)) (iv 0)) fun v23 =>
    og (gval v23 false false (some (roBk bs))) fun v25 =>
    og (gval v23 false false (idx 2 v25 (iv 0) σ)) fun v26 =>
    og (gval v23 false false (fldA 0 v26)) fun v27 =>
    og (gval v23 false false (lod v27 σ)) fun v28 =>
    og (gval v23 false false (ibin .neq v28 (iv 0))) fun v29 =>
    og (pickV v23 (bv true) v29) fun v30 => apick v30 X Y := by
  cases bs with
  | nil =>
    simp only [List.length_nil, RR]
    exact h1 (.inl rfl)
  | cons b bs =>
    have e : ¬ (((b :: bs).length : Nat) : Int) = 0 := by simp; omega
    have e1 : idx 2 (roBk (b :: bs)) (iv 0) σ = some (.rop (encBlk b) 0) := idx_ro (i := 0) (by simp) len_encBlk
    have e2 : (!decide (((b :: bs).length : Int) = 0)) = true := by simp; omega
    by_cases c : b.args = 0
    · simp only [e, e1, c, RR, RT]
      exact h2 ⟨h0, by simp, c⟩
    · simp only [e, e1, c, RR, RT]
      exact h1 (.inr c)
set_option maxRecDepth 100000 in
theorem c_impl_CodeFault {bs : List Blk} (h : R (.ret (iv (codeF bs))) σ) : acall TP fn_impl_CodeFault [roBk bs] σ R := by
  refine s_impl_CodeFault_ok ?_
  unfold s_impl_CodeFault
  refine c_impl_opsFault ?_
  by_cases c0 : opsF bs = 0
  case neg =>
    rw [codeF_ops c0] at h
    simp only [c0, RR]
    exact ret_here h
  simp only [c0, RR, len_ro]
  refine pre_cases c0 (fun h1 => ?_) (fun hp => ?_)
  · rw [codeF_first c0 h1] at h
    exact ret_here h
  have hl := hp.len
  refine lp_same bs.length (fun i => (roBk bs, roBk bs, iv (bs.length : Int), iv (i : Int), ())) (fun i => ∀ (j : Nat) (hj : j < bs.length), j < i → hts bs[j].ops ≠ none) rfl (fun j hj h => by omega) ?_
  intro i hi hH R' hR'
  by_cases hlt : i < bs.length
  · have g : (i : Int) < (bs.length : Int) := by omega
    obtain ⟨hsm, hbl⟩ := hp.sm _ (List.getElem_mem hlt)
    simp only [g, idx_ro hlt len_encBlk, RR, RT]
    refine new_encBlk rfl ?_
    simp only [lodA_all (len_encBlk _), RR]
    refine c_impl_heightsOf hsm hbl ?_
    cases hh : hts bs[i].ops with
    | none =>
      rw [htsV_none hh]
      simp only [aext0, aext1, RR]
      rw [codeF_hts hp ⟨_, List.getElem_mem hlt, hh⟩] at h
      exact ret_here h
    | some out =>
      rw [htsV_some hh]
      simp only [aext0, aext1, ibin_up hlt (by omega), RR]
      refine hR' hlt (fun j hj h1 => ?_) _ (.refl _)
      rcases Nat.lt_or_ge j i with h2 | h2
      · exact hH j hj h2
      · obtain rfl : j = i := by omega
        rw [hh]; simp
  have g : ¬ (i : Int) < (bs.length : Int) := by omega
  have hall : ∀ b, b ∈ bs → hts b.ops ≠ none := fun b hb => by
    obtain ⟨j, hj, rfl⟩ := List.getElem_of_mem hb
    exact hH j hj (by omega)
  simp only [g, RR]
  clear hR' R' hH
  refine c_impl_around hp.ne hl hp.sm (fun hn => ?_) (fun up hu => ?_)
  · rw [codeF_arn hp hn] at h
    simp only [aext0, aext1, RR]
    exact ret_here h
  rw [codeF_loc hp hall hu] at h
  have hups := ups_of hu
  simp only [aext0, aext1, RR, len_ro]
  refine lp_zero (n := bs.length) (st := fun i => (roBk bs, AV.ro (ivs up), roBk bs, iv (bs.length : Int), iv (i : Int), ())) (f := blkLocF bs up) ?_ ?_
  · intro i R2 hi hz hR2
    have g : (i : Int) < (bs.length : Int) := by omega
    obtain ⟨hsm, hbl⟩ := hp.sm _ (List.getElem_mem hi)
    have eb : bs.getD i default = bs[i] := (blk_at hi).symm
    simp only [g, idx_ro hi len_encBlk, RR, RT]
    refine new_encBlk rfl ?_
    simp only [RR, RT, len_ro]
    refine lp_zero (n := bs[i].ops.length) (st := fun j => (roBk bs, AV.ro (ivs up), iv (i : Int), roBk bs, iv (bs.length : Int), iv (i : Int), roO bs[i].ops, iv (bs[i].ops.length : Int), iv (j : Int), ())) (f := fun j => opLocF bs up i (opA bs[i].ops j)) ?_ ?_
    · intro j R3 hj hz2 hR3
      have g2 : (j : Int) < (bs[i].ops.length : Int) := by omega
      have hso := hsm _ (List.getElem_mem hj)
      have eo : opA bs[i].ops j = bs[i].ops[j] := (op_at hj).symm
      have hbad : opLocF bs up i bs[i].ops[j] ≠ 0 → R (.ret (iv (opLocF bs up i bs[i].ops[j]))) σ := by
        intro hne
        have e1 : blkLocF bs up i = opLocF bs up i bs[i].ops[j] := by
          unfold blkLocF
          rw [eb, firstF_is hj (by rw [eo]; exact hne) hz2, eo]
        have e2 : locF bs up = opLocF bs up i bs[i].ops[j] := by
          unfold locF
          rw [firstF_is hi (by rw [e1]; exact hne) hz, e1]
        rw [e2] at h
        exact h
      simp only [g2, idx_ro hj len_encOp, RR, RT]
      refine new_encOp rfl ?_
      simp only [lodA_all (len_encOp _), RR]
      refine c_impl_Op_localsIn ?_
      simp only [RR, len_ro]
      refine lp_same (locsN bs[i].ops[j]).length (fun k => (roBk bs, .ro (ivs up), iv (i : Int), .rop (encOp bs[i].ops[j]) 0, roBk bs, iv (bs.length : Int), iv (i : Int), roO bs[i].ops, iv (bs[i].ops.length : Int), iv (j : Int), .ro ((locsN bs[i].ops[j]).map enc2), iv ((locsN bs[i].ops[j]).length : Int), iv (k : Int), ()))
        (fun k => ∀ (m : Nat) (hm : m < (locsN bs[i].ops[j]).length), m < k → locB bs up i (locsN bs[i].ops[j])[m].1 (locsN bs[i].ops[j])[m].2 = true) rfl (fun m hm h => by omega) ?_
      intro k hk hH R4 hR4
      have hl2 : (locsN bs[i].ops[j]).length ≤ 2 := by
        unfold locsN
        split
        · simp
        · split <;> simp
      by_cases hkl : k < (locsN bs[i].ops[j]).length
      · have g3 : (k : Int) < ((locsN bs[i].ops[j]).length : Int) := by omega
        have hsl := locs_sm hso _ (List.getElem_mem hkl)
        have i0 : idxArr 2 1 (.rop (enc2 (locsN bs[i].ops[j])[k]) 0) (.val (.int .i64 0)) = some (.rop (enc2 (locsN bs[i].ops[j])[k]) 0) := rfl
        have i1 : idxArr 2 1 (.rop (enc2 (locsN bs[i].ops[j])[k]) 0) (.val (.int .i64 1)) = some (.rop (enc2 (locsN bs[i].ops[j])[k]) 1) := rfl
        have l0 : ∀ τ, lod (.rop (enc2 (locsN bs[i].ops[j])[k]) 0) τ = some (iv (locsN bs[i].ops[j])[k].1) := fun _ => rfl
        have l1 : ∀ τ, lod (.rop (enc2 (locsN bs[i].ops[j])[k]) 1) τ = some (iv (locsN bs[i].ops[j])[k].2) := fun _ => rfl
        simp only [g3, idx_ro hkl len_enc2, lodA_all (len_enc2 _), RR]
        refine new_frz rfl rfl rfl (one2 rfl rfl) ?_
        show og (idxArr 2 1 (.rop (enc2 (locsN bs[i].ops[j])[k]) 0) _) _
        simp only [i0, i1, l0, l1, RR]
        refine c_impl_isLocal hups (by omega) (by omega) hsl.1 hsl.2 ?_
        cases hB : locB bs up i (locsN bs[i].ops[j])[k].1 (locsN bs[i].ops[j])[k].2
        · simp only [RR]
          have e3 : opLocF bs up i bs[i].ops[j] = 3 := by
            unfold opLocF
            rw [if_neg]
            intro hall
            rw [List.all_eq_true] at hall
            have := hall _ (List.getElem_mem hkl)
            rw [hB] at this; cases this
          have := hbad (by rw [e3]; decide)
          rw [e3] at this
          exact ret_here this
        · simp only [ibin_up hkl (by omega), RR]
          refine hR4 hkl (fun m hm h1 => ?_) _ (.refl _)
          rcases Nat.lt_or_ge m k with h2 | h2
          · exact hH m hm h2
          · obtain rfl : m = k := by omega
            exact hB
      · have g3 : ¬ (k : Int) < ((locsN bs[i].ops[j]).length : Int) := by omega
        have hall : (locsN bs[i].ops[j]).all (fun l => locB bs up i l.1 l.2) = true := by
          rw [List.all_eq_true]
          intro l hl
          obtain ⟨m, hm, rfl⟩ := List.getElem_of_mem hl
          exact hH m hm (by omega)
        have eF : opLocF bs up i bs[i].ops[j] = if bs[i].ops[j].kind = 9 ∧ 0 < i then 1 else 0 := by unfold opLocF; rw [if_pos hall]
        by_cases c9 : bs[i].ops[j].kind = 9
        · by_cases ci : (0 : Int) < (i : Int)
          · simp only [g3, c9, ci, RR, RT]
            rw [if_pos ⟨c9, by omega⟩] at eF
            have := hbad (by rw [eF]; decide)
            rw [eF] at this
            exact ret_here this
          · simp only [g3, c9, ci, ibin_up hj (by omega), RR, RT]
            exact hR3 (by rw [eo, eF, if_neg (by omega)])
        · simp only [g3, c9, ibin_up hj (by omega), RR, RT]
          exact hR3 (by rw [eo, eF, if_neg (fun h => c9 h.1)])
    · intro R3 hz2
      have g2 : ¬ (bs[i].ops.length : Int) < (bs[i].ops.length : Int) := by omega
      simp only [g2, ibin_up hi (by omega), RR]
      refine hR2 ?_
      unfold blkLocF
      rw [eb]
      exact firstF_no hz2
  · intro R2 hz
    have g : ¬ (bs.length : Int) < (bs.length : Int) := by omega
    simp only [g, RR]
    have : locF bs up = 0 := firstF_no hz
    rw [this] at h
    exact ret_here h
end Go.Proofs.YtlggnigbemghgaaGreatDoor.E
