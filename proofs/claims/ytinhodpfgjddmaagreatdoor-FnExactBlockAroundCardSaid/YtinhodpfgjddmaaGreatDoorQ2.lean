/- FusedIn, BlockAround, DeepestOf. -/
import Derived.Test.YtinhodpfgjddmaaGreatDoorP17
set_option linter.unusedSectionVars false
set_option linter.unusedSimpArgs false
set_option linter.unusedVariables false
namespace Go.Proofs.YtinhodpfgjddmaaGreatDoor.E
open Go Go.RowKit
variable [L : Lam]
variable {σ τ : AH} {R : AEnd → AH → Prop}
theorem bld2a (x : Int) : bld [iv 0, iv 0] [(0, 1), (1, 1)] [(0, iv x)] = some (.agg [iv x, iv 0]) := rfl
theorem bld2b (x : Int) : bld [iv 0, iv 0] [(0, 1), (1, 1)] [(1, iv x)] = some (.agg [iv 0, iv x]) := rfl
theorem Pre.bsm {bs : List Blk} (h : Pre bs) {i : Nat} (hi : i < bs.length) : smB bs[i].ops ∧ bs[i].ops.length ≤ 200 := h.sm _ (List.getElem_mem hi)
theorem opF_kind {o : OpD} (h : opF o = 0) : 1 ≤ o.kind ∧ o.kind ≤ 16 := by
  unfold opF at h
  split at h
  · cases h
  rename_i h1
  have h2 : opF1 o = false := by simpa using h1
  unfold opF1 at h2
  rw [Bool.or_eq_false_iff, Bool.or_eq_false_iff, Bool.or_eq_false_iff] at h2
  exact inB_iff.1 (by simpa using h2.1.1.1)
theorem Pre.kind {bs : List Blk} (h : Pre bs) {i : Nat} (hi : i < bs.length) : ∀ o, o ∈ bs[i].ops → 1 ≤ o.kind ∧ o.kind ≤ 16 := by
  intro o ho
  have hb := opsF_blk h.ops _ (List.getElem_mem hi)
  unfold blkF at hb
  split at hb
  · cases hb
  split at hb
  · cases hb
  obtain ⟨j, hj, rfl⟩ := List.getElem_of_mem ho
  have := firstF_zero _ _ hb j (Nat.zero_le _) (by omega)
  rw [← op_at hj] at this
  exact opF_kind this
/-! ### how many are fused -/
def fusC (os : List OpD) : Nat := (os.filter fun o => inB 13 16 o.kind).length
def fusB (bs : List Blk) : Nat := (bs.map fun b => fusC b.ops).sum
theorem fusC_take {os : List OpD} {j : Nat} (h : j < os.length) : fusC (os.take (j + 1)) = fusC (os.take j) + if inB 13 16 os[j].kind then 1 else 0 := by
  unfold fusC
  rw [List.take_succ_eq_append_getElem h, List.filter_append, List.length_append]
  congr 1
  simp only [List.filter_cons, List.filter_nil]
  split <;> rfl
theorem fusB_take {bs : List Blk} {i : Nat} (h : i < bs.length) : fusB (bs.take (i + 1)) = fusB (bs.take i) + fusC bs[i].ops := by
  unfold fusB
  rw [List.take_succ_eq_append_getElem h, List.map_append, List.sum_append]
  simp
theorem fusC_le (os : List OpD) : fusC os ≤ os.length := List.length_filter_le _ _
theorem fusB_le {bs : List Blk} : ∀ i : Nat, (∀ b, b ∈ bs → b.ops.length ≤ 200) → i ≤ bs.length → fusB (bs.take i) ≤ 200 * i := by
  intro i
  induction i with
  | zero => intro _ _; simp [fusB]
  | succ i ih =>
    intro hb hi
    rw [fusB_take (by omega)]
    have := ih hb (by omega)
    have := hb bs[i] (List.getElem_mem _)
    have := fusC_le bs[i].ops
    omega
noncomputable def fusV (bs : List Blk) : AV := .agg [iv (codeF bs), iv (if codeF bs = 0 then (fusB bs : Int) else 0)]
theorem c_impl_Op_isFused {o : OpD} (h : R (.ret (bv (inB 13 16 o.kind))) σ) : acall TP fn_impl_Op_isFused [.agg (encOp o)] σ R := by
  refine s_impl_Op_isFused_ok ?_
  unfold s_impl_Op_isFused
  refine box_encOp ?_
  simp only [RR, RT]
  refine c_impl_in ?_
  simp only [RR]
  exact ret_here h
theorem c_impl_FusedIn {bs : List Blk} (h : R (.ret (fusV bs)) σ) : acall TP fn_impl_FusedIn [roBk bs] σ R := by
  refine s_impl_FusedIn_ok ?_
  unfold s_impl_FusedIn
  unfold fusV at h
  intro φ hφ
  refine c_impl_CodeFault ?_
  by_cases c : codeF bs = 0
  case neg =>
    rw [if_neg c] at h
    simp only [c, bld2a, RR]
    exact fin_int hφ rfl h
  rw [if_pos c, c] at h
  obtain ⟨hp, _, _⟩ := codeF_pre c
  have hl := hp.len
  have ho : ∀ b, b ∈ bs → b.ops.length ≤ 200 := fun b hb => (hp.sm b hb).2
  simp only [c, RR, len_ro]
  refine lp_for bs.length (fun i => (AV.ptr φ 0 0 0, iv (fusB (bs.take i) : Nat), roBk bs, iv (bs.length : Int), iv (i : Int), ())) (fun i σ' => σ' = σ.set φ ⟨0, 2, [[iv 0, iv 0]]⟩) rfl rfl ?_
  rintro i _ hi rfl R' hR'
  by_cases hlt : i < bs.length
  · have g : (i : Int) < (bs.length : Int) := by omega
    have hb1 := fusB_le i ho hi
    have hb2 := ho _ (List.getElem_mem hlt)
    simp only [g, idx_ro hlt len_encBlk, RR, RT]
    refine new_encBlk rfl ?_
    simp only [RR, RT, len_ro]
    refine lp_for bs[i].ops.length (fun j => (AV.ptr φ 0 0 0, iv ((fusB (bs.take i) + fusC (bs[i].ops.take j) : Nat) : Int), roBk bs, iv (bs.length : Int), iv (i : Int), roO bs[i].ops, iv (bs[i].ops.length : Int), iv (j : Int), ())) (fun j σ' => σ' = σ.set φ ⟨0, 2, [[iv 0, iv 0]]⟩) (by simp [fusC]; rfl) rfl ?_
    rintro j _ hj rfl R2 hR2
    have hf := fusC_le (bs[i].ops.take j)
    rw [List.length_take] at hf
    by_cases hj2 : j < bs[i].ops.length
    · have g2 : (j : Int) < (bs[i].ops.length : Int) := by omega
      have hn := fusC_take hj2
      simp only [g2, jn, idx_ro hj2 len_encOp, RR, RT]
      refine new_encOp rfl ?_
      simp only [lodA_all (len_encOp _), RR]
      refine c_impl_Op_isFused ?_
      cases hB : inB 13 16 bs[i].ops[j].kind
      · rw [hB] at hn
        simp only [ibin_up hj2 (by omega), RR]
        have := hR2 hj2 _ _ (.refl _) rfl
        rw [hn] at this
        exact this
      · rw [hB] at hn
        have e : ibin .add (iv ((fusB (bs.take i) + fusC (bs[i].ops.take j) : Nat) : Int)) (.val (.int .i64 1)) = some (iv ((fusB (bs.take i) + fusC (bs[i].ops.take (j + 1)) : Nat) : Int)) := by
          rw [ibin_add (by omega) (by omega), hn]; congr 3
        simp only [e, ibin_up hj2 (by omega), RR]
        exact hR2 hj2 _ _ (.refl _) rfl
    · have g2 : ¬ (j : Int) < (bs[i].ops.length : Int) := by omega
      obtain rfl : j = bs[i].ops.length := by omega
      rw [List.take_length, ← fusB_take hlt]
      simp only [g2, ibin_up hlt (by omega), RR]
      exact hR' hlt _ _ (.refl _) rfl
  · have g : ¬ (i : Int) < (bs.length : Int) := by omega
    obtain rfl : i = bs.length := by omega
    rw [List.take_length]
    simp only [g, bld2b, RR]
    exact fin_int hφ rfl h
theorem c_spec_FusedIn {bs : List Blk} (hs : sC bs) (h : R (.ret (fusV bs)) σ) : acall TP fn_spec_FusedIn [roBk bs] σ R := by
  refine s_spec_FusedIn_ok ?_
  unfold s_spec_FusedIn
  unfold fusV at h
  intro φ hφ
  refine c_spec_l10Fault hs (fun c => ?_) (fun c up hp _ _ => ?_)
  · rw [if_neg c] at h
    simp only [aext0, aext1, c, bld2a, RR]
    exact fin_int hφ rfl h
  rw [if_pos c, c] at h
  have hl := hp.len
  have ho : ∀ b, b ∈ bs → b.ops.length ≤ 200 := fun b hb => (hp.sm b hb).2
  simp only [aext0, aext1, RR, len_ro]
  refine lp_for bs.length (fun i => (roBk bs, AV.ptr φ 0 0 0, iv (fusB (bs.take i) : Nat), iv (i : Int), ())) (fun i σ' => σ' = σ.set φ ⟨0, 2, [[iv 0, iv 0]]⟩) rfl rfl ?_
  rintro i _ hi rfl R' hR'
  simp only [RR, len_ro]
  by_cases hlt : i < bs.length
  · have g : (i : Int) < (bs.length : Int) := by omega
    have hb1 := fusB_le i ho hi
    have hb2 := ho _ (List.getElem_mem hlt)
    simp only [g, RR]
    refine lp_for bs[i].ops.length (fun j => (roBk bs, AV.ptr φ 0 0 0, iv ((fusB (bs.take i) + fusC (bs[i].ops.take j) : Nat) : Int), iv (i : Int), iv (j : Int), ())) (fun j σ' => σ' = σ.set φ ⟨0, 2, [[iv 0, iv 0]]⟩) (by simp [fusC]; rfl) rfl ?_
    rintro j _ hj rfl R2 hR2
    have hf := fusC_le (bs[i].ops.take j)
    rw [List.length_take] at hf
    simp only [idx_ro hlt len_encBlk, RR, RT, len_ro]
    by_cases hj2 : j < bs[i].ops.length
    · have g2 : (j : Int) < (bs[i].ops.length : Int) := by omega
      have hn := fusC_take hj2
      have hk := hp.kind hlt _ (List.getElem_mem hj2)
      simp only [g2, jn, idx_ro hlt len_encBlk, idx_ro hj2 len_encOp, RR, RT]
      by_cases hB : 12 < bs[i].ops[j].kind
      · have e0 : inB 13 16 bs[i].ops[j].kind = true := inB_iff.2 ⟨by omega, hk.2⟩
        rw [e0] at hn
        have e : ibin .add (iv ((fusB (bs.take i) + fusC (bs[i].ops.take j) : Nat) : Int)) (.val (.int .i64 1)) = some (iv ((fusB (bs.take i) + fusC (bs[i].ops.take (j + 1)) : Nat) : Int)) := by
          rw [ibin_add (by omega) (by omega), hn]; congr 3
        simp only [hB, e, ibin_up hj2 (by omega), RR]
        exact hR2 hj2 _ _ (.refl _) rfl
      · have e0 : inB 13 16 bs[i].ops[j].kind = false := by rw [Bool.eq_false_iff]; intro h; have := inB_iff.1 h; omega
        rw [e0] at hn
        simp only [hB, ibin_up hj2 (by omega), RR]
        have := hR2 hj2 _ _ (.refl _) rfl
        rw [hn] at this
        exact this
    · have g2 : ¬ (j : Int) < (bs[i].ops.length : Int) := by omega
      obtain rfl : j = bs[i].ops.length := by omega
      rw [List.take_length, ← fusB_take hlt]
      simp only [g2, ibin_up hlt (by omega), RR]
      exact hR' hlt _ _ (.refl _) rfl
  · have g : ¬ (i : Int) < (bs.length : Int) := by omega
    obtain rfl : i = bs.length := by omega
    rw [List.take_length]
    simp only [g, bld2b, RR]
    exact fin_int hφ rfl h
/-! ### around which block -/
noncomputable def arnV (bs : List Blk) (k : Int) : AV := if codeF bs = 0 then (if inB 0 ((bs.length : Int) - 1) k = false then .agg [iv 3, iv 0] else if k = 0 then .agg [iv 4, iv 0] else .agg [iv 0, iv (atH ((arndM bs).getD []) k.toNat)]) else .agg [iv (codeF bs), iv 0]
theorem c_impl_BlockAround {bs : List Blk} {k : Int} (h : R (.ret (arnV bs k)) σ) : acall TP fn_impl_BlockAround [roBk bs, iv k] σ R := by
  refine s_impl_BlockAround_ok ?_
  unfold s_impl_BlockAround
  unfold arnV at h
  intro φ hφ
  refine c_impl_CodeFault ?_
  by_cases c : codeF bs = 0
  case neg =>
    rw [if_neg c] at h
    simp only [c, bld2a, RR]
    exact fin_int hφ rfl h
  rw [if_pos c] at h
  obtain ⟨hp, _, up, hup⟩ := codeF_pre c
  have hl := hp.len
  have e : ibin .sub (iv (bs.length : Int)) (.val (.int .i64 1)) = some (iv ((bs.length : Int) - 1)) := ibin_sub (by omega) (by omega)
  simp only [c, RR, len_ro, e]
  refine c_impl_in ?_
  cases c1 : inB 0 ((bs.length : Int) - 1) k
  · rw [if_pos c1] at h
    simp only [bld2a, RR]
    exact fin_int hφ rfl h
  rw [if_neg (by rw [c1]; simp)] at h
  have hk := inB_iff.1 c1
  by_cases c2 : k = 0
  · rw [if_pos c2] at h
    simp only [c2, bld2a, RR]
    exact fin_int hφ rfl h
  rw [if_neg c2, hup] at h
  simp only [c2, RR]
  obtain ⟨n, rfl⟩ : ∃ n : Nat, k = (n : Int) := ⟨k.toNat, by omega⟩
  refine c_impl_around hp.ne hl hp.sm (fun hn => ?_) (fun up' hu => ?_)
  · rw [hup] at hn; cases hn
  rw [hup] at hu
  cases hu
  have hups := ups_of hup
  simp only [aext0, aext1, ro_rd (up := up) (n := n) (by rw [hups.len]; omega), lod_one, bld2b, RR]
  rw [Int.toNat_natCast] at h
  exact fin_int hφ rfl h
theorem c_spec_BlockAround {bs : List Blk} {k : Int} (hs : sC bs) (h : R (.ret (arnV bs k)) σ) : acall TP fn_spec_BlockAround [roBk bs, iv k] σ R := by
  refine s_spec_BlockAround_ok ?_
  unfold s_spec_BlockAround
  unfold arnV at h
  intro φ hφ
  refine c_spec_l10Fault hs (fun c => ?_) (fun c up hp _ hup => ?_)
  · rw [if_neg c] at h
    simp only [aext0, aext1, c, bld2a, RR]
    exact fin_int hφ rfl h
  rw [if_pos c] at h
  have hl := hp.len
  have e : ibin .sub (iv (bs.length : Int)) (.val (.int .i64 1)) = some (iv ((bs.length : Int) - 1)) := ibin_sub (by omega) (by omega)
  simp only [aext0, aext1, RR, len_ro, e]
  refine c_spec_l1In ?_
  cases c1 : inB 0 ((bs.length : Int) - 1) k
  · rw [if_pos c1] at h
    simp only [bld2a, RR]
    exact fin_int hφ rfl h
  rw [if_neg (by rw [c1]; simp)] at h
  have hk := inB_iff.1 c1
  by_cases c2 : k = 0
  · rw [if_pos c2] at h
    simp only [c2, bld2a, RR]
    exact fin_int hφ rfl h
  rw [if_neg c2, hup] at h
  obtain ⟨n, rfl⟩ : ∃ n : Nat, k = (n : Int) := ⟨k.toNat, by omega⟩
  have hups := ups_of hup
  simp only [c2, ro_rd (up := up) (n := n) (by rw [hups.len]; omega), lod_one, bld2b, RR]
  rw [Int.toNat_natCast] at h
  exact fin_int hφ rfl h
/-! ### how deep -/
def dpK (os : List OpD) (out : List Int) : Nat → Int → Int
  | 0, m => m
  | k + 1, m => if 0 ≤ atH out k then max (dpK os out k m) (max (atH out k) (nextH (opA os k) (atH out k))) else dpK os out k m
noncomputable def dpA (bs : List Blk) : Nat → Int
  | 0 => 0
  | i + 1 => match hts (bs.getD i default).ops with
    | some out => dpK (bs.getD i default).ops out out.length (dpA bs i)
    | none => dpA bs i
noncomputable def deepV (bs : List Blk) : AV := .agg [iv (codeF bs), iv (if codeF bs = 0 then dpA bs bs.length else 0)]
theorem amm3_max (a b c : Int) : amm3 true (iv a) (iv b) (iv c) = some (iv (max a (max b c))) := by
  show some (iv (if c > (if b > a then b else a) then c else (if b > a then b else a))) = _
  congr 2
  rw [Int.max_def, Int.max_def]
  repeat' split <;> try omega
theorem c_spec_l1Max {a b : Int} (h : R (.ret (iv (max a b))) σ) : acall TP fn_spec_l1Max [iv a, iv b] σ R := by
  refine s_spec_l1Max_ok ?_
  unfold s_spec_l1Max
  by_cases c : b < a
  · simp only [c, RR]
    rw [Int.max_eq_left (by omega)] at h
    exact ret_here h
  · simp only [c, RR]
    rw [Int.max_eq_right (by omega)] at h
    exact ret_here h
theorem c_impl_DeepestOf {bs : List Blk} (h : R (.ret (deepV bs)) σ) : acall TP fn_impl_DeepestOf [roBk bs] σ R := by
  refine s_impl_DeepestOf_ok ?_
  unfold s_impl_DeepestOf
  unfold deepV at h
  intro φ hφ
  refine c_impl_CodeFault ?_
  by_cases c : codeF bs = 0
  case neg =>
    rw [if_neg c] at h
    simp only [c, bld2a, RR]
    exact fin_int hφ rfl h
  rw [if_pos c, c] at h
  obtain ⟨hp, hall, _⟩ := codeF_pre c
  have hl := hp.len
  simp only [c, RR, len_ro]
  refine lp_for bs.length (fun i => (AV.ptr φ 0 0 0, iv (dpA bs i), roBk bs, iv (bs.length : Int), iv (i : Int), ())) (fun i σ' => σ' = σ.set φ ⟨0, 2, [[iv 0, iv 0]]⟩) rfl rfl ?_
  rintro i _ hi rfl R' hR'
  by_cases hlt : i < bs.length
  · have g : (i : Int) < (bs.length : Int) := by omega
    obtain ⟨hsm, hbl⟩ := hp.bsm hlt
    have eb : bs.getD i default = bs[i] := (blk_at hlt).symm
    simp only [g, idx_ro hlt len_encBlk, RR, RT]
    refine new_encBlk rfl ?_
    simp only [lodA_all (len_encBlk _), RR]
    refine c_impl_heightsOf hsm hbl ?_
    cases hh : hts bs[i].ops with
    | none => exact (hall _ (List.getElem_mem hlt) hh).elim
    | some out =>
    have hO := hts_some hh
    have hol := hO.len
    have hstep : dpA bs (i + 1) = dpK bs[i].ops out out.length (dpA bs i) := by simp only [dpA]; rw [eb, hh]
    rw [htsV_some hh]
    simp only [aext0, aext1, RR, len_ro]
    refine lp_for out.length (fun j => (AV.ptr φ 0 0 0, iv (dpK bs[i].ops out j (dpA bs i)), .rop (encBlk bs[i]) 0, roBk bs, iv (bs.length : Int), iv (i : Int), AV.ro (ivs out), iv (out.length : Int), iv (j : Int), ())) (fun j σ' => σ' = σ.set φ ⟨0, 2, [[iv 0, iv 0]]⟩) rfl rfl ?_
    rintro j _ hj rfl R2 hR2
    by_cases hj2 : j < out.length
    · have g2 : (j : Int) < (out.length : Int) := by omega
      have hjo : j < bs[i].ops.length := by omega
      have hso := hsm _ (List.getElem_mem hjo)
      have eo : opA bs[i].ops j = bs[i].ops[j] := (op_at hjo).symm
      simp only [g2, jn, ro_rd hj2, lod_one, RR]
      by_cases h0 : 0 ≤ atH out j
      · have hb := hO.bnd j hjo
        have ht := takes_le hso
        have hpu := puts_le bs[i].ops[j]
        have e5 : ibin .sub (iv (atH out j)) (iv (takesN bs[i].ops[j])) = some (iv (atH out j - takesN bs[i].ops[j])) := ibin_sub (by omega) (by omega)
        have e6 : ibin .add (iv (atH out j - takesN bs[i].ops[j])) (iv (putsN bs[i].ops[j])) = some (iv (nextH bs[i].ops[j] (atH out j))) := ibin_add (by omega) (by omega)
        have en : dpK bs[i].ops out (j + 1) (dpA bs i) = max (dpK bs[i].ops out j (dpA bs i)) (max (atH out j) (nextH bs[i].ops[j] (atH out j))) := by simp only [dpK]; rw [if_pos h0, eo]
        simp only [h0, idx_ro hjo len_encOp, lodA_all (len_encOp _), RR, RT]
        refine c_impl_Op_takes hso ?_
        simp only [e5, idx_ro hjo len_encOp, lodA_all (len_encOp _), eq_self, and_true, true_and, RR, RT]
        refine c_impl_Op_puts ?_
        simp only [e6, amm3_max, ibin_up hj2 (by omega), eq_self, and_true, true_and, RR]
        have := hR2 hj2 _ _ (.refl _) rfl
        rw [en] at this
        exact this
      · have en : dpK bs[i].ops out (j + 1) (dpA bs i) = dpK bs[i].ops out j (dpA bs i) := by simp only [dpK]; rw [if_neg h0]
        simp only [h0, ibin_up hj2 (by omega), RR]
        have := hR2 hj2 _ _ (.refl _) rfl
        rw [en] at this
        exact this
    · have g2 : ¬ (j : Int) < (out.length : Int) := by omega
      obtain rfl : j = out.length := by omega
      rw [← hstep]
      simp only [g2, ibin_up hlt (by omega), RR]
      exact hR' hlt _ _ (.refl _) rfl
  · have g : ¬ (i : Int) < (bs.length : Int) := by omega
    obtain rfl : i = bs.length := by omega
    simp only [g, bld2b, RR]
    exact fin_int hφ rfl h
theorem c_spec_DeepestOf {bs : List Blk} (hs : sC bs) (h : R (.ret (deepV bs)) σ) : acall TP fn_spec_DeepestOf [roBk bs] σ R := by
  refine s_spec_DeepestOf_ok ?_
  unfold s_spec_DeepestOf
  unfold deepV at h
  intro φ hφ
  refine c_spec_l10Fault hs (fun c => ?_) (fun c up hp hall _ => ?_)
  · rw [if_neg c] at h
    simp only [aext0, aext1, c, bld2a, RR]
    exact fin_int hφ rfl h
  rw [if_pos c, c] at h
  have hl := hp.len
  simp only [aext0, aext1, RR, len_ro]
  refine lp_for bs.length (fun i => (roBk bs, AV.ptr φ 0 0 0, iv (dpA bs i), iv (i : Int), ())) (fun i σ' => σ' = σ.set φ ⟨0, 2, [[iv 0, iv 0]]⟩) rfl rfl ?_
  rintro i _ hi rfl R' hR'
  simp only [RR, len_ro]
  by_cases hlt : i < bs.length
  · have g : (i : Int) < (bs.length : Int) := by omega
    obtain ⟨hsm, hbl⟩ := hp.bsm hlt
    have eb : bs.getD i default = bs[i] := (blk_at hlt).symm
    simp only [g, idx_ro hlt len_encBlk, RR]
    refine c_spec_l10Heights (hs _ (List.getElem_mem hlt)) ?_
    rw [htsW_ok (opsF_blk hp.ops _ (List.getElem_mem hlt))]
    cases hh : hts bs[i].ops with
    | none => exact (hall _ (List.getElem_mem hlt) hh).elim
    | some out =>
    have hO := hts_some hh
    have hol := hO.len
    have hstep : dpA bs (i + 1) = dpK bs[i].ops out out.length (dpA bs i) := by simp only [dpA]; rw [eb, hh]
    simp only [aext0, aext1, RR, len_ro]
    refine lp_for out.length (fun j => (roBk bs, AV.ptr φ 0 0 0, iv (dpK bs[i].ops out j (dpA bs i)), iv (i : Int), AV.ro (ivs out), iv (j : Int), ())) (fun j σ' => σ' = σ.set φ ⟨0, 2, [[iv 0, iv 0]]⟩) rfl rfl ?_
    rintro j _ hj rfl R2 hR2
    simp only [RR, len_ro]
    by_cases hj2 : j < out.length
    · have g2 : (j : Int) < (out.length : Int) := by omega
      have hjo : j < bs[i].ops.length := by omega
      have hso := hsm _ (List.getElem_mem hjo)
      have eo : opA bs[i].ops j = bs[i].ops[j] := (op_at hjo).symm
      simp only [g2, jn, idx_ro hlt len_encBlk, idx_ro hjo len_encOp, RR, RT]
      refine c_spec_l10Takes hso ?_
      simp only [aext0, aext1, ro_rd hj2, lod_one, RR]
      by_cases h0 : 0 ≤ atH out j
      · have hb := hO.bnd j hjo
        have ht := takes_le hso
        have hpu := puts_le bs[i].ops[j]
        have e5 : ibin .sub (iv (atH out j)) (iv (takesN bs[i].ops[j])) = some (iv (atH out j - takesN bs[i].ops[j])) := ibin_sub (by omega) (by omega)
        have e6 : ibin .add (iv (atH out j - takesN bs[i].ops[j])) (iv (putsN bs[i].ops[j])) = some (iv (nextH bs[i].ops[j] (atH out j))) := ibin_add (by omega) (by omega)
        have en : dpK bs[i].ops out (j + 1) (dpA bs i) = max (dpK bs[i].ops out j (dpA bs i)) (max (atH out j) (nextH bs[i].ops[j] (atH out j))) := by simp only [dpK]; rw [if_pos h0, eo]
        simp only [h0, ro_rd hj2, lod_one, e5, e6, RR]
        refine c_spec_l1Max ?_
        refine ⟨trivial, c_spec_l1Max ⟨trivial, ?_⟩⟩
        simp only [ibin_up hj2 (by omega), RR]
        have := hR2 hj2 _ _ (.refl _) rfl
        rw [en] at this
        exact this
      · have en : dpK bs[i].ops out (j + 1) (dpA bs i) = dpK bs[i].ops out j (dpA bs i) := by simp only [dpK]; rw [if_neg h0]
        simp only [h0, ibin_up hj2 (by omega), RR]
        have := hR2 hj2 _ _ (.refl _) rfl
        rw [en] at this
        exact this
    · have g2 : ¬ (j : Int) < (out.length : Int) := by omega
      obtain rfl : j = out.length := by omega
      rw [← hstep]
      simp only [g2, ibin_up hlt (by omega), RR]
      exact hR' hlt _ _ (.refl _) rfl
  · have g : ¬ (i : Int) < (bs.length : Int) := by omega
    obtain rfl : i = bs.length := by omega
    simp only [g, bld2b, RR]
    exact fin_int hφ rfl h
/-! ### the laws -/
theorem c_laws_FnExactFusedIn {bs : List Blk} (hb0 : bC 9223372036854775807 bs) (h : R (.ret (bv true)) σ) : acall TP fn_laws_FnExactFusedIn [roBk bs] σ R := by
  refine s_laws_FnExactFusedIn_ok ?_
  unfold s_laws_FnExactFusedIn
  refine c_laws_szBlockS (by decide) (by decide) hb0 fun v _ _ hb1 => ?_
  simp only [RR]
  refine apick_cases (fun _ => ret_here h) (fun c => ?_)
  have hb := hb1 (by have := of_decide_eq_false c; omega)
  refine c_laws_toBlockS hb ?_
  refine c_spec_FusedIn (bC_sC hb) ?_
  refine new_frz rfl rfl rfl (one2 rfl rfl) ?_
  refine c_laws_toBlockS hb ?_
  refine c_impl_FusedIn ?_
  refine new_frz rfl rfl rfl (one2 rfl rfl) ?_
  simp only [lodA_all (cs := [_, _]) (n := 2) rfl, RR]
  refine c_laws_eqIntResult ?_
  simp only [RR]
  refine c_laws_toBlockS hb ?_
  refine c_laws_eqBlockS hb ?_
  simp only [RR]
  exact ret_here h
theorem c_laws_FnExactDeepestOf {bs : List Blk} (hb0 : bC 9223372036854775807 bs) (h : R (.ret (bv true)) σ) : acall TP fn_laws_FnExactDeepestOf [roBk bs] σ R := by
  refine s_laws_FnExactDeepestOf_ok ?_
  unfold s_laws_FnExactDeepestOf
  refine c_laws_szBlockS (by decide) (by decide) hb0 fun v _ _ hb1 => ?_
  simp only [RR]
  refine apick_cases (fun _ => ret_here h) (fun c => ?_)
  have hb := hb1 (by have := of_decide_eq_false c; omega)
  refine c_laws_toBlockS hb ?_
  refine c_spec_DeepestOf (bC_sC hb) ?_
  refine new_frz rfl rfl rfl (one2 rfl rfl) ?_
  refine c_laws_toBlockS hb ?_
  refine c_impl_DeepestOf ?_
  refine new_frz rfl rfl rfl (one2 rfl rfl) ?_
  simp only [lodA_all (cs := [_, _]) (n := 2) rfl, RR]
  refine c_laws_eqIntResult ?_
  simp only [RR]
  refine c_laws_toBlockS hb ?_
  refine c_laws_eqBlockS hb ?_
  simp only [RR]
  exact ret_here h
theorem arnV_two (bs : List Blk) (k : Int) : ∃ a b : Int, arnV bs k = .agg [iv a, iv b] := by
  unfold arnV
  repeat' split
  all_goals exact ⟨_, _, rfl⟩
theorem c_laws_FnExactBlockAround {bs : List Blk} {k : Int} (hb0 : bC 9223372036854775807 bs) (h : R (.ret (bv true)) σ) : acall TP fn_laws_FnExactBlockAround [roBk bs, iv k] σ R := by
  refine s_laws_FnExactBlockAround_ok ?_
  unfold s_laws_FnExactBlockAround
  refine c_laws_szBlockS (by decide) (by decide) hb0 fun v _ _ hb1 => ?_
  simp only [RR]
  refine apick_cases (fun _ => ret_here h) (fun c => ?_)
  have hb := hb1 (by have := of_decide_eq_false c; omega)
  obtain ⟨a, b, e⟩ := arnV_two bs k
  refine c_laws_toBlockS hb ?_
  refine c_spec_BlockAround (bC_sC hb) ?_
  rw [e]
  refine new_frz rfl rfl rfl (one2 rfl rfl) ?_
  refine c_laws_toBlockS hb ?_
  refine c_impl_BlockAround ?_
  rw [e]
  refine new_frz rfl rfl rfl (one2 rfl rfl) ?_
  simp only [lodA_all (cs := [_, _]) (n := 2) rfl, RR]
  refine c_laws_eqIntResult ?_
  simp only [RR]
  refine c_laws_toBlockS hb ?_
  refine c_laws_eqBlockS hb ?_
  simp only [RR]
  exact ret_here h
end Go.Proofs.YtinhodpfgjddmaaGreatDoor.E
