/- CountOps. -/
import Derived.Test.YtinhodpfgjddmaaDoorP7
set_option linter.unusedSectionVars false
set_option linter.unusedSimpArgs false
set_option linter.unusedVariables false
namespace Go.Proofs.YtinhodpfgjddmaaDoor.E
open Go Go.RowKit
variable [L : Lam]
variable {σ : AH} {R : AEnd → AH → Prop}
/-- The end of a function whose result is a code and a number. -/
theorem fin_int {φ : Nat} {a b : Int} {z : List AV} (hφ : σ φ = none) (hz : z.length = 2) (h : R (.ret (.agg [iv a, iv b])) σ) :
    sto 2 (.ptr φ 0 0 0) (.agg [iv a, iv b]) (σ.set φ ⟨0, 2, [z]⟩) fun σ => og (lodA 2 (.ptr φ 0 0 0) σ) fun r => aret r σ R := fin_cell hφ hz rfl (one2 rfl rfl) h
def cntB (bs : List Blk) : Nat := (bs.map fun b => b.ops.length).sum
theorem cntB_take {bs : List Blk} {i : Nat} (h : i < bs.length) : cntB (bs.take (i + 1)) = cntB (bs.take i) + bs[i].ops.length := by
  unfold cntB
  rw [List.take_succ_eq_append_getElem h, List.map_append, List.sum_append]
  simp
theorem opsF_len {bs : List Blk} (h : opsF bs = 0) : bs.length ≤ 60 ∧ ∀ b, b ∈ bs → b.ops.length ≤ 200 := by
  unfold opsF at h
  split at h
  · cases h
  refine ⟨by omega, fun b hb => ?_⟩
  obtain ⟨i, hi, rfl⟩ := List.getElem_of_mem hb
  have := firstF_zero _ _ h i (Nat.zero_le _) (by omega)
  rw [← blk_at hi] at this
  unfold blkF at this
  split at this
  · cases this
  split at this
  · cases this
  omega
theorem cntB_le {bs : List Blk} : ∀ i : Nat, (∀ b, b ∈ bs → b.ops.length ≤ 200) → i ≤ bs.length → cntB (bs.take i) ≤ 200 * i := by
  intro i
  induction i with
  | zero => intro _ _; simp [cntB]
  | succ i ih =>
    intro hb hi
    rw [cntB_take (by omega)]
    have := ih hb (by omega)
    have := hb bs[i] (List.getElem_mem _)
    omega
theorem lodP {v : AV} {σ : AH} {o : Nat} {cs : List AV} (h : cs[o]? = some v) : lod (.rop cs o) σ = some v := by
  have : cs.drop o = v :: cs.drop (o + 1) := by
    obtain ⟨h1, h2⟩ := List.getElem?_eq_some_iff.1 h
    rw [← h2, List.drop_eq_getElem_cons h1]
  simp [lod, acellsAt, this]
theorem c_impl_CountOps {bs : List Blk} (h : R (.ret (.agg [iv (opsF bs), iv (if opsF bs = 0 then (cntB bs : Int) else 0)])) σ) : acall TP fn_impl_CountOps [roBk bs] σ R := by
  refine s_impl_CountOps_ok ?_
  unfold s_impl_CountOps
  intro φ hφ
  refine c_impl_opsFault ?_
  by_cases c : opsF bs = 0
  · rw [if_pos c, c] at h
    simp only [c, RR, len_ro]
    obtain ⟨hl, ho⟩ := opsF_len c
    refine lp_for bs.length (fun i => (.ptr φ 0 0 0, iv (cntB (bs.take i) : Nat), roBk bs, iv (bs.length : Int), iv (i : Int), ())) (fun i σ' => σ' = σ.set φ ⟨0, 2, [[iv 0, iv 0]]⟩) rfl rfl ?_
    rintro i _ hi rfl R' hR'
    by_cases hlt : i < bs.length
    · have g : (i : Int) < (bs.length : Int) := by omega
      simp only [g, idx_ro hlt len_encBlk, RR, RT]
      refine new_encBlk rfl ?_
      have h1 := cntB_le i ho hi
      have h2 := ho bs[i] (List.getElem_mem _)
      have e : ibin .add (iv (cntB (bs.take i) : Nat)) (.val (.int .i64 (bs[i].ops.length : Int))) = some (iv (cntB (bs.take (i + 1)) : Nat)) := by
        rw [ibin_add (by omega) (by omega), cntB_take hlt]; simp
      simp only [RR, RT, len_ro, ibin_up hlt (by omega), e]
      exact hR' hlt _ _ (.refl _) rfl
    · have g : ¬ (i : Int) < (bs.length : Int) := by omega
      obtain rfl : i = bs.length := by omega
      rw [List.take_length]
      simp only [g, RR]
      exact fin_int hφ rfl h
  · rw [if_neg c] at h
    simp only [c, RR]
    exact fin_int hφ rfl h
theorem c_spec_CountOps {bs : List Blk} (hs : sC bs) (h : R (.ret (.agg [iv (opsF bs), iv (if opsF bs = 0 then (cntB bs : Int) else 0)])) σ) : acall TP fn_spec_CountOps [roBk bs] σ R := by
  refine s_spec_CountOps_ok ?_
  unfold s_spec_CountOps
  intro φ hφ
  refine c_spec_l9Fault hs ?_
  by_cases c : opsF bs = 0
  · rw [if_pos c, c] at h
    simp only [c, RR, len_ro]
    obtain ⟨hl, ho⟩ := opsF_len c
    refine lp_for bs.length (fun i => (roBk bs, .ptr φ 0 0 0, iv (cntB (bs.take i) : Nat), iv (i : Int), ())) (fun i σ' => σ' = σ.set φ ⟨0, 2, [[iv 0, iv 0]]⟩) rfl rfl ?_
    rintro i _ hi rfl R' hR'
    by_cases hlt : i < bs.length
    · have g : (i : Int) < (bs.length : Int) := by omega
      have h1 := cntB_le i ho hi
      have h2 := ho bs[i] (List.getElem_mem _)
      have e : ibin .add (iv (cntB (bs.take i) : Nat)) (.val (.int .i64 (bs[i].ops.length : Int))) = some (iv (cntB (bs.take (i + 1)) : Nat)) := by
        rw [ibin_add (by omega) (by omega), cntB_take hlt]; simp
      simp only [RR, RT, len_ro, g, idx_ro hlt len_encBlk, ibin_up hlt (by omega), e]
      exact hR' hlt _ _ (.refl _) rfl
    · have g : ¬ (i : Int) < (bs.length : Int) := by omega
      obtain rfl : i = bs.length := by omega
      rw [List.take_length]
      simp only [len_ro, g, RR]
      exact fin_int hφ rfl h
  · rw [if_neg c] at h
    simp only [c, RR]
    exact fin_int hφ rfl h
theorem bC_sC {bs : List Blk} (h : bC 1048576 bs) : sC bs := fun b hb o ho => ⟨by have := ((h.2 b hb).2 o ho).1; omega, fun d hd => by have := ((h.2 b hb).2 o ho).2.2 d hd; omega⟩
theorem c_laws_FnExactCountOps {bs : List Blk} (hb0 : bC 9223372036854775807 bs) (h : R (.ret (bv true)) σ) : acall TP fn_laws_FnExactCountOps [roBk bs] σ R := by
  refine s_laws_FnExactCountOps_ok ?_
  unfold s_laws_FnExactCountOps
  refine c_laws_szBlockS (by decide) (by decide) hb0 fun v _ _ hb1 => ?_
  simp only [RR]
  refine apick_cases (fun _ => ret_here h) (fun c => ?_)
  have hb := hb1 (by have := of_decide_eq_false c; omega)
  refine c_laws_toBlockS hb ?_
  refine c_spec_CountOps (bC_sC hb) ?_
  refine new_frz rfl rfl rfl (one2 rfl rfl) ?_
  refine c_laws_toBlockS hb ?_
  refine c_impl_CountOps ?_
  refine new_frz rfl rfl rfl (one2 rfl rfl) ?_
  simp only [lodA_all (cs := [_, _]) (n := 2) rfl, RR]
  refine c_laws_eqIntResult ?_
  simp only [RR]
  refine c_laws_toBlockS hb ?_
  refine c_laws_eqBlockS hb ?_
  simp only [RR]
  exact ret_here h
end Go.Proofs.YtinhodpfgjddmaaDoor.E
