/- The law of TargetsIn. -/
import Derived.Test.YtinhodpfgjddmaaGreatDoorP21
import Derived.Test.YtinhodpfgjddmaaGreatDoorQ3
set_option linter.unusedSectionVars false
set_option linter.unusedSimpArgs false
set_option linter.unusedVariables false
namespace Go.Proofs.YtinhodpfgjddmaaGreatDoor.E
open Go Go.RowKit
variable [L : Lam]
variable {σ τ : AH} {R : AEnd → AH → Prop}
theorem c_impl_TargetsIn_one {b : Blk} : acall TP fn_impl_TargetsIn [.agg (encBlk b)] ah0 fun e σ1 => ∃ l, Own1 σ1 l (tgV b) ∧ e = .ret (.agg [iv (blkF b), l]) := by
  refine c_impl_TargetsIn_own (fun l hl h0 => ?_) (fun φ st fs hφ => ?_)
  · exact ⟨l, ⟨.inl ⟨hl, h0⟩, nomH_none⟩, rfl⟩
  · exact ⟨_, ⟨.inr ⟨φ, st, tgV b ++ fs, rfl, AH.set_same .., fun j hj => by rw [List.getElem?_append_left hj, List.getElem?_eq_getElem hj]⟩, nomH_ints⟩, rfl⟩
set_option maxHeartbeats 1000000 in
theorem c_laws_FnExactTargetsIn {b : Blk} (hb0 : bO 9223372036854775807 b.ops) {R : AEnd → AH → Prop} (h : ∀ σ, R (.ret (bv true)) σ) : acall TP fn_laws_FnExactTargetsIn [.agg (encBlk b)] ah0 R := by
  have hlen := tgV_len b
  have hret : ∀ σ, aret (bv true) σ R := fun σ => ret_here (h σ)
  refine s_laws_FnExactTargetsIn_ok ?_
  unfold s_laws_FnExactTargetsIn
  refine box_encBlk ?_
  simp only [lodA_all (len_encBlk b), RR]
  refine c_laws_szBlock (by decide) (by decide) hb0 fun v _ _ hb1 => ?_
  simp only [RR]
  refine apick_cases (fun _ => hret _) (fun c => ?_)
  have hb := hb1 (by have := of_decide_eq_false c; omega)
  try simp only [lodA_all (len_encBlk b), RR]
  refine c_laws_toBlock hb ?_
  refine c_spec_TargetsIn (bB_sB hb) fun l0 hl0 ho0 => ?_
  refine new_frz rfl rfl rfl (one2 rfl ho0) ?_
  try simp only [lodA_all (len_encBlk b), RR]
  refine c_laws_toBlock_own hb fun a τ hM hZ hS => ?_
  have ha1 : a.one = true := by obtain ⟨φ, es, rfl, _⟩ := hM; rfl
  refine new_frz rfl rfl rfl (one2 rfl ha1) ?_
  try simp only [lodA_all (cs := [_, _]) (n := 2) rfl, RR]
  refine lend_block hZ hM c_impl_TargetsIn_one fun l T hG hZT hMT => ?_
  refine new_frz rfl rfl rfl (one2 rfl hG.one) ?_
  try simp only [lodA_all (cs := [_, _]) (n := 2) rfl, RR]
  refine c_laws_eqIntsResult hG.rd (hl0 T) (by omega) ?_
  try simp only [lodA_all (cs := [_, _]) (n := 2) rfl, lodA_all (len_encBlk b), RR]
  refine c_laws_toBlock hb ?_
  try simp only [lodA_all (cs := [_, _]) (n := 2) rfl, eq_self, and_true, true_and, RR]
  refine lend_eqBlock hb hZT ?_
  try simp only [lodA_all (cs := [_, _]) (n := 2) rfl, RR]
  refine c_laws_markBlock hMT fun k' T2 hk hMk => ?_
  have hG2 : GL T2 l (tgV b) := hG.move fun φ F hF h1 => hMk.one φ F hF h1
  have g : ¬ k' < 0 := by omega
  try simp only [jn, g, lodA_all (cs := [_, _]) (n := 2) rfl, RR]
  refine c_laws_eqIntsResult hG2.rd (hl0 T2) (by omega) ?_
  try simp only [lodA_all (cs := [_, _]) (n := 2) rfl, RR]
  refine c_laws_markIntsResult hG2 (by omega) fun T3 hG3 => ?_
  try simp only [lodA_all (cs := [_, _]) (n := 2) rfl, RR]
  refine c_laws_heldIntsResult hG3.rd (by omega) ?_
  have g2 : ¬ (((tgV b).length : Int) + 1) < 0 := by omega
  try simp only [g2, dec_self, lodA_all (len_encBlk b), RR]
  refine c_laws_toBlock hb ?_
  refine c_impl_TargetsIn fun l1 hl1 ho1 => ?_
  refine new_frz rfl rfl rfl (one2 rfl ho1) ?_
  try simp only [lodA_all (cs := [_, _]) (n := 2) rfl, RR]
  refine c_laws_eqIntsResult (hl1 T3) (hl0 T3) (by omega) ?_
  try simp only [lodA_all (cs := [_, _]) (n := 2) rfl, RR]
  refine c_laws_heldIntsResult hG3.rd (by omega) ?_
  try simp only [g2, dec_self, RR]
  exact hret _
end Go.Proofs.YtinhodpfgjddmaaGreatDoor.E
