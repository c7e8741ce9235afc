/- The law of HeightsOf. -/
import Derived.Test.YtinhodpfgjddmaaGreatDoorP20
set_option linter.unusedSectionVars false
set_option linter.unusedSimpArgs false
set_option linter.unusedVariables false
namespace Go.Proofs.YtinhodpfgjddmaaGreatDoor.E
open Go Go.RowKit
variable [L : Lam]
variable {σ τ : AH} {R : AEnd → AH → Prop}
theorem nomH_none : NomH ah0 := fun φ F h => by cases h
theorem nomH_ints {φ st : Nat} {out : List Int} : NomH (ah0.set φ ⟨st, 1, ivs out⟩) := by
  intro ψ F h i j hi hj
  by_cases e : ψ = φ
  · subst e
    rw [AH.set_same] at h
    cases h
    have hj : j < 1 := hj
    obtain rfl : j = 0 := by omega
    have hi' : i < out.length := by simpa using hi
    have e : ((ivs out).getD i []).getD 0 .any = iv out[i] := by simp [List.getD, hi']
    simp only
    rw [e]
    exact .val _
  · rw [AH.set_ne' e] at h; cases h
theorem nom_res {c : Int} {l : AV} (h : Nom l) : Nom (.agg [iv c, l]) := by
  refine .agg fun i hi => ?_
  match i, hi with
  | 0, _ => exact .val _
  | 1, _ => exact h
theorem thaw_none (σ : AH) : thaw ah0 σ ah0 = σ := by
  funext φ
  unfold thaw
  cases e : σ φ <;> simp [ah0]
theorem sub_none (τ : AH) : AH.Sub ah0 τ := fun φ F h => by cases h
/-- What a call leaves to which a block was lent, and that hands back a list of its own. -/
theorem GL.thaw {σ1 : AH} {l : AV} {xs : List Int} (h : GL σ1 l xs) (hd : ∀ φ F, τ φ = some F → ah0 φ = none → σ1 φ = none) : GL (thaw ah0 τ σ1) l xs := by
  refine h.move fun φ F hF _ => ?_
  have : τ φ = none := by
    cases e : τ φ with
    | none => rfl
    | some G => rw [hd φ G e rfl] at hF; cases hF
  rw [thaw_other (.inl this)]
  exact hF
/-- A list that a function hands back as its own: none, or the whole of the heap. -/
def Own1 (σ1 : AH) (l : AV) (xs : List Int) : Prop := GL σ1 l xs ∧ NomH σ1
theorem lend_block {f : FuncId} {a : AV} {b : Blk} {C : Int} {xs : List Int} {K : AEnd → AH → Prop} (hZ : Fz ah0 τ a (roO b.ops)) (hM : MkO ah0 τ a)
    (hc : acall TP f [.agg (encBlk b)] ah0 fun e σ1 => ∃ l, Own1 σ1 l xs ∧ e = .ret (.agg [iv C, l]))
    (hK : ∀ l T, GL T l xs → Fz ah0 T a (roO b.ops) → MkO ah0 T a → K (.ret (.agg [iv C, l])) T) : acall TP f [.agg [iv b.args, a]] τ K := by
  refine (acall_lend (σ0 := ah0) (args := [.agg [iv b.args, a]]) (args' := [.agg (encBlk b)]) (Q := fun e σ1 => ∃ l, Own1 σ1 l xs ∧ e = .ret (.agg [iv C, l])) (sub_none τ) rfl ?_ (hc.mono ?_)).mono ?_
  · intro i hi
    obtain rfl : i = 0 := by simp at hi; omega
    exact Fz.agg2 (.same _) hZ
  · rintro e σ1 ⟨l, ⟨hG, hN⟩, rfl⟩
    exact ⟨nom_res hG.nom, hN, l, ⟨hG, hN⟩, rfl⟩
  · rintro e σ' ⟨σ1, ⟨l, ⟨hG, _⟩, rfl⟩, rfl, hd⟩
    have hm : ∀ φ F, ah0 φ = none → τ φ = some F → thaw ah0 τ σ1 φ = some F := fun φ F h0 hF => thaw_lent hF h0
    exact hK l _ (hG.thaw hd) (hZ.move (fun _ h => h) hm) (hM.move (fun _ h => h) hm)
theorem lend_eqBlock {a : AV} {b : Blk} {K : AEnd → AH → Prop} (hb : bO 1048576 b.ops) (hZ : Fz ah0 τ a (roO b.ops)) (hK : K (.ret (bv true)) τ) : acall TP fn_laws_eqBlock [.agg [iv b.args, a], .agg (encBlk b)] τ K := by
  refine (acall_lend (σ0 := ah0) (args := [.agg [iv b.args, a], .agg (encBlk b)]) (args' := [.agg (encBlk b), .agg (encBlk b)]) (Q := fun e σ1 => e = .ret (bv true) ∧ σ1 = ah0) (sub_none τ) rfl ?_ (c_laws_eqBlock hb ⟨.val _, nomH_none, rfl, rfl⟩)).mono ?_
  · intro i hi
    match i, hi with
    | 0, _ => exact Fz.agg2 (.same _) hZ
    | 1, _ => exact .same _
  · rintro e σ' ⟨σ1, ⟨rfl, rfl⟩, rfl, _⟩
    rw [thaw_none]
    exact hK
theorem c_impl_HeightsOf_one {b : Blk} : acall TP fn_impl_HeightsOf [.agg (encBlk b)] ah0 fun e σ1 => ∃ l, Own1 σ1 l (hgL b) ∧ e = .ret (.agg [iv (hgC b), l]) := by
  refine c_impl_HeightsOf_own (fun l hl h0 => ?_) (fun φ hφ => ?_)
  · subst hl
    exact ⟨nilS, ⟨.inl ⟨.inl rfl, h0⟩, nomH_none⟩, rfl⟩
  · exact ⟨_, ⟨.inr ⟨φ, 0, hgL b, rfl, AH.set_same .., fun j hj => List.getElem?_eq_getElem hj⟩, nomH_ints⟩, rfl⟩
theorem bB_sB {b : Blk} (h : bO 1048576 b.ops) : sB b := fun o ho => ⟨by have := (h.2 o ho).1; omega, fun d hd => by have := (h.2 o ho).2.2 d hd; omega⟩
set_option maxHeartbeats 1000000 in
theorem c_laws_FnExactHeightsOf {b : Blk} (hb0 : bO 9223372036854775807 b.ops) {R : AEnd → AH → Prop} (h : ∀ σ, R (.ret (bv true)) σ) : acall TP fn_laws_FnExactHeightsOf [.agg (encBlk b)] ah0 R := by
  have hlen := hgL_len b
  have hret : ∀ σ, aret (bv true) σ R := fun σ => ret_here (h σ)
  refine s_laws_FnExactHeightsOf_ok ?_
  unfold s_laws_FnExactHeightsOf
  refine box_encBlk ?_
  simp only [lodA_all (len_encBlk b), RR]
  refine c_laws_szBlock (by decide) (by decide) hb0 fun v _ _ hb1 => ?_
  simp only [RR]
  refine apick_cases (fun _ => hret _) (fun c => ?_)
  have hb := hb1 (by have := of_decide_eq_false c; omega)
  try simp only [lodA_all (len_encBlk b), RR]
  refine c_laws_toBlock hb ?_
  refine c_spec_HeightsOf (bB_sB hb) fun l0 hl0 ho0 => ?_
  refine new_frz rfl rfl rfl (one2 rfl ho0) ?_
  try simp only [lodA_all (len_encBlk b), RR]
  refine c_laws_toBlock_own hb fun a τ hM hZ hS => ?_
  have ha1 : a.one = true := by obtain ⟨φ, es, rfl, _⟩ := hM; rfl
  refine new_frz rfl rfl rfl (one2 rfl ha1) ?_
  try simp only [lodA_all (cs := [_, _]) (n := 2) rfl, RR]
  refine lend_block hZ hM c_impl_HeightsOf_one fun l T hG hZT hMT => ?_
  refine new_frz rfl rfl rfl (one2 rfl hG.one) ?_
  try simp only [lodA_all (cs := [_, _]) (n := 2) rfl, RR]
  refine c_laws_eqIntsResult hG.rd (hl0 T) (by omega) ?_
  try simp only [lodA_all (cs := [_, _]) (n := 2) rfl, lodA_all (len_encBlk b), RR]
  refine c_laws_toBlock hb ?_
  try simp only [lodA_all (cs := [_, _]) (n := 2) rfl, eq_self, and_true, true_and, RR]
  refine lend_eqBlock hb hZT ?_
  try simp only [lodA_all (cs := [_, _]) (n := 2) rfl, RR]
  refine c_laws_markBlock hMT fun k' T2 hk hMk => ?_
  have hG2 : GL T2 l (hgL b) := hG.move fun φ F hF h1 => hMk.one φ F hF h1
  have g : ¬ k' < 0 := by omega
  try simp only [jn, g, lodA_all (cs := [_, _]) (n := 2) rfl, RR]
  refine c_laws_eqIntsResult hG2.rd (hl0 T2) (by omega) ?_
  try simp only [lodA_all (cs := [_, _]) (n := 2) rfl, RR]
  refine c_laws_markIntsResult hG2 (by omega) fun T3 hG3 => ?_
  try simp only [lodA_all (cs := [_, _]) (n := 2) rfl, RR]
  refine c_laws_heldIntsResult hG3.rd (by omega) ?_
  have g2 : ¬ (((hgL b).length : Int) + 1) < 0 := by omega
  try simp only [g2, dec_self, lodA_all (len_encBlk b), RR]
  refine c_laws_toBlock hb ?_
  refine c_impl_HeightsOf fun l1 hl1 ho1 => ?_
  refine new_frz rfl rfl rfl (one2 rfl ho1) ?_
  try simp only [lodA_all (cs := [_, _]) (n := 2) rfl, RR]
  refine c_laws_eqIntsResult (hl1 T3) (hl0 T3) (by omega) ?_
  try simp only [lodA_all (cs := [_, _]) (n := 2) rfl, RR]
  refine c_laws_heldIntsResult hG3.rd (by omega) ?_
  try simp only [g2, dec_self, RR]
  exact hret _
end Go.Proofs.YtinhodpfgjddmaaGreatDoor.E
