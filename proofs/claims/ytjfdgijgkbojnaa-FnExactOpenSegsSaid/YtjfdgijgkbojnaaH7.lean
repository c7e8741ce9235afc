/- ListSegs: lists that are marked, and held. -/
import Derived.Test.YtjfdgijgkbojnaaH6
set_option linter.unusedSectionVars false
set_option linter.unusedSimpArgs false
set_option linter.unusedVariables false
namespace Go.Proofs.Ytjfdgijgkbojnaa.E
open Go Go.RowKit
variable [Lam]
variable {σ : AH} {R : AEnd → AH → Prop}
/-- What is written into a list of n. -/
def mk (k : Int) (n : Nat) : List Int := (List.range n).map fun i => k + (i : Nat)
@[simp] theorem mk_length (k : Int) (n : Nat) : (mk k n).length = n := by simp [mk]
theorem mk_succ (k : Int) (n : Nat) : mk k (n + 1) = mk k n ++ [k + n] := by simp [mk, List.range_succ]
theorem mk_get (k : Int) (n i : Nat) (h : i < (mk k n).length) : (mk k n)[i] = k + i := by simp [mk]
theorem set_mid {α : Type} {l r : List α} {x y : α} {i : Nat} (hl : l.length = i) : (l ++ x :: r).set i y = l ++ y :: r := by
  rw [List.set_append_right _ _ (by omega), show i - l.length = 0 from by omega]; rfl
theorem c_laws_markInt64S {a : AV} {xs : List Int} {k : Int} (hB : Buf σ 1 a (xs.map fun x => [iv x])) (h0 : 0 ≤ k) (hb : k + xs.length ≤ 1099511627776)
    (h : ∀ σ', Buf σ' 1 a ((mk k xs.length).map fun x => [iv x]) → (∀ ψ, ¬ Buf.fam a ψ → σ' ψ = σ ψ) → R (.ret (iv (k + xs.length))) σ') : acall TP fn_laws_markInt64S [a, iv k] σ R := by
  refine s_laws_markInt64S_ok ?_
  unfold s_laws_markInt64S
  refine lp_for xs.length (fun i => (a, iv (k + i), iv i, ())) (fun i σi => Buf σi 1 a ((mk k i).map (fun x => [iv x]) ++ (xs.drop i).map fun x => [iv x]) ∧ ∀ ψ, ¬ Buf.fam a ψ → σi ψ = σ ψ) (by simp [iv]; rfl) ⟨by simpa [mk] using hB, fun _ _ => rfl⟩ ?_
  rintro i σi hi ⟨k1, k2⟩ R' hR'
  have hlen := (k1.sl (by
    intro c hc
    rcases List.mem_append.1 hc with hc | hc <;> (obtain ⟨x, _, rfl⟩ := List.mem_map.1 hc; rfl))).len
  have hn : ((mk k i).map (fun x => [iv x]) ++ (xs.drop i).map fun x => [iv x]).length = xs.length := by simp; omega
  rw [hn] at hlen
  simp only [hlen, og_some', onr_ret, gval_true, gval_false, pickV_true, pickV_false, apick_true, apick_false, gpick_true, gpick_false, ibin_leq, ibin_geq, ibin_lss, ibin_gtr, ibin_eql, ibin_neq, sbin_eql, sbin_neq, aun_not, Bool.not_true, Bool.not_false, decide_true, decide_false, if_true, if_false, Bool.false_eq_true, fldA_ptr, fldA_rop, anil_ptr, lenStr_str, amm_max, amm_min, Nat.zero_add, Nat.add_zero, List.length_cons, List.length_nil, Nat.reduceAdd]
  by_cases hlt : i < xs.length
  · have g0 : (i : Int) < xs.length := by omega
    simp only [g0, og_some', onr_ret, gval_true, gval_false, pickV_true, pickV_false, apick_true, apick_false, gpick_true, gpick_false, ibin_leq, ibin_geq, ibin_lss, ibin_gtr, ibin_eql, ibin_neq, sbin_eql, sbin_neq, aun_not, Bool.not_true, Bool.not_false, decide_true, decide_false, if_true, if_false, Bool.false_eq_true, fldA_ptr, fldA_rop, anil_ptr, lenStr_str, amm_max, amm_min, Nat.zero_add, Nat.add_zero, List.length_cons, List.length_nil, Nat.reduceAdd]
    rcases k1 with ⟨_, e⟩ | ⟨φ, st, rfl, hF⟩
    · have := congrArg List.length e
      rw [hn] at this; simp only [List.length_nil] at this; omega
    rw [hn]
    rw [List.drop_eq_getElem_cons hlt, List.map_cons] at hF
    simp only [idx_own hF hlt, og_some', onr_ret, gval_true, gval_false, pickV_true, pickV_false, apick_true, apick_false, gpick_true, gpick_false, ibin_leq, ibin_geq, ibin_lss, ibin_gtr, ibin_eql, ibin_neq, sbin_eql, sbin_neq, aun_not, Bool.not_true, Bool.not_false, decide_true, decide_false, if_true, if_false, Bool.false_eq_true, fldA_ptr, fldA_rop, anil_ptr, lenStr_str, amm_max, amm_min, Nat.zero_add, Nat.add_zero, List.length_cons, List.length_nil, Nat.reduceAdd]
    refine sto_own (cs := [iv (k + i)]) hF (by simp) ?_ rfl rfl (by simp [AV.one, Value.oneCell']) ?_
    · simp only [List.getD]
      rw [List.getElem?_append_right (by simp)]
      simp
    · simp only [ibin_up hlt (by omega), ibin_add (a := k + i) (b := 1) (by omega) (by omega), og_some', onr_ret, gval_true, gval_false, pickV_true, pickV_false, apick_true, apick_false, gpick_true, gpick_false, ibin_leq, ibin_geq, ibin_lss, ibin_gtr, ibin_eql, ibin_neq, sbin_eql, sbin_neq, aun_not, Bool.not_true, Bool.not_false, decide_true, decide_false, if_true, if_false, Bool.false_eq_true, fldA_ptr, fldA_rop, anil_ptr, lenStr_str, amm_max, amm_min, Nat.zero_add, Nat.add_zero, List.length_cons, List.length_nil, Nat.reduceAdd]
      have e : k + (i : Int) + 1 = k + ((i + 1 : Nat) : Int) := by omega
      rw [e, set_mid (by simp)]
      rw [hn] at hR'
      refine hR' hlt _ _ (.refl _) ⟨.inr ⟨φ, st, ?_, ?_⟩, ?_⟩
      · congr 1; simp; omega
      · rw [AH.set_same, mk_succ]; simp
      · intro ψ hψ
        rw [AH.set_ne' (by rintro rfl; exact hψ ⟨_, _, _, rfl⟩)]
        exact k2 ψ (fun f => hψ (by obtain ⟨a1, a2, a3, e⟩ := f; cases e; exact ⟨_, _, _, rfl⟩))
  · have g0 : ¬ (i : Int) < xs.length := by omega
    obtain rfl : i = xs.length := by omega
    simp only [g0, og_some', onr_ret, gval_true, gval_false, pickV_true, pickV_false, apick_true, apick_false, gpick_true, gpick_false, ibin_leq, ibin_geq, ibin_lss, ibin_gtr, ibin_eql, ibin_neq, sbin_eql, sbin_neq, aun_not, Bool.not_true, Bool.not_false, decide_true, decide_false, if_true, if_false, Bool.false_eq_true, fldA_ptr, fldA_rop, anil_ptr, lenStr_str, amm_max, amm_min, Nat.zero_add, Nat.add_zero, List.length_cons, List.length_nil, Nat.reduceAdd]
    rw [List.drop_length, List.map_nil, List.append_nil] at k1
    exact ret_here (h σi k1 k2)
theorem c_laws_heldInt64S {a : AV} {n : Nat} {k : Int} (hS : Ns σ a (mk k n)) (h0 : 0 ≤ k) (hb : k + n ≤ 1099511627776)
    (h : R (.ret (iv (k + n))) σ) : acall TP fn_laws_heldInt64S [a, iv k] σ R := by
  refine s_laws_heldInt64S_ok ?_
  unfold s_laws_heldInt64S
  refine lp_read n (fun i => (a, iv (k + i), iv i, ())) (by simp [iv]; rfl) ?_
  intro i hi R' hR'
  have hl := hS.len
  rw [mk_length] at hl
  simp only [hl, og_some', onr_ret, gval_true, gval_false, pickV_true, pickV_false, apick_true, apick_false, gpick_true, gpick_false, ibin_leq, ibin_geq, ibin_lss, ibin_gtr, ibin_eql, ibin_neq, sbin_eql, sbin_neq, aun_not, Bool.not_true, Bool.not_false, decide_true, decide_false, if_true, if_false, Bool.false_eq_true, fldA_ptr, fldA_rop, anil_ptr, lenStr_str, amm_max, amm_min, Nat.zero_add, Nat.add_zero, List.length_cons, List.length_nil, Nat.reduceAdd]
  by_cases hlt : i < n
  · have g0 : (i : Int) < n := by omega
    have hlt' : i < (mk k n).length := by simpa using hlt
    obtain ⟨p, hp, hq, _⟩ := hS.at hlt'
    rw [mk_get] at hq
    simp only [g0, hp, hq, ibin_up hlt (by omega), ibin_add (a := k + i) (b := 1) (by omega) (by omega), og_some', onr_ret, gval_true, gval_false, pickV_true, pickV_false, apick_true, apick_false, gpick_true, gpick_false, ibin_leq, ibin_geq, ibin_lss, ibin_gtr, ibin_eql, ibin_neq, sbin_eql, sbin_neq, aun_not, Bool.not_true, Bool.not_false, decide_true, decide_false, if_true, if_false, Bool.false_eq_true, fldA_ptr, fldA_rop, anil_ptr, lenStr_str, amm_max, amm_min, Nat.zero_add, Nat.add_zero, List.length_cons, List.length_nil, Nat.reduceAdd]
    have e : k + (i : Int) + 1 = k + ((i + 1 : Nat) : Int) := by omega
    rw [e]
    exact hR' hlt _ (.refl _)
  · have g0 : ¬ (i : Int) < n := by omega
    obtain rfl : i = n := by omega
    simp only [g0, og_some', onr_ret, gval_true, gval_false, pickV_true, pickV_false, apick_true, apick_false, gpick_true, gpick_false, ibin_leq, ibin_geq, ibin_lss, ibin_gtr, ibin_eql, ibin_neq, sbin_eql, sbin_neq, aun_not, Bool.not_true, Bool.not_false, decide_true, decide_false, if_true, if_false, Bool.false_eq_true, fldA_ptr, fldA_rop, anil_ptr, lenStr_str, amm_max, amm_min, Nat.zero_add, Nat.add_zero, List.length_cons, List.length_nil, Nat.reduceAdd]
    exact ret_here h
theorem c_laws_markIntsResult {a : AV} {c : Int} {xs : List Int} {k : Int} (hB : Buf σ 1 a (xs.map fun x => [iv x])) (h0 : 0 ≤ k) (hb : k + xs.length ≤ 1099511627776)
    (h : ∀ σ', Buf σ' 1 a ((mk k xs.length).map fun x => [iv x]) → (∀ ψ, ¬ Buf.fam a ψ → σ ψ ≠ none → σ' ψ = σ ψ) → R (.ret (iv (k + xs.length))) σ') : acall TP fn_laws_markIntsResult [.agg [iv c, a], iv k] σ R := by
  refine s_laws_markIntsResult_ok ?_
  unfold s_laws_markIntsResult
  simp only [abox_agg, og_some', onr_ret, gval_true, gval_false, pickV_true, pickV_false, apick_true, apick_false, gpick_true, gpick_false, ibin_leq, ibin_geq, ibin_lss, ibin_gtr, ibin_eql, ibin_neq, sbin_eql, sbin_neq, aun_not, Bool.not_true, Bool.not_false, decide_true, decide_false, if_true, if_false, Bool.false_eq_true, fldA_ptr, fldA_rop, anil_ptr, lenStr_str, amm_max, amm_min, Nat.zero_add, Nat.add_zero, List.length_cons, List.length_nil, Nat.reduceAdd]
  intro φ hφ
  have hs : AH.Sub σ (σ.set φ ⟨0, 2, [[iv c, a]]⟩) := sub_set (.refl σ) hφ
  have e := lod_at (σ := σ.set φ ⟨0, 2, [[iv c, a]]⟩) (φ := φ) (st := 0) (i := 0) (off := 1) (c := a) (AH.set_same ..) rfl rfl
  simp only [e, og_some', onr_ret, gval_true, gval_false, pickV_true, pickV_false, apick_true, apick_false, gpick_true, gpick_false, ibin_leq, ibin_geq, ibin_lss, ibin_gtr, ibin_eql, ibin_neq, sbin_eql, sbin_neq, aun_not, Bool.not_true, Bool.not_false, decide_true, decide_false, if_true, if_false, Bool.false_eq_true, fldA_ptr, fldA_rop, anil_ptr, lenStr_str, amm_max, amm_min, Nat.zero_add, Nat.add_zero, List.length_cons, List.length_nil, Nat.reduceAdd]
  refine c_laws_markInt64S (hB.sub hs) h0 hb fun σ' k1 k2 => ?_
  simp only [og_some', onr_ret, gval_true, gval_false, pickV_true, pickV_false, apick_true, apick_false, gpick_true, gpick_false, ibin_leq, ibin_geq, ibin_lss, ibin_gtr, ibin_eql, ibin_neq, sbin_eql, sbin_neq, aun_not, Bool.not_true, Bool.not_false, decide_true, decide_false, if_true, if_false, Bool.false_eq_true, fldA_ptr, fldA_rop, anil_ptr, lenStr_str, amm_max, amm_min, Nat.zero_add, Nat.add_zero, List.length_cons, List.length_nil, Nat.reduceAdd]
  refine ret_here (h σ' k1 fun ψ h1 h2 => ?_)
  rw [k2 ψ h1, AH.set_ne' (by rintro rfl; exact h2 hφ)]
theorem c_laws_heldIntsResult {a : AV} {c : Int} {n : Nat} {k : Int} (hS : Ns σ a (mk k n)) (h0 : 0 ≤ k) (hb : k + n ≤ 1099511627776)
    (h : R (.ret (iv (k + n))) σ) : acall TP fn_laws_heldIntsResult [.agg [iv c, a], iv k] σ R := by
  refine s_laws_heldIntsResult_ok ?_
  unfold s_laws_heldIntsResult
  simp only [abox_agg, og_some', onr_ret, gval_true, gval_false, pickV_true, pickV_false, apick_true, apick_false, gpick_true, gpick_false, ibin_leq, ibin_geq, ibin_lss, ibin_gtr, ibin_eql, ibin_neq, sbin_eql, sbin_neq, aun_not, Bool.not_true, Bool.not_false, decide_true, decide_false, if_true, if_false, Bool.false_eq_true, fldA_ptr, fldA_rop, anil_ptr, lenStr_str, amm_max, amm_min, Nat.zero_add, Nat.add_zero, List.length_cons, List.length_nil, Nat.reduceAdd]
  intro φ hφ
  have hs : AH.Sub σ (σ.set φ ⟨0, 2, [[iv c, a]]⟩) := sub_set (.refl σ) hφ
  have e := lod_at (σ := σ.set φ ⟨0, 2, [[iv c, a]]⟩) (φ := φ) (st := 0) (i := 0) (off := 1) (c := a) (AH.set_same ..) rfl rfl
  simp only [e, og_some', onr_ret, gval_true, gval_false, pickV_true, pickV_false, apick_true, apick_false, gpick_true, gpick_false, ibin_leq, ibin_geq, ibin_lss, ibin_gtr, ibin_eql, ibin_neq, sbin_eql, sbin_neq, aun_not, Bool.not_true, Bool.not_false, decide_true, decide_false, if_true, if_false, Bool.false_eq_true, fldA_ptr, fldA_rop, anil_ptr, lenStr_str, amm_max, amm_min, Nat.zero_add, Nat.add_zero, List.length_cons, List.length_nil, Nat.reduceAdd]
  refine c_laws_heldInt64S (hS.sub hs) h0 hb ?_
  have g : ¬ k + (n : Int) < 0 := by omega
  simp only [g, og_some', onr_ret, gval_true, gval_false, pickV_true, pickV_false, apick_true, apick_false, gpick_true, gpick_false, ibin_leq, ibin_geq, ibin_lss, ibin_gtr, ibin_eql, ibin_neq, sbin_eql, sbin_neq, aun_not, Bool.not_true, Bool.not_false, decide_true, decide_false, if_true, if_false, Bool.false_eq_true, fldA_ptr, fldA_rop, anil_ptr, lenStr_str, amm_max, amm_min, Nat.zero_add, Nat.add_zero, List.length_cons, List.length_nil, Nat.reduceAdd]
  exact aret_sub hs h
theorem c_laws_eqIntsResult {a b : AV} {c d : Int} {xs ys : List Int} (hS : Ns σ a xs) (hT : Ns σ b ys) (hl : xs.length ≤ 1099511627776) (h : R (.ret (bv (decide (c = d) && decide (xs = ys)))) σ) :
    acall TP fn_laws_eqIntsResult [.agg [iv c, a], .agg [iv d, b]] σ R := by
  refine s_laws_eqIntsResult_ok ?_
  unfold s_laws_eqIntsResult
  simp only [abox_agg, og_some', onr_ret, gval_true, gval_false, pickV_true, pickV_false, apick_true, apick_false, gpick_true, gpick_false, ibin_leq, ibin_geq, ibin_lss, ibin_gtr, ibin_eql, ibin_neq, sbin_eql, sbin_neq, aun_not, Bool.not_true, Bool.not_false, decide_true, decide_false, if_true, if_false, Bool.false_eq_true, fldA_ptr, fldA_rop, anil_ptr, lenStr_str, amm_max, amm_min, Nat.zero_add, Nat.add_zero, List.length_cons, List.length_nil, Nat.reduceAdd]
  intro φ hφ ψ hψ
  simp only [AH.set_none] at hψ
  obtain ⟨hne, hψ⟩ := hψ
  have hs : AH.Sub σ ((σ.set φ ⟨0, 2, [[iv c, a]]⟩).set ψ ⟨0, 2, [[iv d, b]]⟩) := sub_set (sub_set (.refl σ) hφ) hψ
  have g1 : ((σ.set φ ⟨0, 2, [[iv c, a]]⟩).set ψ ⟨0, 2, [[iv d, b]]⟩) φ = some ⟨0, 2, [[iv c, a]]⟩ := by rw [AH.set_ne' (Ne.symm hne), AH.set_same]
  have g2 : ((σ.set φ ⟨0, 2, [[iv c, a]]⟩).set ψ ⟨0, 2, [[iv d, b]]⟩) ψ = some ⟨0, 2, [[iv d, b]]⟩ := AH.set_same ..
  simp only [lod_at (st := 0) (i := 0) (off := 0) (c := iv c) g1 rfl rfl, lod_at (st := 0) (i := 0) (off := 1) (c := a) g1 rfl rfl, lod_at (st := 0) (i := 0) (off := 0) (c := iv d) g2 rfl rfl, lod_at (st := 0) (i := 0) (off := 1) (c := b) g2 rfl rfl, og_some', onr_ret, gval_true, gval_false, pickV_true, pickV_false, apick_true, apick_false, gpick_true, gpick_false, ibin_leq, ibin_geq, ibin_lss, ibin_gtr, ibin_eql, ibin_neq, sbin_eql, sbin_neq, aun_not, Bool.not_true, Bool.not_false, decide_true, decide_false, if_true, if_false, Bool.false_eq_true, fldA_ptr, fldA_rop, anil_ptr, lenStr_str, amm_max, amm_min, Nat.zero_add, Nat.add_zero, List.length_cons, List.length_nil, Nat.reduceAdd]
  generalize hσ1 : (σ.set φ ⟨0, 2, [[iv c, a]]⟩).set ψ ⟨0, 2, [[iv d, b]]⟩ = σ1 at hs ⊢
  by_cases hn : c = d
  · simp only [decide_eq_true hn, Bool.true_and, og_some', onr_ret, gval_true, gval_false, pickV_true, pickV_false, apick_true, apick_false, gpick_true, gpick_false, ibin_leq, ibin_geq, ibin_lss, ibin_gtr, ibin_eql, ibin_neq, sbin_eql, sbin_neq, aun_not, Bool.not_true, Bool.not_false, decide_true, decide_false, if_true, if_false, Bool.false_eq_true, fldA_ptr, fldA_rop, anil_ptr, lenStr_str, amm_max, amm_min, Nat.zero_add, Nat.add_zero, List.length_cons, List.length_nil, Nat.reduceAdd] at h ⊢
    refine c_laws_eqInt64S (hS.sub hs) (hT.sub hs) hl ?_
    simp only [og_some', onr_ret, gval_true, gval_false, pickV_true, pickV_false, apick_true, apick_false, gpick_true, gpick_false, ibin_leq, ibin_geq, ibin_lss, ibin_gtr, ibin_eql, ibin_neq, sbin_eql, sbin_neq, aun_not, Bool.not_true, Bool.not_false, decide_true, decide_false, if_true, if_false, Bool.false_eq_true, fldA_ptr, fldA_rop, anil_ptr, lenStr_str, amm_max, amm_min, Nat.zero_add, Nat.add_zero, List.length_cons, List.length_nil, Nat.reduceAdd]
    by_cases hx : xs = ys
    · simp only [decide_eq_true hx, og_some', onr_ret, gval_true, gval_false, pickV_true, pickV_false, apick_true, apick_false, gpick_true, gpick_false, ibin_leq, ibin_geq, ibin_lss, ibin_gtr, ibin_eql, ibin_neq, sbin_eql, sbin_neq, aun_not, Bool.not_true, Bool.not_false, decide_true, decide_false, if_true, if_false, Bool.false_eq_true, fldA_ptr, fldA_rop, anil_ptr, lenStr_str, amm_max, amm_min, Nat.zero_add, Nat.add_zero, List.length_cons, List.length_nil, Nat.reduceAdd] at h ⊢; exact aret_sub hs h
    · simp only [decide_eq_false hx, og_some', onr_ret, gval_true, gval_false, pickV_true, pickV_false, apick_true, apick_false, gpick_true, gpick_false, ibin_leq, ibin_geq, ibin_lss, ibin_gtr, ibin_eql, ibin_neq, sbin_eql, sbin_neq, aun_not, Bool.not_true, Bool.not_false, decide_true, decide_false, if_true, if_false, Bool.false_eq_true, fldA_ptr, fldA_rop, anil_ptr, lenStr_str, amm_max, amm_min, Nat.zero_add, Nat.add_zero, List.length_cons, List.length_nil, Nat.reduceAdd] at h ⊢; exact aret_sub hs h
  · simp only [decide_eq_false hn, Bool.false_and, og_some', onr_ret, gval_true, gval_false, pickV_true, pickV_false, apick_true, apick_false, gpick_true, gpick_false, ibin_leq, ibin_geq, ibin_lss, ibin_gtr, ibin_eql, ibin_neq, sbin_eql, sbin_neq, aun_not, Bool.not_true, Bool.not_false, decide_true, decide_false, if_true, if_false, Bool.false_eq_true, fldA_ptr, fldA_rop, anil_ptr, lenStr_str, amm_max, amm_min, Nat.zero_add, Nat.add_zero, List.length_cons, List.length_nil, Nat.reduceAdd] at h ⊢
    exact aret_sub hs h

/-! ### stacks are marked -/
def marks : Int → List (AV × List Int) → List (AV × List Int)
  | _, [] => []
  | k, q :: qs => (q.1, mk k q.2.length) :: marks (k + q.2.length) qs
theorem marks_append : ∀ (xs ys : List (AV × List Int)) (k : Int), marks k (xs ++ ys) = marks k xs ++ marks (k + tot (xs.map Prod.snd)) ys := by
  intro xs
  induction xs with
  | nil => intro ys k; simp [marks, tot]
  | cons x xs ih =>
    intro ys k
    simp only [List.cons_append, marks, ih, List.map_cons, tot]
    have e : k + (x.2.length : Int) + (tot (xs.map Prod.snd) : Int) = k + ((x.2.length + tot (xs.map Prod.snd) : Nat) : Int) := by omega
    rw [e]
theorem marks_fst : ∀ (xs : List (AV × List Int)) (k : Int), (marks k xs).map Prod.fst = xs.map Prod.fst := by
  intro xs
  induction xs with
  | nil => intro k; rfl
  | cons x xs ih => intro k; simp [marks, ih]
theorem marks_length (xs : List (AV × List Int)) (k : Int) : (marks k xs).length = xs.length := by
  have := congrArg List.length (marks_fst xs k); simpa using this
theorem PB.turn {σ' : AH} {a : AV} {pre rest : List (AV × List Int)} {q : AV × List Int} {ys : List Int} (h : PB σ a (pre ++ q :: rest)) (hB : Buf σ' 1 q.1 (ys.map fun x => [iv x])) (hk : ∀ ψ, ¬ Buf.fam q.1 ψ → σ' ψ = σ ψ) : PB σ' a (pre ++ (q.1, ys) :: rest) := by
  have hq : q ∈ pre ++ q :: rest := by simp
  have hp := List.pairwise_append.1 h.pair
  have hp2 := List.pairwise_cons.1 hp.2.1
  refine ⟨?_, ?_, ?_, ?_⟩
  · have e : ((pre ++ (q.1, ys) :: rest).map fun q => [q.1]) = (pre ++ q :: rest).map fun q => [q.1] := by simp
    rw [e]
    exact h.out.keep fun ψ f => hk ψ fun g => h.sep q hq ψ g f
  · intro r hr
    rcases List.mem_append.1 hr with hr | hr
    · exact (h.ins r (by simp [hr])).keep fun ψ f => hk ψ fun g => hp.2.2 r hr q (by simp) ψ f g
    · rcases List.mem_cons.1 hr with rfl | hr
      · exact hB
      · exact (h.ins r (by simp [hr])).keep fun ψ f => hk ψ fun g => hp2.1 r hr ψ g f
  · intro r hr
    rcases List.mem_append.1 hr with hr | hr
    · exact h.sep r (by simp [hr])
    · rcases List.mem_cons.1 hr with rfl | hr
      · exact h.sep q hq
      · exact h.sep r (by simp [hr])
  · rw [List.pairwise_append]
    refine ⟨hp.1, List.pairwise_cons.2 ⟨fun r hr => hp2.1 r hr, hp2.2⟩, ?_⟩
    intro r hr x hx
    rcases List.mem_cons.1 hx with rfl | hx
    · exact hp.2.2 r hr q (by simp)
    · exact hp.2.2 r hr x (by simp [hx])
theorem c_laws_markSegPartS {a : AV} {qs : List (AV × List Int)} {k : Int} (hB : PB σ a qs) (h0 : 0 ≤ k) (hl : qs.length ≤ 1099511627776) (hb : k + tot (qs.map Prod.snd) ≤ 1099511627776)
    (h : ∀ σ', PB σ' a (marks k qs) → (∀ ψ, (∀ q, q ∈ qs → ¬ Buf.fam q.1 ψ) → σ' ψ = σ ψ) → R (.ret (iv (k + tot (qs.map Prod.snd)))) σ') : acall TP fn_laws_markSegPartS [a, iv k] σ R := by
  refine s_laws_markSegPartS_ok ?_
  unfold s_laws_markSegPartS
  refine lp_for qs.length (fun i => (a, iv (k + tot ((qs.take i).map Prod.snd)), iv i, ())) (fun i σi => PB σi a (marks k (qs.take i) ++ qs.drop i) ∧ ∀ ψ, (∀ q, q ∈ qs → ¬ Buf.fam q.1 ψ) → σi ψ = σ ψ)
    (by simp [iv, tot]; rfl) ⟨by simpa [marks] using hB, fun _ _ => rfl⟩ ?_
  rintro i σi hi ⟨k1, k2⟩ R' hR'
  have hlen := k1.ps.len
  have hn : ((marks k (qs.take i) ++ qs.drop i).map Prod.snd).length = qs.length := by simp [marks_length]; omega
  rw [hn] at hlen
  simp only [hlen, og_some', onr_ret, gval_true, gval_false, pickV_true, pickV_false, apick_true, apick_false, gpick_true, gpick_false, ibin_leq, ibin_geq, ibin_lss, ibin_gtr, ibin_eql, ibin_neq, sbin_eql, sbin_neq, aun_not, Bool.not_true, Bool.not_false, decide_true, decide_false, if_true, if_false, Bool.false_eq_true, fldA_ptr, fldA_rop, anil_ptr, lenStr_str, amm_max, amm_min, Nat.zero_add, Nat.add_zero, List.length_cons, List.length_nil, Nat.reduceAdd]
  by_cases hlt : i < qs.length
  · have g0 : (i : Int) < qs.length := by omega
    have hsn : ∀ j, (qs.take j).map Prod.snd = (qs.map Prod.snd).take j := fun j => List.map_take
    have hT := tot_take (qs.map Prod.snd) (i := i) (by simpa using hlt)
    have hT2 := tot_at (qs.map Prod.snd) (i := i) (by simpa using hlt)
    simp only [List.getElem_map, ← hsn] at hT hT2
    obtain ⟨p, hp, _, hat⟩ := (Buf.cs k1.out).at (i := i) (by rw [← List.length_map (f := Prod.snd), hn]; exact hlt)
    have hml : (marks k (qs.take i)).length = i := by rw [marks_length]; simp; omega
    have hget : (marks k (qs.take i) ++ qs.drop i)[i]'(by rw [← List.length_map (f := Prod.snd), hn]; exact hlt) = qs[i] := by
      rw [List.getElem_append_right (by omega)]
      simp [hml]
    rw [hget] at hat
    obtain ⟨p', hf, hl'⟩ := hat.fld 0 (by simp)
    simp only [List.getD_cons_zero] at hl'
    simp only [g0, hp, hf, hl', og_some', onr_ret, gval_true, gval_false, pickV_true, pickV_false, apick_true, apick_false, gpick_true, gpick_false, ibin_leq, ibin_geq, ibin_lss, ibin_gtr, ibin_eql, ibin_neq, sbin_eql, sbin_neq, aun_not, Bool.not_true, Bool.not_false, decide_true, decide_false, if_true, if_false, Bool.false_eq_true, fldA_ptr, fldA_rop, anil_ptr, lenStr_str, amm_max, amm_min, Nat.zero_add, Nat.add_zero, List.length_cons, List.length_nil, Nat.reduceAdd]
    rw [List.drop_eq_getElem_cons hlt] at k1
    refine c_laws_markInt64S (k1.ins qs[i] (List.mem_append_right _ (List.mem_cons_self ..))) (by omega) (by omega) fun σ' m1 m2 => ?_
    simp only [ibin_up hlt (by omega), og_some', onr_ret, gval_true, gval_false, pickV_true, pickV_false, apick_true, apick_false, gpick_true, gpick_false, ibin_leq, ibin_geq, ibin_lss, ibin_gtr, ibin_eql, ibin_neq, sbin_eql, sbin_neq, aun_not, Bool.not_true, Bool.not_false, decide_true, decide_false, if_true, if_false, Bool.false_eq_true, fldA_ptr, fldA_rop, anil_ptr, lenStr_str, amm_max, amm_min, Nat.zero_add, Nat.add_zero, List.length_cons, List.length_nil, Nat.reduceAdd]
    have e : k + (tot ((qs.take i).map Prod.snd) : Int) + (qs[i].2.length : Int) = k + (tot ((qs.take (i + 1)).map Prod.snd) : Int) := by rw [hT]; omega
    rw [e]
    refine hR' hlt _ _ (.refl _) ⟨?_, ?_⟩
    · have := k1.turn m1 m2
      rw [List.take_succ_eq_append_getElem hlt, marks_append]
      simpa [marks] using this
    · intro ψ hψ
      rw [m2 ψ (hψ _ (List.getElem_mem hlt))]
      exact k2 ψ hψ
  · have g0 : ¬ (i : Int) < qs.length := by omega
    obtain rfl : i = qs.length := by omega
    simp only [g0, og_some', onr_ret, gval_true, gval_false, pickV_true, pickV_false, apick_true, apick_false, gpick_true, gpick_false, ibin_leq, ibin_geq, ibin_lss, ibin_gtr, ibin_eql, ibin_neq, sbin_eql, sbin_neq, aun_not, Bool.not_true, Bool.not_false, decide_true, decide_false, if_true, if_false, Bool.false_eq_true, fldA_ptr, fldA_rop, anil_ptr, lenStr_str, amm_max, amm_min, Nat.zero_add, Nat.add_zero, List.length_cons, List.length_nil, Nat.reduceAdd]
    rw [List.take_length, List.drop_length, List.append_nil] at k1
    rw [List.take_length]
    exact ret_here (h σi k1 k2)
theorem c_laws_markSegs {a : AV} {size : Int} {qs : List (AV × List Int)} {k : Int} (hB : PB σ a qs) (h0 : 0 ≤ k) (hl : qs.length ≤ 1099511627776) (hb : k + tot (qs.map Prod.snd) ≤ 1099511627776)
    (h : ∀ σ', PB σ' a (marks k qs) → (∀ ψ, (∀ q, q ∈ qs → ¬ Buf.fam q.1 ψ) → σ ψ ≠ none → σ' ψ = σ ψ) → R (.ret (iv (k + tot (qs.map Prod.snd)))) σ') : acall TP fn_laws_markSegs [.agg [iv size, a], iv k] σ R := by
  refine s_laws_markSegs_ok ?_
  unfold s_laws_markSegs
  simp only [abox_agg, og_some', onr_ret, gval_true, gval_false, pickV_true, pickV_false, apick_true, apick_false, gpick_true, gpick_false, ibin_leq, ibin_geq, ibin_lss, ibin_gtr, ibin_eql, ibin_neq, sbin_eql, sbin_neq, aun_not, Bool.not_true, Bool.not_false, decide_true, decide_false, if_true, if_false, Bool.false_eq_true, fldA_ptr, fldA_rop, anil_ptr, lenStr_str, amm_max, amm_min, Nat.zero_add, Nat.add_zero, List.length_cons, List.length_nil, Nat.reduceAdd]
  intro φ hφ
  have hs : AH.Sub σ (σ.set φ ⟨0, 2, [[iv size, a]]⟩) := sub_set (.refl σ) hφ
  have e := lod_at (σ := σ.set φ ⟨0, 2, [[iv size, a]]⟩) (φ := φ) (st := 0) (i := 0) (off := 1) (c := a) (AH.set_same ..) rfl rfl
  simp only [e, og_some', onr_ret, gval_true, gval_false, pickV_true, pickV_false, apick_true, apick_false, gpick_true, gpick_false, ibin_leq, ibin_geq, ibin_lss, ibin_gtr, ibin_eql, ibin_neq, sbin_eql, sbin_neq, aun_not, Bool.not_true, Bool.not_false, decide_true, decide_false, if_true, if_false, Bool.false_eq_true, fldA_ptr, fldA_rop, anil_ptr, lenStr_str, amm_max, amm_min, Nat.zero_add, Nat.add_zero, List.length_cons, List.length_nil, Nat.reduceAdd]
  refine c_laws_markSegPartS (hB.sub hs) h0 hl hb fun σ' k1 k2 => ?_
  simp only [og_some', onr_ret, gval_true, gval_false, pickV_true, pickV_false, apick_true, apick_false, gpick_true, gpick_false, ibin_leq, ibin_geq, ibin_lss, ibin_gtr, ibin_eql, ibin_neq, sbin_eql, sbin_neq, aun_not, Bool.not_true, Bool.not_false, decide_true, decide_false, if_true, if_false, Bool.false_eq_true, fldA_ptr, fldA_rop, anil_ptr, lenStr_str, amm_max, amm_min, Nat.zero_add, Nat.add_zero, List.length_cons, List.length_nil, Nat.reduceAdd]
  refine ret_here (h σ' k1 fun ψ h1 h2 => ?_)
  rw [k2 ψ h1, AH.set_ne' (by rintro rfl; exact h2 hφ)]

/-! ### ListSegs -/
theorem c_spec_l12List {φ1 : Nat} {size : Int} {p : AV} {ps : List (List Int)} (hF : σ φ1 = some ⟨0, 2, [[iv size, p]]⟩) (hP : Ps σ p ps) (hb : ps.length + tot ps ≤ 1099511627776) (hb2 : tot ps ≤ 4294967296)
    (h : ∀ v σ', AH.Sub σ σ' → Buf (dif σ σ') 1 v (ps.flatten.map fun x => [iv x]) → R (.ret v) σ') : acall TP fn_spec_l12List [.ptr φ1 0 0 0] σ R := by
  refine s_spec_l12List_ok ?_
  unfold s_spec_l12List
  refine ⟨by decide, fun φ hφ => ?_⟩
  have hs2 : AH.Sub σ (σ.set φ ⟨0, 1, []⟩) := sub_set (.refl _) hφ
  simp only [List.replicate_zero]
  refine lp_rel ps.length (fun i x σi => ∃ a, x = (.ptr φ1 0 0 0, a, iv i, ()) ∧ AH.Sub σ σi ∧ Buf σi 1 a ((ps.take i).flatten.map fun x => [iv x]) ∧ ∀ ψ, Buf.fam a ψ → σ ψ = none) ?_ ?_
  · refine ⟨_, rfl, hs2, .inr ⟨φ, 0, by simp, by simp⟩, ?_⟩
    rintro ψ ⟨_, _, _, e⟩
    cases e; exact hφ
  rintro i x σi hi ⟨a, rfl, k1, k2, k3⟩ R' hR'
  have hPi := hP.sub k1
  have e1 := lod_at (st := 0) (i := 0) (off := 1) (c := p) (k1.at hF) rfl rfl
  simp only [e1, hPi.len, og_some', onr_ret, gval_true, gval_false, pickV_true, pickV_false, apick_true, apick_false, gpick_true, gpick_false, ibin_leq, ibin_geq, ibin_lss, ibin_gtr, ibin_eql, ibin_neq, sbin_eql, sbin_neq, aun_not, Bool.not_true, Bool.not_false, decide_true, decide_false, if_true, if_false, Bool.false_eq_true, fldA_ptr, fldA_rop, anil_ptr, lenStr_str, amm_max, amm_min, Nat.zero_add, Nat.add_zero, List.length_cons, List.length_nil, Nat.reduceAdd]
  by_cases hlt : i < ps.length
  · have g0 : (i : Int) < ps.length := by omega
    obtain ⟨v, q, v', hp, hq, hf, hl, hN⟩ := hPi.at hlt
    have hT2 := tot_at ps hlt
    simp only [g0, e1, hp, hf, hl, og_some', onr_ret, gval_true, gval_false, pickV_true, pickV_false, apick_true, apick_false, gpick_true, gpick_false, ibin_leq, ibin_geq, ibin_lss, ibin_gtr, ibin_eql, ibin_neq, sbin_eql, sbin_neq, aun_not, Bool.not_true, Bool.not_false, decide_true, decide_false, if_true, if_false, Bool.false_eq_true, fldA_ptr, fldA_rop, anil_ptr, lenStr_str, amm_max, amm_min, Nat.zero_add, Nat.add_zero, List.length_cons, List.length_nil, Nat.reduceAdd]
    have hfl : ((ps.take i).flatten.map fun x => [iv x]).length + (ps[i].map fun x => [iv x]).length ≤ 4294967296 := by
      simp only [List.length_map, tot_flatten]; omega
    refine Buf.app k2 (Sl.elems hN) (by intro c hc; obtain ⟨x, _, rfl⟩ := List.mem_map.1 hc; rfl) (by intro c hc; obtain ⟨x, _, rfl⟩ := List.mem_map.1 hc; intro y hy; simp at hy; subst hy; rfl) hfl ?_
    intro a' σ' b1 b2 b3 b4
    rw [← List.map_append, ← flat_take ps hlt] at b1
    simp only [ibin_up hlt (by omega), og_some', onr_ret, gval_true, gval_false, pickV_true, pickV_false, apick_true, apick_false, gpick_true, gpick_false, ibin_leq, ibin_geq, ibin_lss, ibin_gtr, ibin_eql, ibin_neq, sbin_eql, sbin_neq, aun_not, Bool.not_true, Bool.not_false, decide_true, decide_false, if_true, if_false, Bool.false_eq_true, fldA_ptr, fldA_rop, anil_ptr, lenStr_str, amm_max, amm_min, Nat.zero_add, Nat.add_zero, List.length_cons, List.length_nil, Nat.reduceAdd]
    refine hR' _ _ _ hlt (.refl _) ⟨a', rfl, ?_, b1, ?_⟩
    · intro χ F hχ
      have hn : ¬ Buf.fam a χ := fun hf => by rw [k3 χ hf] at hχ; cases hχ
      have hx := k1 χ F hχ
      rw [b2 χ hn (by rw [hx]; simp)]; exact hx
    · intro χ hχ
      rcases b3 χ hχ with hf | hn
      · exact k3 χ hf
      · exact k1.none hn
  · have g0 : ¬ (i : Int) < ps.length := by omega
    obtain rfl : i = ps.length := by omega
    simp only [g0, og_some', onr_ret, gval_true, gval_false, pickV_true, pickV_false, apick_true, apick_false, gpick_true, gpick_false, ibin_leq, ibin_geq, ibin_lss, ibin_gtr, ibin_eql, ibin_neq, sbin_eql, sbin_neq, aun_not, Bool.not_true, Bool.not_false, decide_true, decide_false, if_true, if_false, Bool.false_eq_true, fldA_ptr, fldA_rop, anil_ptr, lenStr_str, amm_max, amm_min, Nat.zero_add, Nat.add_zero, List.length_cons, List.length_nil, Nat.reduceAdd]
    rw [List.take_length] at k2
    exact ret_here (h a σi k1 (k2.dif k3))
noncomputable def lisR (size : Int) (ps : List (List Int)) : Int × List Int := if segF size ps = 0 then (0, ps.flatten) else (segF size ps, [])
theorem bldI_0 (x : Int) : bld [iv 0, nilS] [(0, 1), (1, 1)] [(0, iv x)] = some (.agg [iv x, nilS]) := rfl
theorem bldI_1 {v : AV} (hv : acells v = some [v]) : bld [iv 0, nilS] [(0, 1), (1, 1)] [(1, v)] = some (.agg [iv 0, v]) := by
  simp [bld, afill, hv, spl]
theorem c_spec_ListSegs {size : Int} {p : AV} {ps : List (List Int)} (hP : Ps σ p ps) (hb : ps.length + tot ps ≤ 1099511627776)
    (h : R (.ret (.agg [iv (lisR size ps).1, roN (lisR size ps).2])) σ) : acall TP fn_spec_ListSegs [.agg [iv size, p]] σ R := by
  refine s_spec_ListSegs_ok ?_
  unfold s_spec_ListSegs
  simp only [abox_agg, new_eq, og_some', onr_ret, gval_true, gval_false, pickV_true, pickV_false, apick_true, apick_false, gpick_true, gpick_false, ibin_leq, ibin_geq, ibin_lss, ibin_gtr, ibin_eql, ibin_neq, sbin_eql, sbin_neq, aun_not, Bool.not_true, Bool.not_false, decide_true, decide_false, if_true, if_false, Bool.false_eq_true, fldA_ptr, fldA_rop, anil_ptr, lenStr_str, amm_max, amm_min, Nat.zero_add, Nat.add_zero, List.length_cons, List.length_nil, Nat.reduceAdd]
  intro φ hφ ψ hψ
  simp only [AH.set_none] at hψ
  obtain ⟨hne, hψ⟩ := hψ
  have hs : AH.Sub σ ((σ.set φ ⟨0, 2, [[iv size, p]]⟩).set ψ ⟨0, 2, [[iv 0, nilS]]⟩) := sub_set (sub_set (.refl σ) hφ) hψ
  have hF : ((σ.set φ ⟨0, 2, [[iv size, p]]⟩).set ψ ⟨0, 2, [[iv 0, nilS]]⟩) φ = some ⟨0, 2, [[iv size, p]]⟩ := by rw [AH.set_ne' (Ne.symm hne), AH.set_same]
  have hG : ((σ.set φ ⟨0, 2, [[iv size, p]]⟩).set ψ ⟨0, 2, [[iv 0, nilS]]⟩) ψ = some ⟨0, 2, [[iv 0, nilS]]⟩ := AH.set_same ..
  generalize hσ1 : (σ.set φ ⟨0, 2, [[iv size, p]]⟩).set ψ ⟨0, 2, [[iv 0, nilS]]⟩ = σ1 at hs hF hG ⊢
  refine c_spec_l12Fault hF (hP.sub hs) hb ?_
  simp only [og_some', onr_ret, gval_true, gval_false, pickV_true, pickV_false, apick_true, apick_false, gpick_true, gpick_false, ibin_leq, ibin_geq, ibin_lss, ibin_gtr, ibin_eql, ibin_neq, sbin_eql, sbin_neq, aun_not, Bool.not_true, Bool.not_false, decide_true, decide_false, if_true, if_false, Bool.false_eq_true, fldA_ptr, fldA_rop, anil_ptr, lenStr_str, amm_max, amm_min, Nat.zero_add, Nat.add_zero, List.length_cons, List.length_nil, Nat.reduceAdd]
  by_cases c : segF size ps = 0
  · simp only [c, og_some', onr_ret, gval_true, gval_false, pickV_true, pickV_false, apick_true, apick_false, gpick_true, gpick_false, ibin_leq, ibin_geq, ibin_lss, ibin_gtr, ibin_eql, ibin_neq, sbin_eql, sbin_neq, aun_not, Bool.not_true, Bool.not_false, decide_true, decide_false, if_true, if_false, Bool.false_eq_true, fldA_ptr, fldA_rop, anil_ptr, lenStr_str, amm_max, amm_min, Nat.zero_add, Nat.add_zero, List.length_cons, List.length_nil, Nat.reduceAdd]
    obtain ⟨o1, o2, o3⟩ := seg_ok c
    refine c_spec_l12List hF (hP.sub hs) hb (by omega) fun v σ' k1 k2 => ?_
    have hone := (Buf.cs k2).one
    simp only [bldI_1 hone.1, og_some', onr_ret, gval_true, gval_false, pickV_true, pickV_false, apick_true, apick_false, gpick_true, gpick_false, ibin_leq, ibin_geq, ibin_lss, ibin_gtr, ibin_eql, ibin_neq, sbin_eql, sbin_neq, aun_not, Bool.not_true, Bool.not_false, decide_true, decide_false, if_true, if_false, Bool.false_eq_true, fldA_ptr, fldA_rop, anil_ptr, lenStr_str, amm_max, amm_min, Nat.zero_add, Nat.add_zero, List.length_cons, List.length_nil, Nat.reduceAdd]
    refine sto_own (cs := [iv 0, v]) (k1.at hG) (by simp) (by simp) rfl rfl ?_ ?_
    · intro x hx
      simp at hx
      rcases hx with rfl | rfl
      · rfl
      · exact hone.2
    simp [lodA, acellsAt]
    have hsub := sub_set (F := ⟨0, 2, [[iv 0, v]]⟩) (hs.trans k1) hψ
    have hd : AH.Sub (dif σ1 σ') (dif σ (σ'.set ψ ⟨0, 2, [[iv 0, v]]⟩)) := dif_keep' hs fun χ h1 _ => AH.set_ne' (by rintro rfl; rw [hG] at h1; cases h1)
    have hfz := Cs.fz (g := iv) ((Buf.cs k2).sub hd) (fun x _ => .same _)
    refine aret_freeze hsub (.agg2 (.same _) hfz) ?_
    have e : lisR size ps = (0, ps.flatten) := by simp [lisR, c]
    rw [e] at h; exact h
  · simp only [c, bldI_0, og_some', onr_ret, gval_true, gval_false, pickV_true, pickV_false, apick_true, apick_false, gpick_true, gpick_false, ibin_leq, ibin_geq, ibin_lss, ibin_gtr, ibin_eql, ibin_neq, sbin_eql, sbin_neq, aun_not, Bool.not_true, Bool.not_false, decide_true, decide_false, if_true, if_false, Bool.false_eq_true, fldA_ptr, fldA_rop, anil_ptr, lenStr_str, amm_max, amm_min, Nat.zero_add, Nat.add_zero, List.length_cons, List.length_nil, Nat.reduceAdd]
    refine sto_own (cs := [iv (segF size ps), nilS]) hG (by simp) (by simp) rfl rfl (by simp [AV.one, Value.oneCell']) ?_
    simp [lodA, acellsAt]
    have hsub := sub_set (F := ⟨0, 2, [[iv (segF size ps), nilS]]⟩) hs hψ
    refine aret_freeze hsub (.agg2 (.same _) .nil) ?_
    have e : lisR size ps = (segF size ps, []) := by simp [lisR, c]
    rw [e] at h; exact h
theorem c_impl_ListSegs {size : Int} {p : AV} {ps : List (List Int)} (hP : Ps σ p ps) (hb : ps.length + tot ps ≤ 1099511627776)
    (h : ∀ v σ', AH.Sub σ σ' → Buf (dif σ σ') 1 v ((lisR size ps).2.map fun x => [iv x]) → R (.ret (.agg [iv (lisR size ps).1, v])) σ') : acall TP fn_impl_ListSegs [.agg [iv size, p]] σ R := by
  refine s_impl_ListSegs_ok ?_
  unfold s_impl_ListSegs
  simp only [abox_agg, new_eq, og_some', onr_ret, gval_true, gval_false, pickV_true, pickV_false, apick_true, apick_false, gpick_true, gpick_false, ibin_leq, ibin_geq, ibin_lss, ibin_gtr, ibin_eql, ibin_neq, sbin_eql, sbin_neq, aun_not, Bool.not_true, Bool.not_false, decide_true, decide_false, if_true, if_false, Bool.false_eq_true, fldA_ptr, fldA_rop, anil_ptr, lenStr_str, amm_max, amm_min, Nat.zero_add, Nat.add_zero, List.length_cons, List.length_nil, Nat.reduceAdd]
  intro φ hφ ψ hψ
  simp only [AH.set_none] at hψ
  obtain ⟨hne, hψ⟩ := hψ
  have hs : AH.Sub σ ((σ.set φ ⟨0, 2, [[iv size, p]]⟩).set ψ ⟨0, 2, [[iv 0, nilS]]⟩) := sub_set (sub_set (.refl σ) hφ) hψ
  have hF : ((σ.set φ ⟨0, 2, [[iv size, p]]⟩).set ψ ⟨0, 2, [[iv 0, nilS]]⟩) φ = some ⟨0, 2, [[iv size, p]]⟩ := by rw [AH.set_ne' (Ne.symm hne), AH.set_same]
  have hG : ((σ.set φ ⟨0, 2, [[iv size, p]]⟩).set ψ ⟨0, 2, [[iv 0, nilS]]⟩) ψ = some ⟨0, 2, [[iv 0, nilS]]⟩ := AH.set_same ..
  generalize hσ1 : (σ.set φ ⟨0, 2, [[iv size, p]]⟩).set ψ ⟨0, 2, [[iv 0, nilS]]⟩ = σ1 at hs hF hG ⊢
  have e := lodA_at (st := 0) (i := 0) (n := 2) (cs := [iv size, p]) hF rfl rfl rfl
  simp only [e, og_some', onr_ret, gval_true, gval_false, pickV_true, pickV_false, apick_true, apick_false, gpick_true, gpick_false, ibin_leq, ibin_geq, ibin_lss, ibin_gtr, ibin_eql, ibin_neq, sbin_eql, sbin_neq, aun_not, Bool.not_true, Bool.not_false, decide_true, decide_false, if_true, if_false, Bool.false_eq_true, fldA_ptr, fldA_rop, anil_ptr, lenStr_str, amm_max, amm_min, Nat.zero_add, Nat.add_zero, List.length_cons, List.length_nil, Nat.reduceAdd]
  refine c_impl_SegsFault (hP.sub hs) hb ?_
  simp only [og_some', onr_ret, gval_true, gval_false, pickV_true, pickV_false, apick_true, apick_false, gpick_true, gpick_false, ibin_leq, ibin_geq, ibin_lss, ibin_gtr, ibin_eql, ibin_neq, sbin_eql, sbin_neq, aun_not, Bool.not_true, Bool.not_false, decide_true, decide_false, if_true, if_false, Bool.false_eq_true, fldA_ptr, fldA_rop, anil_ptr, lenStr_str, amm_max, amm_min, Nat.zero_add, Nat.add_zero, List.length_cons, List.length_nil, Nat.reduceAdd]
  by_cases c : segF size ps = 0
  · simp only [c, e, og_some', onr_ret, gval_true, gval_false, pickV_true, pickV_false, apick_true, apick_false, gpick_true, gpick_false, ibin_leq, ibin_geq, ibin_lss, ibin_gtr, ibin_eql, ibin_neq, sbin_eql, sbin_neq, aun_not, Bool.not_true, Bool.not_false, decide_true, decide_false, if_true, if_false, Bool.false_eq_true, fldA_ptr, fldA_rop, anil_ptr, lenStr_str, amm_max, amm_min, Nat.zero_add, Nat.add_zero, List.length_cons, List.length_nil, Nat.reduceAdd]
    obtain ⟨o1, o2, o3⟩ := seg_ok c
    refine c_impl_Segs_items (hP.sub hs) hb (by omega) fun v σ' k1 k2 => ?_
    have hone := (Buf.cs k2).one
    simp only [bldI_1 hone.1, og_some', onr_ret, gval_true, gval_false, pickV_true, pickV_false, apick_true, apick_false, gpick_true, gpick_false, ibin_leq, ibin_geq, ibin_lss, ibin_gtr, ibin_eql, ibin_neq, sbin_eql, sbin_neq, aun_not, Bool.not_true, Bool.not_false, decide_true, decide_false, if_true, if_false, Bool.false_eq_true, fldA_ptr, fldA_rop, anil_ptr, lenStr_str, amm_max, amm_min, Nat.zero_add, Nat.add_zero, List.length_cons, List.length_nil, Nat.reduceAdd]
    refine sto_own (cs := [iv 0, v]) (k1.at hG) (by simp) (by simp) rfl rfl ?_ ?_
    · intro x hx
      simp at hx
      rcases hx with rfl | rfl
      · rfl
      · exact hone.2
    simp [lodA, acellsAt]
    have hd : AH.Sub (dif σ1 σ') (dif σ (σ'.set ψ ⟨0, 2, [[iv 0, v]]⟩)) := dif_keep' hs fun χ h1 _ => AH.set_ne' (by rintro rfl; rw [hG] at h1; cases h1)
    have := h v _ (sub_set (F := ⟨0, 2, [[iv 0, v]]⟩) (hs.trans k1) hψ) (by simpa [lisR, c] using k2.sub hd)
    refine ret_here ?_
    simpa [lisR, c] using this
  · simp only [c, bldI_0, og_some', onr_ret, gval_true, gval_false, pickV_true, pickV_false, apick_true, apick_false, gpick_true, gpick_false, ibin_leq, ibin_geq, ibin_lss, ibin_gtr, ibin_eql, ibin_neq, sbin_eql, sbin_neq, aun_not, Bool.not_true, Bool.not_false, decide_true, decide_false, if_true, if_false, Bool.false_eq_true, fldA_ptr, fldA_rop, anil_ptr, lenStr_str, amm_max, amm_min, Nat.zero_add, Nat.add_zero, List.length_cons, List.length_nil, Nat.reduceAdd]
    refine sto_own (cs := [iv (segF size ps), nilS]) hG (by simp) (by simp) rfl rfl (by simp [AV.one, Value.oneCell']) ?_
    simp [lodA, acellsAt]
    have := h nilS _ (sub_set (F := ⟨0, 2, [[iv (segF size ps), nilS]]⟩) hs hψ) (.inl ⟨.inl rfl, by simp [lisR, c]⟩)
    refine ret_here ?_
    simpa [lisR, c] using this
theorem lisR_len (size : Int) (ps : List (List Int)) : (lisR size ps).2.length ≤ tot ps := by
  unfold lisR
  split
  · rw [tot_flatten]; exact Nat.le_refl _
  · simp
end Go.Proofs.Ytjfdgijgkbojnaa.E
