import Derived.Test.YtjfdgijgkbojnaaG1m
import Derived.Test.YtjfdgijgkbojnaaHMa1
/- ListSegs: lists that are marked, and held. -/
set_option linter.unusedSectionVars false
set_option linter.unusedSimpArgs false
set_option linter.unusedVariables false
namespace Go.Proofs.Ytjfdgijgkbojnaa.E
open Go Go.RowKit
variable [Lam]
variable {σ : AH} {R : AEnd → AH → Prop}
/-- What is written into a list of n. -/
def mk (k : Int) (n : Nat) : List Int := (List.range n).map fun i => k + (i : Nat)
@[simp] theorem mk_length (k : Int) (n : Nat) : (mk k n).length = n := by simp [mk]
theorem mk_succ (k : Int) (n : Nat) : mk k (n + 1) = mk k n ++ [k + n] := by simp [mk, List.range_succ]
theorem mk_get (k : Int) (n i : Nat) (h : i < (mk k n).length) : (mk k n)[i] = k + i := by simp [mk]
theorem set_mid {α : Type} {l r : List α} {x y : α} {i : Nat} (hl : l.length = i) : (l ++ x :: r).set i y = l ++ y :: r := by
  rw [List.set_append_right _ _ (by omega), show i - l.length = 0 from by omega]; rfl
theorem c_laws_markInt64S {a : AV} {xs : List Int} {k : Int} (hB : Buf σ 1 a (xs.map fun x => [iv x])) (h0 : 0 ≤ k) (hb : k + xs.length ≤ 1099511627776)
    (h : ∀ σ', Buf σ' 1 a ((mk k xs.length).map fun x => [iv x]) → (∀ ψ, ¬ Buf.fam a ψ → σ' ψ = σ ψ) → R (.ret (iv (k + xs.length))) σ') : acall TP fn_laws_markInt64S [a, iv k] σ R := by
  refine s_laws_markInt64S_ok ?_
  unfold s_laws_markInt64S
  refine lp_for xs.length (fun i => (a, iv (k + i), iv i, ())) (fun i σi => Buf σi 1 a ((mk k i).map (fun x => [iv x]) ++ (xs.drop i).map fun x => [iv x]) ∧ ∀ ψ, ¬ Buf.fam a ψ → σi ψ = σ ψ) (by simp [iv]; rfl) ⟨by simpa [mk] using hB, fun _ _ => rfl⟩ ?_
  rintro i σi hi ⟨k1, k2⟩ R' hR'
  have hlen := (k1.sl (by
    intro c hc
    rcases List.mem_append.1 hc with hc | hc <;> (obtain ⟨x, _, rfl⟩ := List.mem_map.1 hc; rfl))).len
  have hn : ((mk k i).map (fun x => [iv x]) ++ (xs.drop i).map fun x => [iv x]).length = xs.length := by simp; omega
  rw [hn] at hlen
  simp only [hlen, og_some', onr_ret, gval_true, gval_false, pickV_true, pickV_false, apick_true, apick_false, gpick_true, gpick_false, ibin_leq, ibin_geq, ibin_lss, ibin_gtr, ibin_eql, ibin_neq, sbin_eql, sbin_neq, aun_not, Bool.not_true, Bool.not_false, decide_true, decide_false, if_true, if_false, Bool.false_eq_true, fldA_ptr, fldA_rop, anil_ptr, lenStr_str, amm_max, amm_min, Nat.zero_add, Nat.add_zero, List.length_cons, List.length_nil, Nat.reduceAdd]
  by_cases hlt : i < xs.length
  · have g0 : (i : Int) < xs.length := by omega
    simp only [g0, og_some', onr_ret, gval_true, gval_false, pickV_true, pickV_false, apick_true, apick_false, gpick_true, gpick_false, ibin_leq, ibin_geq, ibin_lss, ibin_gtr, ibin_eql, ibin_neq, sbin_eql, sbin_neq, aun_not, Bool.not_true, Bool.not_false, decide_true, decide_false, if_true, if_false, Bool.false_eq_true, fldA_ptr, fldA_rop, anil_ptr, lenStr_str, amm_max, amm_min, Nat.zero_add, Nat.add_zero, List.length_cons, List.length_nil, Nat.reduceAdd]
    rcases k1 with ⟨_, e⟩ | ⟨φ, st, rfl, hF⟩
    · have := congrArg List.length e
      rw [hn] at this; simp only [List.length_nil] at this; omega
    rw [hn]
    rw [List.drop_eq_getElem_cons hlt, List.map_cons] at hF
    simp only [idx_own hF hlt, og_some', onr_ret, gval_true, gval_false, pickV_true, pickV_false, apick_true, apick_false, gpick_true, gpick_false, ibin_leq, ibin_geq, ibin_lss, ibin_gtr, ibin_eql, ibin_neq, sbin_eql, sbin_neq, aun_not, Bool.not_true, Bool.not_false, decide_true, decide_false, if_true, if_false, Bool.false_eq_true, fldA_ptr, fldA_rop, anil_ptr, lenStr_str, amm_max, amm_min, Nat.zero_add, Nat.add_zero, List.length_cons, List.length_nil, Nat.reduceAdd]
    refine sto_own (cs := [iv (k + i)]) hF (by simp) ?_ rfl rfl (by simp [AV.one, Value.oneCell']) ?_
    · simp only [List.getD]
      rw [List.getElem?_append_right (by simp)]
      simp
    · simp only [ibin_up hlt (by omega), ibin_add (a := k + i) (b := 1) (by omega) (by omega), og_some', onr_ret, gval_true, gval_false, pickV_true, pickV_false, apick_true, apick_false, gpick_true, gpick_false, ibin_leq, ibin_geq, ibin_lss, ibin_gtr, ibin_eql, ibin_neq, sbin_eql, sbin_neq, aun_not, Bool.not_true, Bool.not_false, decide_true, decide_false, if_true, if_false, Bool.false_eq_true, fldA_ptr, fldA_rop, anil_ptr, lenStr_str, amm_max, amm_min, Nat.zero_add, Nat.add_zero, List.length_cons, List.length_nil, Nat.reduceAdd]
      have e : k + (i : Int) + 1 = k + ((i + 1 : Nat) : Int) := by omega
      rw [e, set_mid (by simp)]
      rw [hn] at hR'
      refine hR' hlt _ _ (.refl _) ⟨.inr ⟨φ, st, ?_, ?_⟩, ?_⟩
      · congr 1; simp; omega
      · rw [AH.set_same, mk_succ]; simp
      · intro ψ hψ
        rw [AH.set_ne' (by rintro rfl; exact hψ ⟨_, _, _, rfl⟩)]
        exact k2 ψ (fun f => hψ (by obtain ⟨a1, a2, a3, e⟩ := f; cases e; exact ⟨_, _, _, rfl⟩))
  · have g0 : ¬ (i : Int) < xs.length := by omega
    obtain rfl : i = xs.length := by omega
    simp only [g0, og_some', onr_ret, gval_true, gval_false, pickV_true, pickV_false, apick_true, apick_false, gpick_true, gpick_false, ibin_leq, ibin_geq, ibin_lss, ibin_gtr, ibin_eql, ibin_neq, sbin_eql, sbin_neq, aun_not, Bool.not_true, Bool.not_false, decide_true, decide_false, if_true, if_false, Bool.false_eq_true, fldA_ptr, fldA_rop, anil_ptr, lenStr_str, amm_max, amm_min, Nat.zero_add, Nat.add_zero, List.length_cons, List.length_nil, Nat.reduceAdd]
    rw [List.drop_length, List.map_nil, List.append_nil] at k1
    exact ret_here (h σi k1 k2)
theorem c_laws_heldInt64S {a : AV} {n : Nat} {k : Int} (hS : Ns σ a (mk k n)) (h0 : 0 ≤ k) (hb : k + n ≤ 1099511627776)
    (h : R (.ret (iv (k + n))) σ) : acall TP fn_laws_heldInt64S [a, iv k] σ R := by
  refine s_laws_heldInt64S_ok ?_
  unfold s_laws_heldInt64S
  refine lp_read n (fun i => (a, iv (k + i), iv i, ())) (by simp [iv]; rfl) ?_
  intro i hi R' hR'
  have hl := hS.len
  rw [mk_length] at hl
  simp only [hl, og_some', onr_ret, gval_true, gval_false, pickV_true, pickV_false, apick_true, apick_false, gpick_true, gpick_false, ibin_leq, ibin_geq, ibin_lss, ibin_gtr, ibin_eql, ibin_neq, sbin_eql, sbin_neq, aun_not, Bool.not_true, Bool.not_false, decide_true, decide_false, if_true, if_false, Bool.false_eq_true, fldA_ptr, fldA_rop, anil_ptr, lenStr_str, amm_max, amm_min, Nat.zero_add, Nat.add_zero, List.length_cons, List.length_nil, Nat.reduceAdd]
  by_cases hlt : i < n
  · have g0 : (i : Int) < n := by omega
    have hlt' : i < (mk k n).length := by simpa using hlt
    obtain ⟨p, hp, hq, _⟩ := hS.at hlt'
    rw [mk_get] at hq
    simp only [g0, hp, hq, ibin_up hlt (by omega), ibin_add (a := k + i) (b := 1) (by omega) (by omega), og_some', onr_ret, gval_true, gval_false, pickV_true, pickV_false, apick_true, apick_false, gpick_true, gpick_false, ibin_leq, ibin_geq, ibin_lss, ibin_gtr, ibin_eql, ibin_neq, sbin_eql, sbin_neq, aun_not, Bool.not_true, Bool.not_false, decide_true, decide_false, if_true, if_false, Bool.false_eq_true, fldA_ptr, fldA_rop, anil_ptr, lenStr_str, amm_max, amm_min, Nat.zero_add, Nat.add_zero, List.length_cons, List.length_nil, Nat.reduceAdd]
    have e : k + (i : Int) + 1 = k + ((i + 1 : Nat) : Int) := by omega
    rw [e]
    exact hR' hlt _ (.refl _)
  · have g0 : ¬ (i : Int) < n := by omega
    obtain rfl : i = n := by omega
    simp only [g0, og_some', onr_ret, gval_true, gval_false, pickV_true, pickV_false, apick_true, apick_false, gpick_true, gpick_false, ibin_leq, ibin_geq, ibin_lss, ibin_gtr, ibin_eql, ibin_neq, sbin_eql, sbin_neq, aun_not, Bool.not_true, Bool.not_false, decide_true, decide_false, if_true, if_false, Bool.false_eq_true, fldA_ptr, fldA_rop, anil_ptr, lenStr_str, amm_max, amm_min, Nat.zero_add, Nat.add_zero, List.length_cons, List.length_nil, Nat.reduceAdd]
    exact ret_here h
theorem c_laws_markIntsResult {a : AV} {c : Int} {xs : List Int} {k : Int} (hB : Buf σ 1 a (xs.map fun x => [iv x])) (h0 : 0 ≤ k) (hb : k + xs.length ≤ 1099511627776)
    (h : ∀ σ', Buf σ' 1 a ((mk k xs.length).map fun x => [iv x]) → (∀ ψ, ¬ Buf.fam a ψ → σ ψ ≠ none → σ' ψ = σ ψ) → R (.ret (iv (k + xs.length))) σ') : acall TP fn_laws_markIntsResult [.agg [iv c, a], iv k] σ R := by
  refine s_laws_markIntsResult_ok ?_
  unfold s_laws_markIntsResult
  simp only [abox_agg, og_some', onr_ret, gval_true, gval_false, pickV_true, pickV_false, apick_true, apick_false, gpick_true, gpick_false, ibin_leq, ibin_geq, ibin_lss, ibin_gtr, ibin_eql, ibin_neq, sbin_eql, sbin_neq, aun_not, Bool.not_true, Bool.not_false, decide_true, decide_false, if_true, if_false, Bool.false_eq_true, fldA_ptr, fldA_rop, anil_ptr, lenStr_str, amm_max, amm_min, Nat.zero_add, Nat.add_zero, List.length_cons, List.length_nil, Nat.reduceAdd]
  intro φ hφ
  have hs : AH.Sub σ (σ.set φ ⟨0, 2, [[iv c, a]]⟩) := sub_set (.refl σ) hφ
  have e := lod_at (σ := σ.set φ ⟨0, 2, [[iv c, a]]⟩) (φ := φ) (st := 0) (i := 0) (off := 1) (c := a) (AH.set_same ..) rfl rfl
  simp only [e, og_some', onr_ret, gval_true, gval_false, pickV_true, pickV_false, apick_true, apick_false, gpick_true, gpick_false, ibin_leq, ibin_geq, ibin_lss, ibin_gtr, ibin_eql, ibin_neq, sbin_eql, sbin_neq, aun_not, Bool.not_true, Bool.not_false, decide_true, decide_false, if_true, if_false, Bool.false_eq_true, fldA_ptr, fldA_rop, anil_ptr, lenStr_str, amm_max, amm_min, Nat.zero_add, Nat.add_zero, List.length_cons, List.length_nil, Nat.reduceAdd]
  refine c_laws_markInt64S (hB.sub hs) h0 hb fun σ' k1 k2 => ?_
  simp only [og_some', onr_ret, gval_true, gval_false, pickV_true, pickV_false, apick_true, apick_false, gpick_true, gpick_false, ibin_leq, ibin_geq, ibin_lss, ibin_gtr, ibin_eql, ibin_neq, sbin_eql, sbin_neq, aun_not, Bool.not_true, Bool.not_false, decide_true, decide_false, if_true, if_false, Bool.false_eq_true, fldA_ptr, fldA_rop, anil_ptr, lenStr_str, amm_max, amm_min, Nat.zero_add, Nat.add_zero, List.length_cons, List.length_nil, Nat.reduceAdd]
  refine ret_here (h σ' k1 fun ψ h1 h2 => ?_)
  rw [k2 ψ h1, AH.set_ne' (by rintro rfl; exact h2 hφ)]
theorem c_laws_heldIntsResult {a : AV} {c : Int} {n : Nat} {k : Int} (hS : Ns σ a (mk k n)) (h0 : 0 ≤ k) (hb : k + n ≤ 1099511627776)
    (h : R (.ret (iv (k + n))) σ) : acall TP fn_laws_heldIntsResult [.agg [iv c, a], iv k] σ R := by
  refine s_laws_heldIntsResult_ok ?_
  unfold s_laws_heldIntsResult
  simp only [abox_agg, og_some', onr_ret, gval_true, gval_false, pickV_true, pickV_false, apick_true, apick_false, gpick_true, gpick_false, ibin_leq, ibin_geq, ibin_lss, ibin_gtr, ibin_eql, ibin_neq, sbin_eql, sbin_neq, aun_not, Bool.not_true, Bool.not_false, decide_true, decide_false, if_true, if_false, Bool.false_eq_true, fldA_ptr, fldA_rop, anil_ptr, lenStr_str, amm_max, amm_min, Nat.zero_add, Nat.add_zero, List.length_cons, List.length_nil, Nat.reduceAdd]
  intro φ hφ
  have hs : AH.Sub σ (σ.set φ ⟨0, 2, [[iv c, a]]⟩) := sub_set (.refl σ) hφ
  have e := lod_at (σ := σ.set φ ⟨0, 2, [[iv c, a]]⟩) (φ := φ) (st := 0) (i := 0) (off := 1) (c := a) (AH.set_same ..) rfl rfl
  simp only [e, og_some', onr_ret, gval_true, gval_false, pickV_true, pickV_false, apick_true, apick_false, gpick_true, gpick_false, ibin_leq, ibin_geq, ibin_lss, ibin_gtr, ibin_eql, ibin_neq, sbin_eql, sbin_neq, aun_not, Bool.not_true, Bool.not_false, decide_true, decide_false, if_true, if_false, Bool.false_eq_true, fldA_ptr, fldA_rop, anil_ptr, lenStr_str, amm_max, amm_min, Nat.zero_add, Nat.add_zero, List.length_cons, List.length_nil, Nat.reduceAdd]
  refine c_laws_heldInt64S (hS.sub hs) h0 hb ?_
  have g : ¬ k + (n : Int) < 0 := by omega
  simp only [g, og_some', onr_ret, gval_true, gval_false, pickV_true, pickV_false, apick_true, apick_false, gpick_true, gpick_false, ibin_leq, ibin_geq, ibin_lss, ibin_gtr, ibin_eql, ibin_neq, sbin_eql, sbin_neq, aun_not, Bool.not_true, Bool.not_false, decide_true, decide_false, if_true, if_false, Bool.false_eq_true, fldA_ptr, fldA_rop, anil_ptr, lenStr_str, amm_max, amm_min, Nat.zero_add, Nat.add_zero, List.length_cons, List.length_nil, Nat.reduceAdd]
  exact aret_sub hs h
theorem c_laws_eqIntsResult {a b : AV} {c d : Int} {xs ys : List Int} (hS : Ns σ a xs) (hT : Ns σ b ys) (hl : xs.length ≤ 1099511627776) (h : R (.ret (bv (decide (c = d) && decide (xs = ys)))) σ) :
    acall TP fn_laws_eqIntsResult [.agg [iv c, a], .agg [iv d, b]] σ R := by
  refine s_laws_eqIntsResult_ok ?_
  unfold s_laws_eqIntsResult
  simp only [abox_agg, og_some', onr_ret, gval_true, gval_false, pickV_true, pickV_false, apick_true, apick_false, gpick_true, gpick_false, ibin_leq, ibin_geq, ibin_lss, ibin_gtr, ibin_eql, ibin_neq, sbin_eql, sbin_neq, aun_not, Bool.not_true, Bool.not_false, decide_true, decide_false, if_true, if_false, Bool.false_eq_true, fldA_ptr, fldA_rop, anil_ptr, lenStr_str, amm_max, amm_min, Nat.zero_add, Nat.add_zero, List.length_cons, List.length_nil, Nat.reduceAdd]
  intro φ hφ ψ hψ
  simp only [AH.set_none] at hψ
  obtain ⟨hne, hψ⟩ := hψ
  have hs : AH.Sub σ ((σ.set φ ⟨0, 2, [[iv c, a]]⟩).set ψ ⟨0, 2, [[iv d, b]]⟩) := sub_set (sub_set (.refl σ) hφ) hψ
  have g1 : ((σ.set φ ⟨0, 2, [[iv c, a]]⟩).set ψ ⟨0, 2, [[iv d, b]]⟩) φ = some ⟨0, 2, [[iv c, a]]⟩ := by rw [AH.set_ne' (Ne.symm hne), AH.set_same]
  have g2 : ((σ.set φ ⟨0, 2, [[iv c, a]]⟩).set ψ ⟨0, 2, [[iv d, b]]⟩) ψ = some ⟨0, 2, [[iv d, b]]⟩ := AH.set_same ..
  simp only [lod_at (st := 0) (i := 0) (off := 0) (c := iv c) g1 rfl rfl, lod_at (st := 0) (i := 0) (off := 1) (c := a) g1 rfl rfl, lod_at (st := 0) (i := 0) (off := 0) (c := iv d) g2 rfl rfl, lod_at (st := 0) (i := 0) (off := 1) (c := b) g2 rfl rfl, og_some', onr_ret, gval_true, gval_false, pickV_true, pickV_false, apick_true, apick_false, gpick_true, gpick_false, ibin_leq, ibin_geq, ibin_lss, ibin_gtr, ibin_eql, ibin_neq, sbin_eql, sbin_neq, aun_not, Bool.not_true, Bool.not_false, decide_true, decide_false, if_true, if_false, Bool.false_eq_true, fldA_ptr, fldA_rop, anil_ptr, lenStr_str, amm_max, amm_min, Nat.zero_add, Nat.add_zero, List.length_cons, List.length_nil, Nat.reduceAdd]
  generalize hσ1 : (σ.set φ ⟨0, 2, [[iv c, a]]⟩).set ψ ⟨0, 2, [[iv d, b]]⟩ = σ1 at hs ⊢
  by_cases hn : c = d
  · simp only [decide_eq_true hn, Bool.true_and, og_some', onr_ret, gval_true, gval_false, pickV_true, pickV_false, apick_true, apick_false, gpick_true, gpick_false, ibin_leq, ibin_geq, ibin_lss, ibin_gtr, ibin_eql, ibin_neq, sbin_eql, sbin_neq, aun_not, Bool.not_true, Bool.not_false, decide_true, decide_false, if_true, if_false, Bool.false_eq_true, fldA_ptr, fldA_rop, anil_ptr, lenStr_str, amm_max, amm_min, Nat.zero_add, Nat.add_zero, List.length_cons, List.length_nil, Nat.reduceAdd] at h ⊢
    refine c_laws_eqInt64S (hS.sub hs) (hT.sub hs) hl ?_
    simp only [og_some', onr_ret, gval_true, gval_false, pickV_true, pickV_false, apick_true, apick_false, gpick_true, gpick_false, ibin_leq, ibin_geq, ibin_lss, ibin_gtr, ibin_eql, ibin_neq, sbin_eql, sbin_neq, aun_not, Bool.not_true, Bool.not_false, decide_true, decide_false, if_true, if_false, Bool.false_eq_true, fldA_ptr, fldA_rop, anil_ptr, lenStr_str, amm_max, amm_min, Nat.zero_add, Nat.add_zero, List.length_cons, List.length_nil, Nat.reduceAdd]
    by_cases hx : xs = ys
    · simp only [decide_eq_true hx, og_some', onr_ret, gval_true, gval_false, pickV_true, pickV_false, apick_true, apick_false, gpick_true, gpick_false, ibin_leq, ibin_geq, ibin_lss, ibin_gtr, ibin_eql, ibin_neq, sbin_eql, sbin_neq, aun_not, Bool.not_true, Bool.not_false, decide_true, decide_false, if_true, if_false, Bool.false_eq_true, fldA_ptr, fldA_rop, anil_ptr, lenStr_str, amm_max, amm_min, Nat.zero_add, Nat.add_zero, List.length_cons, List.length_nil, Nat.reduceAdd] at h ⊢; exact aret_sub hs h
    · simp only [decide_eq_false hx, og_some', onr_ret, gval_true, gval_false, pickV_true, pickV_false, apick_true, apick_false, gpick_true, gpick_false, ibin_leq, ibin_geq, ibin_lss, ibin_gtr, ibin_eql, ibin_neq, sbin_eql, sbin_neq, aun_not, Bool.not_true, Bool.not_false, decide_true, decide_false, if_true, if_false, Bool.false_eq_true, fldA_ptr, fldA_rop, anil_ptr, lenStr_str, amm_max, amm_min, Nat.zero_add, Nat.add_zero, List.length_cons, List.length_nil, Nat.reduceAdd] at h ⊢; exact aret_sub hs h
  · simp only [decide_eq_false hn, Bool.false_and, og_some', onr_ret, gval_true, gval_false, pickV_true, pickV_false, apick_true, apick_false, gpick_true, gpick_false, ibin_leq, ibin_geq, ibin_lss, ibin_gtr, ibin_eql, ibin_neq, sbin_eql, sbin_neq, aun_not, Bool.not_true, Bool.not_false, decide_true, decide_false, if_true, if_false, Bool.false_eq_true, fldA_ptr, fldA_rop, anil_ptr, lenStr_str, amm_max, amm_min, Nat.zero_add, Nat.add_zero, List.length_cons, List.length_nil, Nat.reduceAdd] at h ⊢
    exact aret_sub hs h

/-! ### stacks are marked -/
def marks : Int → List (AV × List Int) → List (AV × List Int)
  | _, [] => []
  | k, q :: qs => (q.1, mk k q.2.length) :: marks (k + q.2.length) qs
theorem marks_append : ∀ (xs ys : List (AV × List Int)) (k : Int), marks k (xs ++ ys) = marks k xs ++ marks (k + tot (xs.map Prod.snd)) ys := by
  intro xs
  induction xs with
  | nil => intro ys k; simp [marks, tot]
  | cons x xs ih =>
    intro ys k
    simp only [List.cons_append, marks, ih, List.map_cons, tot]
    have e : k + (x.2.length : Int) + (tot (xs.map Prod.snd) : Int) = k + ((x.2.length + tot (xs.map Prod.snd) : Nat) : Int) := by omega
    rw [e]
theorem marks_fst : ∀ (xs : List (AV × List Int)) (k : Int), (marks k xs).map Prod.fst = xs.map Prod.fst := by
  intro xs
  induction xs with
  | nil => intro k; rfl
  | cons x xs ih => intro k; simp [marks, ih]
theorem marks_length (xs : List (AV × List Int)) (k : Int) : (marks k xs).length = xs.length := by
  have := congrArg List.length (marks_fst xs k); simpa using this
theorem PB.turn {σ' : AH} {a : AV} {pre rest : List (AV × List Int)} {q : AV × List Int} {ys : List Int} (h : PB σ a (pre ++ q :: rest)) (hB : Buf σ' 1 q.1 (ys.map fun x => [iv x])) (hk : ∀ ψ, ¬ Buf.fam q.1 ψ → σ' ψ = σ ψ) : PB σ' a (pre ++ (q.1, ys) :: rest) := by
  have hq : q ∈ pre ++ q :: rest := by simp
  have hp := List.pairwise_append.1 h.pair
  have hp2 := List.pairwise_cons.1 hp.2.1
  refine ⟨?_, ?_, ?_, ?_⟩
  · have e : ((pre ++ (q.1, ys) :: rest).map fun q => [q.1]) = (pre ++ q :: rest).map fun q => [q.1] := by simp
    rw [e]
    exact h.out.keep fun ψ f => hk ψ fun g => h.sep q hq ψ g f
  · intro r hr
    rcases List.mem_append.1 hr with hr | hr
    · exact (h.ins r (by simp [hr])).keep fun ψ f => hk ψ fun g => hp.2.2 r hr q (by simp) ψ f g
    · rcases List.mem_cons.1 hr with rfl | hr
      · exact hB
      · exact (h.ins r (by simp [hr])).keep fun ψ f => hk ψ fun g => hp2.1 r hr ψ g f
  · intro r hr
    rcases List.mem_append.1 hr with hr | hr
    · exact h.sep r (by simp [hr])
    · rcases List.mem_cons.1 hr with rfl | hr
      · exact h.sep q hq
      · exact h.sep r (by simp [hr])
  · rw [List.pairwise_append]
    refine ⟨hp.1, List.pairwise_cons.2 ⟨fun r hr => hp2.1 r hr, hp2.2⟩, ?_⟩
    intro r hr x hx
    rcases List.mem_cons.1 hx with rfl | hx
    · exact hp.2.2 r hr q (by simp)
    · exact hp.2.2 r hr x (by simp [hx])
theorem c_laws_markSegPartS {a : AV} {qs : List (AV × List Int)} {k : Int} (hB : PB σ a qs) (h0 : 0 ≤ k) (hl : qs.length ≤ 1099511627776) (hb : k + tot (qs.map Prod.snd) ≤ 1099511627776)
    (h : ∀ σ', PB σ' a (marks k qs) → (∀ ψ, (∀ q, q ∈ qs → ¬ Buf.fam q.1 ψ) → σ' ψ = σ ψ) → R (.ret (iv (k + tot (qs.map Prod.snd)))) σ') : acall TP fn_laws_markSegPartS [a, iv k] σ R := by
  refine s_laws_markSegPartS_ok ?_
  unfold s_laws_markSegPartS
  refine lp_for qs.length (fun i => (a, iv (k + tot ((qs.take i).map Prod.snd)), iv i, ())) (fun i σi => PB σi a (marks k (qs.take i) ++ qs.drop i) ∧ ∀ ψ, (∀ q, q ∈ qs → ¬ Buf.fam q.1 ψ) → σi ψ = σ ψ)
    (by simp [iv, tot]; rfl) ⟨by simpa [marks] using hB, fun _ _ => rfl⟩ ?_
  rintro i σi hi ⟨k1, k2⟩ R' hR'
  have hlen := k1.ps.len
  have hn : ((marks k (qs.take i) ++ qs.drop i).map Prod.snd).length = qs.length := by simp [marks_length]; omega
  rw [hn] at hlen
  simp only [hlen, og_some', onr_ret, gval_true, gval_false, pickV_true, pickV_false, apick_true, apick_false, gpick_true, gpick_false, ibin_leq, ibin_geq, ibin_lss, ibin_gtr, ibin_eql, ibin_neq, sbin_eql, sbin_neq, aun_not, Bool.not_true, Bool.not_false, decide_true, decide_false, if_true, if_false, Bool.false_eq_true, fldA_ptr, fldA_rop, anil_ptr, lenStr_str, amm_max, amm_min, Nat.zero_add, Nat.add_zero, List.length_cons, List.length_nil, Nat.reduceAdd]
  by_cases hlt : i < qs.length
  · have g0 : (i : Int) < qs.length := by omega
    have hsn : ∀ j, (qs.take j).map Prod.snd = (qs.map Prod.snd).take j := fun j => List.map_take
    have hT := tot_take (qs.map Prod.snd) (i := i) (by simpa using hlt)
    have hT2 := tot_at (qs.map Prod.snd) (i := i) (by simpa using hlt)
    simp only [List.getElem_map, ← hsn] at hT hT2
    obtain ⟨p, hp, _, hat⟩ := (Buf.cs k1.out).at (i := i) (by rw [← List.length_map (f := Prod.snd), hn]; exact hlt)
    have hml : (marks k (qs.take i)).length = i := by rw [marks_length]; simp; omega
    have hget : (marks k (qs.take i) ++ qs.drop i)[i]'(by rw [← List.length_map (f := Prod.snd), hn]; exact hlt) = qs[i] := by
      rw [List.getElem_append_right (by omega)]
      simp [hml]
    rw [hget] at hat
    obtain ⟨p', hf, hl'⟩ := hat.fld 0 (by simp)
    simp only [List.getD_cons_zero] at hl'
    simp only [g0, hp, hf, hl', og_some', onr_ret, gval_true, gval_false, pickV_true, pickV_false, apick_true, apick_false, gpick_true, gpick_false, ibin_leq, ibin_geq, ibin_lss, ibin_gtr, ibin_eql, ibin_neq, sbin_eql, sbin_neq, aun_not, Bool.not_true, Bool.not_false, decide_true, decide_false, if_true, if_false, Bool.false_eq_true, fldA_ptr, fldA_rop, anil_ptr, lenStr_str, amm_max, amm_min, Nat.zero_add, Nat.add_zero, List.length_cons, List.length_nil, Nat.reduceAdd]
    rw [List.drop_eq_getElem_cons hlt] at k1
    refine c_laws_markInt64S (k1.ins qs[i] (List.mem_append_right _ (List.mem_cons_self ..))) (by omega) (by omega) fun σ' m1 m2 => ?_
    simp only [ibin_up hlt (by omega), og_some', onr_ret, gval_true, gval_false, pickV_true, pickV_false, apick_true, apick_false, gpick_true, gpick_false, ibin_leq, ibin_geq, ibin_lss, ibin_gtr, ibin_eql, ibin_neq, sbin_eql, sbin_neq, aun_not, Bool.not_true, Bool.not_false, decide_true, decide_false, if_true, if_false, Bool.false_eq_true, fldA_ptr, fldA_rop, anil_ptr, lenStr_str, amm_max, amm_min, Nat.zero_add, Nat.add_zero, List.length_cons, List.length_nil, Nat.reduceAdd]
    have e : k + (tot ((qs.take i).map Prod.snd) : Int) + (qs[i].2.length : Int) = k + (tot ((qs.take (i + 1)).map Prod.snd) : Int) := by rw [hT]; omega
    rw [e]
    refine hR' hlt _ _ (.refl _) ⟨?_, ?_⟩
    · have := k1.turn m1 m2
      rw [List.take_succ_eq_append_getElem hlt, marks_append]
      simpa [marks] using this
    · intro ψ hψ
      rw [m2 ψ (hψ _ (List.getElem_mem hlt))]
      exact k2 ψ hψ
  · have g0 : ¬ (i : Int) < qs.length := by omega
    obtain rfl : i = qs.length := by omega
    simp only [g0, og_some', onr_ret, gval_true, gval_false, pickV_true, pickV_false, apick_true, apick_false, gpick_true, gpick_false, ibin_leq, ibin_geq, ibin_lss, ibin_gtr, ibin_eql, ibin_neq, sbin_eql, sbin_neq, aun_not, Bool.not_true, Bool.not_false, decide_true, decide_false, if_true, if_false, Bool.false_eq_true, fldA_ptr, fldA_rop, anil_ptr, lenStr_str, amm_max, amm_min, Nat.zero_add, Nat.add_zero, List.length_cons, List.length_nil, Nat.reduceAdd]
    rw [List.take_length, List.drop_length, List.append_nil] at k1
    rw [List.take_length]
    exact ret_here (h σi k1 k2)
theorem c_laws_markSegs {a : AV} {size : Int} {qs : List (AV × List Int)} {k : Int} (hB : PB σ a qs) (h0 : 0 ≤ k) (hl : qs.length ≤ 1099511627776) (hb : k + tot (qs.map Prod.snd) ≤ 1099511627776)
    (h : ∀ σ', PB σ' a (marks k qs) → (∀ ψ, (∀ q, q ∈ qs → ¬ Buf.fam q.1 ψ) → σ ψ ≠ none → σ' ψ = σ ψ) → R (.ret (iv (k + tot (qs.map Prod.snd)))) σ') : acall TP fn_laws_markSegs [.agg [iv size, a], iv k] σ R := by
  refine s_laws_markSegs_ok ?_
  unfold s_laws_markSegs
  simp only [abox_agg, og_some', onr_ret, gval_true, gval_false, pickV_true, pickV_false, apick_true, apick_false, gpick_true, gpick_false, ibin_leq, ibin_geq, ibin_lss, ibin_gtr, ibin_eql, ibin_neq, sbin_eql, sbin_neq, aun_not, Bool.not_true, Bool.not_false, decide_true, decide_false, if_true, if_false, Bool.false_eq_true, fldA_ptr, fldA_rop, anil_ptr, lenStr_str, amm_max, amm_min, Nat.zero_add, Nat.add_zero, List.length_cons, List.length_nil, Nat.reduceAdd]
  intro φ hφ
  have hs : AH.Sub σ (σ.set φ ⟨0, 2, [[iv size, a]]⟩) := sub_set (.refl σ) hφ
  have e := lod_at (σ := σ.set φ ⟨0, 2, [[iv size, a]]⟩) (φ := φ) (st := 0) (i := 0) (off := 1) (c := a) (AH.set_same ..) rfl rfl
  simp only [e, og_some', onr_ret, gval_true, gval_false, pickV_true, pickV_false, apick_true, apick_false, gpick_true, gpick_false, ibin_leq, ibin_geq, ibin_lss, ibin_gtr, ibin_eql, ibin_neq, sbin_eql, sbin_neq, aun_not, Bool.not_true, Bool.not_false, decide_true, decide_false, if_true, if_false, Bool.false_eq_true, fldA_ptr, fldA_rop, anil_ptr, lenStr_str, amm_max, amm_min, Nat.zero_add, Nat.add_zero, List.length_cons, List.length_nil, Nat.reduceAdd]
  refine c_laws_markSegPartS (hB.sub hs) h0 hl hb fun σ' k1 k2 => ?_
  simp only [og_some', onr_ret, gval_true, gval_false, pickV_true, pickV_false, apick_true, apick_false, gpick_true, gpick_false, ibin_leq, ibin_geq, ibin_lss, ibin_gtr, ibin_eql, ibin_neq, sbin_eql, sbin_neq, aun_not, Bool.not_true, Bool.not_false, decide_true, decide_false, if_true, if_false, Bool.false_eq_true, fldA_ptr, fldA_rop, anil_ptr, lenStr_str, amm_max, amm_min, Nat.zero_add, Nat.add_zero, List.length_cons, List.length_nil, Nat.reduceAdd]
  refine ret_here (h σ' k1 fun ψ h1 h2 => ?_)
  rw [k2 ψ h1, AH.set_ne' (by rintro rfl; exact h2 hφ)]

/-! ### ListSegs -/
theorem c_spec_l12List {φ1 : Nat} {size : Int} {p : AV} {ps : List (List Int)} (hF : σ φ1 = some ⟨0, 2, [[iv size, p]]⟩) (hP : Ps σ p ps) (hb : ps.length + tot ps ≤ 1099511627776) (hb2 : tot ps ≤ 4294967296)
    (h : ∀ v σ', AH.Sub σ σ' → Buf (dif σ σ') 1 v (ps.flatten.map fun x => [iv x]) → R (.ret v) σ') : acall TP fn_spec_l12List [.ptr φ1 0 0 0] σ R := by
  refine s_spec_l12List_ok ?_
  unfold s_spec_l12List
  refine ⟨by decide, fun φ hφ => ?_⟩
  have hs2 : AH.Sub σ (σ.set φ ⟨0, 1, []⟩) := sub_set (.refl _) hφ
  simp only [List.replicate_zero]
  refine lp_rel ps.length (fun i x σi => ∃ a, x = (.ptr φ1 0 0 0, a, iv i, ()) ∧ AH.Sub σ σi ∧ Buf σi 1 a ((ps.take i).flatten.map fun x => [iv x]) ∧ ∀ ψ, Buf.fam a ψ → σ ψ = none) ?_ ?_
  · refine ⟨_, rfl, hs2, .inr ⟨φ, 0, by simp, by simp⟩, ?_⟩
    rintro ψ ⟨_, _, _, e⟩
    cases e; exact hφ
  rintro i x σi hi ⟨a, rfl, k1, k2, k3⟩ R' hR'
  have hPi := hP.sub k1
  have e1 := lod_at (st := 0) (i := 0) (off := 1) (c := p) (k1.at hF) rfl rfl
  simp only [e1, hPi.len, og_some', onr_ret, gval_true, gval_false, pickV_true, pickV_false, apick_true, apick_false, gpick_true, gpick_false, ibin_leq, ibin_geq, ibin_lss, ibin_gtr, ibin_eql, ibin_neq, sbin_eql, sbin_neq, aun_not, Bool.not_true, Bool.not_false, decide_true, decide_false, if_true, if_false, Bool.false_eq_true, fldA_ptr, fldA_rop, anil_ptr, lenStr_str, amm_max, amm_min, Nat.zero_add, Nat.add_zero, List.length_cons, List.length_nil, Nat.reduceAdd]
  by_cases hlt : i < ps.length
  · have g0 : (i : Int) < ps.length := by omega
    obtain ⟨v, q, v', hp, hq, hf, hl, hN⟩ := hPi.at hlt
    have hT2 := tot_at ps hlt
    simp only [g0, e1, hp, hf, hl, og_some', onr_ret, gval_true, gval_false, pickV_true, pickV_false, apick_true, apick_false, gpick_true, gpick_false, ibin_leq, ibin_geq, ibin_lss, ibin_gtr, ibin_eql, ibin_neq, sbin_eql, sbin_neq, aun_not, Bool.not_true, Bool.not_false, decide_true, decide_false, if_true, if_false, Bool.false_eq_true, fldA_ptr, fldA_rop, anil_ptr, lenStr_str, amm_max, amm_min, Nat.zero_add, Nat.add_zero, List.length_cons, List.length_nil, Nat.reduceAdd]
    have hfl : ((ps.take i).flatten.map fun x => [iv x]).length + (ps[i].map fun x => [iv x]).length ≤ 4294967296 := by
      simp only [List.length_map, tot_flatten]; omega
    refine Buf.app k2 (Sl.elems hN) (by intro c hc; obtain ⟨x, _, rfl⟩ := List.mem_map.1 hc; rfl) (by intro c hc; obtain ⟨x, _, rfl⟩ := List.mem_map.1 hc; intro y hy; simp at hy; subst hy; rfl) hfl ?_
    intro a' σ' b1 b2 b3 b4
    rw [← List.map_append, ← flat_take ps hlt] at b1
    simp only [ibin_up hlt (by omega), og_some', onr_ret, gval_true, gval_false, pickV_true, pickV_false, apick_true, apick_false, gpick_true, gpick_false, ibin_leq, ibin_geq, ibin_lss, ibin_gtr, ibin_eql, ibin_neq, sbin_eql, sbin_neq, aun_not, Bool.not_true, Bool.not_false, decide_true, decide_false, if_true, if_false, Bool.false_eq_true, fldA_ptr, fldA_rop, anil_ptr, lenStr_str, amm_max, amm_min, Nat.zero_add, Nat.add_zero, List.length_cons, List.length_nil, Nat.reduceAdd]
    refine hR' _ _ _ hlt (.refl _) ⟨a', rfl, ?_, b1, ?_⟩
    · intro χ F hχ
      have hn : ¬ Buf.fam a χ := fun hf => by rw [k3 χ hf] at hχ; cases hχ
      have hx := k1 χ F hχ
      rw [b2 χ hn (by rw [hx]; simp)]; exact hx
    · intro χ hχ
      rcases b3 χ hχ with hf | hn
      · exact k3 χ hf
      · exact k1.none hn
  · have g0 : ¬ (i : Int) < ps.length := by omega
    obtain rfl : i = ps.length := by omega
    simp only [g0, og_some', onr_ret, gval_true, gval_false, pickV_true, pickV_false, apick_true, apick_false, gpick_true, gpick_false, ibin_leq, ibin_geq, ibin_lss, ibin_gtr, ibin_eql, ibin_neq, sbin_eql, sbin_neq, aun_not, Bool.not_true, Bool.not_false, decide_true, decide_false, if_true, if_false, Bool.false_eq_true, fldA_ptr, fldA_rop, anil_ptr, lenStr_str, amm_max, amm_min, Nat.zero_add, Nat.add_zero, List.length_cons, List.length_nil, Nat.reduceAdd]
    rw [List.take_length] at k2
    exact ret_here (h a σi k1 (k2.dif k3))
noncomputable def lisR (size : Int) (ps : List (List Int)) : Int × List Int := if segF size ps = 0 then (0, ps.flatten) else (segF size ps, [])
theorem bldI_0 (x : Int) : bld [iv 0, nilS] [(0, 1), (1, 1)] [(0, iv x)] = some (.agg [iv x, nilS]) := rfl
theorem bldI_1 {v : AV} (hv : acells v = some [v]) : bld [iv 0, nilS] [(0, 1), (1, 1)] [(1, v)] = some (.agg [iv 0, v]) := by
  simp [bld, afill, hv, spl]
theorem c_spec_ListSegs {size : Int} {p : AV} {ps : List (List Int)} (hP : Ps σ p ps) (hb : ps.length + tot ps ≤ 1099511627776)
    (h : R (.ret (.agg [iv (lisR size ps).1, roN (lisR size ps).2])) σ) : acall TP fn_spec_ListSegs [.agg [iv size, p]] σ R := by
  refine s_spec_ListSegs_ok ?_
  unfold s_spec_ListSegs
  simp only [abox_agg, new_eq, og_some', onr_ret, gval_true, gval_false, pickV_true, pickV_false, apick_true, apick_false, gpick_true, gpick_false, ibin_leq, ibin_geq, ibin_lss, ibin_gtr, ibin_eql, ibin_neq, sbin_eql, sbin_neq, aun_not, Bool.not_true, Bool.not_false, decide_true, decide_false, if_true, if_false, Bool.false_eq_true, fldA_ptr, fldA_rop, anil_ptr, lenStr_str, amm_max, amm_min, Nat.zero_add, Nat.add_zero, List.length_cons, List.length_nil, Nat.reduceAdd]
  intro φ hφ ψ hψ
  simp only [AH.set_none] at hψ
  obtain ⟨hne, hψ⟩ := hψ
  have hs : AH.Sub σ ((σ.set φ ⟨0, 2, [[iv size, p]]⟩).set ψ ⟨0, 2, [[iv 0, nilS]]⟩) := sub_set (sub_set (.refl σ) hφ) hψ
  have hF : ((σ.set φ ⟨0, 2, [[iv size, p]]⟩).set ψ ⟨0, 2, [[iv 0, nilS]]⟩) φ = some ⟨0, 2, [[iv size, p]]⟩ := by rw [AH.set_ne' (Ne.symm hne), AH.set_same]
  have hG : ((σ.set φ ⟨0, 2, [[iv size, p]]⟩).set ψ ⟨0, 2, [[iv 0, nilS]]⟩) ψ = some ⟨0, 2, [[iv 0, nilS]]⟩ := AH.set_same ..
  generalize hσ1 : (σ.set φ ⟨0, 2, [[iv size, p]]⟩).set ψ ⟨0, 2, [[iv 0, nilS]]⟩ = σ1 at hs hF hG ⊢
  refine c_spec_l12Fault hF (hP.sub hs) hb ?_
  simp only [og_some', onr_ret, gval_true, gval_false, pickV_true, pickV_false, apick_true, apick_false, gpick_true, gpick_false, ibin_leq, ibin_geq, ibin_lss, ibin_gtr, ibin_eql, ibin_neq, sbin_eql, sbin_neq, aun_not, Bool.not_true, Bool.not_false, decide_true, decide_false, if_true, if_false, Bool.false_eq_true, fldA_ptr, fldA_rop, anil_ptr, lenStr_str, amm_max, amm_min, Nat.zero_add, Nat.add_zero, List.length_cons, List.length_nil, Nat.reduceAdd]
  by_cases c : segF size ps = 0
  · simp only [c, og_some', onr_ret, gval_true, gval_false, pickV_true, pickV_false, apick_true, apick_false, gpick_true, gpick_false, ibin_leq, ibin_geq, ibin_lss, ibin_gtr, ibin_eql, ibin_neq, sbin_eql, sbin_neq, aun_not, Bool.not_true, Bool.not_false, decide_true, decide_false, if_true, if_false, Bool.false_eq_true, fldA_ptr, fldA_rop, anil_ptr, lenStr_str, amm_max, amm_min, Nat.zero_add, Nat.add_zero, List.length_cons, List.length_nil, Nat.reduceAdd]
    obtain ⟨o1, o2, o3⟩ := seg_ok c
    refine c_spec_l12List hF (hP.sub hs) hb (by omega) fun v σ' k1 k2 => ?_
    have hone := (Buf.cs k2).one
    simp only [bldI_1 hone.1, og_some', onr_ret, gval_true, gval_false, pickV_true, pickV_false, apick_true, apick_false, gpick_true, gpick_false, ibin_leq, ibin_geq, ibin_lss, ibin_gtr, ibin_eql, ibin_neq, sbin_eql, sbin_neq, aun_not, Bool.not_true, Bool.not_false, decide_true, decide_false, if_true, if_false, Bool.false_eq_true, fldA_ptr, fldA_rop, anil_ptr, lenStr_str, amm_max, amm_min, Nat.zero_add, Nat.add_zero, List.length_cons, List.length_nil, Nat.reduceAdd]
    refine sto_own (cs := [iv 0, v]) (k1.at hG) (by simp) (by simp) rfl rfl ?_ ?_
    · intro x hx
      simp at hx
      rcases hx with rfl | rfl
      · rfl
      · exact hone.2
    simp [lodA, acellsAt]
    have hsub := sub_set (F := ⟨0, 2, [[iv 0, v]]⟩) (hs.trans k1) hψ
    have hd : AH.Sub (dif σ1 σ') (dif σ (σ'.set ψ ⟨0, 2, [[iv 0, v]]⟩)) := dif_keep' hs fun χ h1 _ => AH.set_ne' (by rintro rfl; rw [hG] at h1; cases h1)
    have hfz := Cs.fz (g := iv) ((Buf.cs k2).sub hd) (fun x _ => .same _)
    refine aret_freeze hsub (.agg2 (.same _) hfz) ?_
    have e : lisR size ps = (0, ps.flatten) := by simp [lisR, c]
    rw [e] at h; exact h
  · simp only [c, bldI_0, og_some', onr_ret, gval_true, gval_false, pickV_true, pickV_false, apick_true, apick_false, gpick_true, gpick_false, ibin_leq, ibin_geq, ibin_lss, ibin_gtr, ibin_eql, ibin_neq, sbin_eql, sbin_neq, aun_not, Bool.not_true, Bool.not_false, decide_true, decide_false, if_true, if_false, Bool.false_eq_true, fldA_ptr, fldA_rop, anil_ptr, lenStr_str, amm_max, amm_min, Nat.zero_add, Nat.add_zero, List.length_cons, List.length_nil, Nat.reduceAdd]
    refine sto_own (cs := [iv (segF size ps), nilS]) hG (by simp) (by simp) rfl rfl (by simp [AV.one, Value.oneCell']) ?_
    simp [lodA, acellsAt]
    have hsub := sub_set (F := ⟨0, 2, [[iv (segF size ps), nilS]]⟩) hs hψ
    refine aret_freeze hsub (.agg2 (.same _) .nil) ?_
    have e : lisR size ps = (segF size ps, []) := by simp [lisR, c]
    rw [e] at h; exact h
theorem c_impl_ListSegs {size : Int} {p : AV} {ps : List (List Int)} (hP : Ps σ p ps) (hb : ps.length + tot ps ≤ 1099511627776)
    (h : ∀ v σ', AH.Sub σ σ' → Buf (dif σ σ') 1 v ((lisR size ps).2.map fun x => [iv x]) → R (.ret (.agg [iv (lisR size ps).1, v])) σ') : acall TP fn_impl_ListSegs [.agg [iv size, p]] σ R := by
  refine s_impl_ListSegs_ok ?_
  unfold s_impl_ListSegs
  simp only [abox_agg, new_eq, og_some', onr_ret, gval_true, gval_false, pickV_true, pickV_false, apick_true, apick_false, gpick_true, gpick_false, ibin_leq, ibin_geq, ibin_lss, ibin_gtr, ibin_eql, ibin_neq, sbin_eql, sbin_neq, aun_not, Bool.not_true, Bool.not_false, decide_true, decide_false, if_true, if_false, Bool.false_eq_true, fldA_ptr, fldA_rop, anil_ptr, lenStr_str, amm_max, amm_min, Nat.zero_add, Nat.add_zero, List.length_cons, List.length_nil, Nat.reduceAdd]
  intro φ hφ ψ hψ
  simp only [AH.set_none] at hψ
  obtain ⟨hne, hψ⟩ := hψ
  have hs : AH.Sub σ ((σ.set φ ⟨0, 2, [[iv size, p]]⟩).set ψ ⟨0, 2, [[iv 0, nilS]]⟩) := sub_set (sub_set (.refl σ) hφ) hψ
  have hF : ((σ.set φ ⟨0, 2, [[iv size, p]]⟩).set ψ ⟨0, 2, [[iv 0, nilS]]⟩) φ = some ⟨0, 2, [[iv size, p]]⟩ := by rw [AH.set_ne' (Ne.symm hne), AH.set_same]
  have hG : ((σ.set φ ⟨0, 2, [[iv size, p]]⟩).set ψ ⟨0, 2, [[iv 0, nilS]]⟩) ψ = some ⟨0, 2, [[iv 0, nilS]]⟩ := AH.set_same ..
  generalize hσ1 : (σ.set φ ⟨0, 2, [[iv size, p]]⟩).set ψ ⟨0, 2, [[iv 0, nilS]]⟩ = σ1 at hs hF hG ⊢
  have e := lodA_at (st := 0) (i := 0) (n := 2) (cs := [iv size, p]) hF rfl rfl rfl
  simp only [e, og_some', onr_ret, gval_true, gval_false, pickV_true, pickV_false, apick_true, apick_false, gpick_true, gpick_false, ibin_leq, ibin_geq, ibin_lss, ibin_gtr, ibin_eql, ibin_neq, sbin_eql, sbin_neq, aun_not, Bool.not_true, Bool.not_false, decide_true, decide_false, if_true, if_false, Bool.false_eq_true, fldA_ptr, fldA_rop, anil_ptr, lenStr_str, amm_max, amm_min, Nat.zero_add, Nat.add_zero, List.length_cons, List.length_nil, Nat.reduceAdd]
  refine c_impl_SegsFault (hP.sub hs) hb ?_
  simp only [og_some', onr_ret, gval_true, gval_false, pickV_true, pickV_false, apick_true, apick_false, gpick_true, gpick_false, ibin_leq, ibin_geq, ibin_lss, ibin_gtr, ibin_eql, ibin_neq, sbin_eql, sbin_neq, aun_not, Bool.not_true, Bool.not_false, decide_true, decide_false, if_true, if_false, Bool.false_eq_true, fldA_ptr, fldA_rop, anil_ptr, lenStr_str, amm_max, amm_min, Nat.zero_add, Nat.add_zero, List.length_cons, List.length_nil, Nat.reduceAdd]
  by_cases c : segF size ps = 0
  · simp only [c, e, og_some', onr_ret, gval_true, gval_false, pickV_true, pickV_false, apick_true, apick_false, gpick_true, gpick_false, ibin_leq, ibin_geq, ibin_lss, ibin_gtr, ibin_eql, ibin_neq, sbin_eql, sbin_neq, aun_not, Bool.not_true, Bool.not_false, decide_true, decide_false, if_true, if_false, Bool.false_eq_true, fldA_ptr, fldA_rop, anil_ptr, lenStr_str, amm_max, amm_min, Nat.zero_add, Nat.add_zero, List.length_cons, List.length_nil, Nat.reduceAdd]
    obtain ⟨o1, o2, o3⟩ := seg_ok c
    refine c_impl_Segs_items (hP.sub hs) hb (by omega) fun v σ' k1 k2 => ?_
    have hone := (Buf.cs k2).one
    simp only [bldI_1 hone.1, og_some', onr_ret, gval_true, gval_false, pickV_true, pickV_false, apick_true, apick_false, gpick_true, gpick_false, ibin_leq, ibin_geq, ibin_lss, ibin_gtr, ibin_eql, ibin_neq, sbin_eql, sbin_neq, aun_not, Bool.not_true, Bool.not_false, decide_true, decide_false, if_true, if_false, Bool.false_eq_true, fldA_ptr, fldA_rop, anil_ptr, lenStr_str, amm_max, amm_min, Nat.zero_add, Nat.add_zero, List.length_cons, List.length_nil, Nat.reduceAdd]
    refine sto_own (cs := [iv 0, v]) (k1.at hG) (by simp) (by simp) rfl rfl ?_ ?_
    · intro x hx
      simp at hx
      rcases hx with rfl | rfl
      · rfl
      · exact hone.2
    simp [lodA, acellsAt]
    have hd : AH.Sub (dif σ1 σ') (dif σ (σ'.set ψ ⟨0, 2, [[iv 0, v]]⟩)) := dif_keep' hs fun χ h1 _ => AH.set_ne' (by rintro rfl; rw [hG] at h1; cases h1)
    have := h v _ (sub_set (F := ⟨0, 2, [[iv 0, v]]⟩) (hs.trans k1) hψ) (by simpa [lisR, c] using k2.sub hd)
    refine ret_here ?_
    simpa [lisR, c] using this
  · simp only [c, bldI_0, og_some', onr_ret, gval_true, gval_false, pickV_true, pickV_false, apick_true, apick_false, gpick_true, gpick_false, ibin_leq, ibin_geq, ibin_lss, ibin_gtr, ibin_eql, ibin_neq, sbin_eql, sbin_neq, aun_not, Bool.not_true, Bool.not_false, decide_true, decide_false, if_true, if_false, Bool.false_eq_true, fldA_ptr, fldA_rop, anil_ptr, lenStr_str, amm_max, amm_min, Nat.zero_add, Nat.add_zero, List.length_cons, List.length_nil, Nat.reduceAdd]
    refine sto_own (cs := [iv (segF size ps), nilS]) hG (by simp) (by simp) rfl rfl (by simp [AV.one, Value.oneCell']) ?_
    simp [lodA, acellsAt]
    have := h nilS _ (sub_set (F := ⟨0, 2, [[iv (segF size ps), nilS]]⟩) hs hψ) (.inl ⟨.inl rfl, by simp [lisR, c]⟩)
    refine ret_here ?_
    simpa [lisR, c] using this
theorem lisR_len (size : Int) (ps : List (List Int)) : (lisR size ps).2.length ≤ tot ps := by
  unfold lisR
  split
  · rw [tot_flatten]; exact Nat.le_refl _
  · simp
end Go.Proofs.Ytjfdgijgkbojnaa.E
/- The law on ListSegs. -/
set_option linter.unusedSectionVars false
set_option linter.unusedSimpArgs false
set_option linter.unusedVariables false
namespace Go.Proofs.Ytjfdgijgkbojnaa.E
open Go Go.RowKit
variable [Lam]
variable {σ : AH} {R : AEnd → AH → Prop}
/-- A struct laid into a new cell: what is known behind it. -/
theorem put_new {σ : AH} {ψ : Nat} {n : Nat} {zs cs : List AV} {k : AH → Prop} (hψ : σ ψ = none) (hz : zs.length = n) (hc : cs.length = n) (h1 : ∀ x, x ∈ cs → x.one = true)
    (h : ∀ σ', AH.Sub σ σ' → σ' ψ = some ⟨0, n, [cs]⟩ → (∀ χ, χ ≠ ψ → σ' χ = σ χ) → k σ') : sto n (.ptr ψ 0 0 0) (.agg cs) (σ.set ψ ⟨0, n, [zs]⟩) k := by
  refine sto_own (es := [zs]) (cs := cs) (AH.set_same ..) (by simp) (by simpa using hz) rfl hc h1 ?_
  simp only [List.set_cons_zero, AH.set_set]
  exact h _ (sub_set (.refl σ) hψ) (AH.set_same ..) fun χ hχ => AH.set_ne' hχ
theorem one2 {n : Int} {v : AV} (hv : v.one = true) : ∀ x, x ∈ [iv n, v] → x.one = true := by
  intro x hx
  rcases List.mem_cons.1 hx with rfl | hx
  · rfl
  · obtain rfl := List.mem_singleton.1 hx; exact hv
theorem c_laws_FnExactListSegs {size : Int} {ps : List (List Int)} (hl : ps.length ≤ maxLen) (hm : ∀ p, p ∈ ps → p.length ≤ maxLen)
    (h : R (.ret (bv true)) σ) : acall TP fn_laws_FnExactListSegs [roG size ps] σ R := by
  refine s_laws_FnExactListSegs_ok ?_
  unfold s_laws_FnExactListSegs
  simp only [abox_agg, og_some', onr_ret, gval_true, gval_false, pickV_true, pickV_false, apick_true, apick_false, gpick_true, gpick_false, ibin_leq, ibin_geq, ibin_lss, ibin_gtr, ibin_eql, ibin_neq, sbin_eql, sbin_neq, aun_not, Bool.not_true, Bool.not_false, decide_true, decide_false, if_true, if_false, Bool.false_eq_true, fldA_ptr, fldA_rop, anil_ptr, lenStr_str, amm_max, amm_min, Nat.zero_add, Nat.add_zero, List.length_cons, List.length_nil, Nat.reduceAdd]
  intro φ1 h1
  have hs1 : AH.Sub σ (σ.set φ1 ⟨0, 2, [[iv size, roP ps]]⟩) := sub_set (.refl σ) h1
  have f1 : (σ.set φ1 ⟨0, 2, [[iv size, roP ps]]⟩) φ1 = some ⟨0, 2, [[iv size, roP ps]]⟩ := AH.set_same ..
  generalize hg1 : σ.set φ1 ⟨0, 2, [[iv size, roP ps]]⟩ = σ1 at hs1 f1 ⊢
  clear hg1
  have e := lodA_at (st := 0) (i := 0) (n := 2) (cs := [iv size, roP ps]) f1 rfl rfl rfl
  simp only [e, og_some', onr_ret, gval_true, gval_false, pickV_true, pickV_false, apick_true, apick_false, gpick_true, gpick_false, ibin_leq, ibin_geq, ibin_lss, ibin_gtr, ibin_eql, ibin_neq, sbin_eql, sbin_neq, aun_not, Bool.not_true, Bool.not_false, decide_true, decide_false, if_true, if_false, Bool.false_eq_true, fldA_ptr, fldA_rop, anil_ptr, lenStr_str, amm_max, amm_min, Nat.zero_add, Nat.add_zero, List.length_cons, List.length_nil, Nat.reduceAdd]
  refine c_laws_szSegs (Ps.ro ..) (by omega) (by omega) hl hm fun r r0 r1 r2 => ?_
  simp only [og_some', onr_ret, gval_true, gval_false, pickV_true, pickV_false, apick_true, apick_false, gpick_true, gpick_false, ibin_leq, ibin_geq, ibin_lss, ibin_gtr, ibin_eql, ibin_neq, sbin_eql, sbin_neq, aun_not, Bool.not_true, Bool.not_false, decide_true, decide_false, if_true, if_false, Bool.false_eq_true, fldA_ptr, fldA_rop, anil_ptr, lenStr_str, amm_max, amm_min, Nat.zero_add, Nat.add_zero, List.length_cons, List.length_nil, Nat.reduceAdd]
  by_cases c1 : r < 0
  · simp only [c1, og_some', onr_ret, gval_true, gval_false, pickV_true, pickV_false, apick_true, apick_false, gpick_true, gpick_false, ibin_leq, ibin_geq, ibin_lss, ibin_gtr, ibin_eql, ibin_neq, sbin_eql, sbin_neq, aun_not, Bool.not_true, Bool.not_false, decide_true, decide_false, if_true, if_false, Bool.false_eq_true, fldA_ptr, fldA_rop, anil_ptr, lenStr_str, amm_max, amm_min, Nat.zero_add, Nat.add_zero, List.length_cons, List.length_nil, Nat.reduceAdd]; exact aret_sub hs1 h
  simp only [c1, e, og_some', onr_ret, gval_true, gval_false, pickV_true, pickV_false, apick_true, apick_false, gpick_true, gpick_false, ibin_leq, ibin_geq, ibin_lss, ibin_gtr, ibin_eql, ibin_neq, sbin_eql, sbin_neq, aun_not, Bool.not_true, Bool.not_false, decide_true, decide_false, if_true, if_false, Bool.false_eq_true, fldA_ptr, fldA_rop, anil_ptr, lenStr_str, amm_max, amm_min, Nat.zero_add, Nat.add_zero, List.length_cons, List.length_nil, Nat.reduceAdd]
  have b1 : ps.length ≤ 1099511627776 := by omega
  have b2 : ∀ p, p ∈ ps → p.length ≤ 1099511627776 := tot_mem (by omega)
  have b3 : ps.length + tot ps ≤ 1099511627776 := by omega
  have b4 : ((lisR size ps).2.length : Int) ≤ 1048576 := by have := lisR_len size ps; omega
  have b5 : (tot ps : Int) ≤ 1048576 := by omega
  refine c_laws_toSegs_ro (Ps.ro ..) b1 b2 ?_
  simp only [og_some', onr_ret, gval_true, gval_false, pickV_true, pickV_false, apick_true, apick_false, gpick_true, gpick_false, ibin_leq, ibin_geq, ibin_lss, ibin_gtr, ibin_eql, ibin_neq, sbin_eql, sbin_neq, aun_not, Bool.not_true, Bool.not_false, decide_true, decide_false, if_true, if_false, Bool.false_eq_true, fldA_ptr, fldA_rop, anil_ptr, lenStr_str, amm_max, amm_min, Nat.zero_add, Nat.add_zero, List.length_cons, List.length_nil, Nat.reduceAdd]
  refine c_spec_ListSegs (Ps.ro ..) b3 ?_
  simp only [new_eq, og_some', onr_ret, gval_true, gval_false, pickV_true, pickV_false, apick_true, apick_false, gpick_true, gpick_false, ibin_leq, ibin_geq, ibin_lss, ibin_gtr, ibin_eql, ibin_neq, sbin_eql, sbin_neq, aun_not, Bool.not_true, Bool.not_false, decide_true, decide_false, if_true, if_false, Bool.false_eq_true, fldA_ptr, fldA_rop, anil_ptr, lenStr_str, amm_max, amm_min, Nat.zero_add, Nat.add_zero, List.length_cons, List.length_nil, Nat.reduceAdd]
  intro φ4 h4
  refine put_new h4 rfl rfl (by simp [AV.one, Value.oneCell']) fun σ2 s2 f4 k2 => ?_
  have e := lodA_at (st := 0) (i := 0) (n := 2) (cs := [iv size, roP ps]) (s2.at f1) rfl rfl rfl
  simp only [e, og_some', onr_ret, gval_true, gval_false, pickV_true, pickV_false, apick_true, apick_false, gpick_true, gpick_false, ibin_leq, ibin_geq, ibin_lss, ibin_gtr, ibin_eql, ibin_neq, sbin_eql, sbin_neq, aun_not, Bool.not_true, Bool.not_false, decide_true, decide_false, if_true, if_false, Bool.false_eq_true, fldA_ptr, fldA_rop, anil_ptr, lenStr_str, amm_max, amm_min, Nat.zero_add, Nat.add_zero, List.length_cons, List.length_nil, Nat.reduceAdd]
  refine c_laws_toSegs (Ps.ro ..) b1 b2 fun x0 σ3 qs s3 hq x0B => ?_
  have x0one := (Buf.cs x0B.out).one
  simp only [new_eq, og_some', onr_ret, gval_true, gval_false, pickV_true, pickV_false, apick_true, apick_false, gpick_true, gpick_false, ibin_leq, ibin_geq, ibin_lss, ibin_gtr, ibin_eql, ibin_neq, sbin_eql, sbin_neq, aun_not, Bool.not_true, Bool.not_false, decide_true, decide_false, if_true, if_false, Bool.false_eq_true, fldA_ptr, fldA_rop, anil_ptr, lenStr_str, amm_max, amm_min, Nat.zero_add, Nat.add_zero, List.length_cons, List.length_nil, Nat.reduceAdd]
  intro φ5 h5
  refine put_new h5 rfl rfl (one2 x0one.2) fun σ4 s4 f5 k4 => ?_
  have e := lodA_at (st := 0) (i := 0) (n := 2) (cs := [iv size, x0]) f5 rfl rfl rfl
  simp only [e, og_some', onr_ret, gval_true, gval_false, pickV_true, pickV_false, apick_true, apick_false, gpick_true, gpick_false, ibin_leq, ibin_geq, ibin_lss, ibin_gtr, ibin_eql, ibin_neq, sbin_eql, sbin_neq, aun_not, Bool.not_true, Bool.not_false, decide_true, decide_false, if_true, if_false, Bool.false_eq_true, fldA_ptr, fldA_rop, anil_ptr, lenStr_str, amm_max, amm_min, Nat.zero_add, Nat.add_zero, List.length_cons, List.length_nil, Nat.reduceAdd]
  have x0B4 : PB σ4 x0 qs := (x0B.sub (dif_sub _ _)).sub s4
  have x0P4 : Ps σ4 x0 ps := hq ▸ x0B4.ps
  refine c_impl_ListSegs x0P4 b3 fun g σ5 s5 gB => ?_
  have gone := (Buf.cs gB).one
  simp only [new_eq, og_some', onr_ret, gval_true, gval_false, pickV_true, pickV_false, apick_true, apick_false, gpick_true, gpick_false, ibin_leq, ibin_geq, ibin_lss, ibin_gtr, ibin_eql, ibin_neq, sbin_eql, sbin_neq, aun_not, Bool.not_true, Bool.not_false, decide_true, decide_false, if_true, if_false, Bool.false_eq_true, fldA_ptr, fldA_rop, anil_ptr, lenStr_str, amm_max, amm_min, Nat.zero_add, Nat.add_zero, List.length_cons, List.length_nil, Nat.reduceAdd]
  intro φ6 h6
  refine put_new h6 rfl rfl (one2 gone.2) fun σ6 s6 f6 k6 => ?_
  have e6 := lodA_at (st := 0) (i := 0) (n := 2) (cs := [iv (lisR size ps).1, g]) f6 rfl rfl rfl
  have s26 := ((s3.trans s4).trans s5).trans s6
  have f4' := s26.at f4
  have f1' := (s2.trans s26).at f1
  have f5' := (s5.trans s6).at f5
  have e4 := lodA_at (st := 0) (i := 0) (n := 2) (cs := [iv (lisR size ps).1, roN (lisR size ps).2]) f4' rfl rfl rfl
  have e5 := lodA_at (st := 0) (i := 0) (n := 2) (cs := [iv size, x0]) f5' rfl rfl rfl
  have e1 := lodA_at (st := 0) (i := 0) (n := 2) (cs := [iv size, roP ps]) f1' rfl rfl rfl
  have gB6 : Buf σ6 1 g ((lisR size ps).2.map fun x => [iv x]) := (gB.sub (dif_sub _ _)).sub s6
  simp only [e6, e4, og_some', onr_ret, gval_true, gval_false, pickV_true, pickV_false, apick_true, apick_false, gpick_true, gpick_false, ibin_leq, ibin_geq, ibin_lss, ibin_gtr, ibin_eql, ibin_neq, sbin_eql, sbin_neq, aun_not, Bool.not_true, Bool.not_false, decide_true, decide_false, if_true, if_false, Bool.false_eq_true, fldA_ptr, fldA_rop, anil_ptr, lenStr_str, amm_max, amm_min, Nat.zero_add, Nat.add_zero, List.length_cons, List.length_nil, Nat.reduceAdd]
  refine c_laws_eqIntsResult (Buf.cs gB6) (Cs.ro ..) (by omega) ?_
  simp only [Bool.and_self, e5, e1, og_some', onr_ret, gval_true, gval_false, pickV_true, pickV_false, apick_true, apick_false, gpick_true, gpick_false, ibin_leq, ibin_geq, ibin_lss, ibin_gtr, ibin_eql, ibin_neq, sbin_eql, sbin_neq, aun_not, Bool.not_true, Bool.not_false, decide_true, decide_false, if_true, if_false, Bool.false_eq_true, fldA_ptr, fldA_rop, anil_ptr, lenStr_str, amm_max, amm_min, Nat.zero_add, Nat.add_zero, List.length_cons, List.length_nil, Nat.reduceAdd]
  refine c_laws_toSegs_ro (Ps.ro ..) b1 b2 ?_
  have x0B6 : PB σ6 x0 qs := x0B4.sub (s5.trans s6)
  have x0P6 : Ps σ6 x0 ps := hq ▸ x0B6.ps
  simp only [e5, true_and, og_some', onr_ret, gval_true, gval_false, pickV_true, pickV_false, apick_true, apick_false, gpick_true, gpick_false, ibin_leq, ibin_geq, ibin_lss, ibin_gtr, ibin_eql, ibin_neq, sbin_eql, sbin_neq, aun_not, Bool.not_true, Bool.not_false, decide_true, decide_false, if_true, if_false, Bool.false_eq_true, fldA_ptr, fldA_rop, anil_ptr, lenStr_str, amm_max, amm_min, Nat.zero_add, Nat.add_zero, List.length_cons, List.length_nil, Nat.reduceAdd]
  refine c_laws_eqSegs x0P6 (Ps.ro ..) b1 b2 ?_
  simp only [Bool.and_self, e5, true_and, og_some', onr_ret, gval_true, gval_false, pickV_true, pickV_false, apick_true, apick_false, gpick_true, gpick_false, ibin_leq, ibin_geq, ibin_lss, ibin_gtr, ibin_eql, ibin_neq, sbin_eql, sbin_neq, aun_not, Bool.not_true, Bool.not_false, decide_true, decide_false, if_true, if_false, Bool.false_eq_true, fldA_ptr, fldA_rop, anil_ptr, lenStr_str, amm_max, amm_min, Nat.zero_add, Nat.add_zero, List.length_cons, List.length_nil, Nat.reduceAdd]
  refine c_laws_markSegs x0B6 (by omega) (by have := congrArg List.length hq; simp at this; omega) (by rw [hq]; omega) fun σ7 _ m7 => ?_
  rw [hq]
  -- what is not x0's stays
  have keep : ∀ χ F, σ6 χ = some F → (σ2 χ ≠ none ∨ σ3 χ = none) → σ7 χ = some F := by
    intro χ F hF hor
    rw [m7 χ ?_ (by rw [hF]; simp)]; · exact hF
    intro q hqm hf
    obtain ⟨G, hG⟩ := (x0B.ins q hqm).fam_some hf
    obtain ⟨d1, d2⟩ := dif_some hG
    rcases hor with h | h
    · exact h d1
    · rw [h] at d2; cases d2
  have F1 := keep φ1 _ f1' (.inl (by rw [s2.at f1]; simp))
  have F4 := keep φ4 _ f4' (.inl (by rw [f4]; simp))
  have h56 : σ3 φ6 = none := (s4.trans s5).none h6
  have F6 := keep φ6 _ f6 (.inr h56)
  have gB7 : Buf σ7 1 g ((lisR size ps).2.map fun x => [iv x]) := gB6.keep fun χ hf => by
    obtain ⟨G, hG⟩ := gB.fam_some hf
    obtain ⟨d1, d2⟩ := dif_some hG
    have d3 := s6.at d2
    rw [d3]; exact keep χ G d3 (.inr (s4.none d1))
  have E4 := lodA_at (st := 0) (i := 0) (n := 2) (cs := [iv (lisR size ps).1, roN (lisR size ps).2]) F4 rfl rfl rfl
  have E6 := lodA_at (st := 0) (i := 0) (n := 2) (cs := [iv (lisR size ps).1, g]) F6 rfl rfl rfl
  have g36 : ¬ 1 + (tot ps : Int) < 0 := by omega
  simp only [jn, g36, E6, E4, og_some', onr_ret, gval_true, gval_false, pickV_true, pickV_false, apick_true, apick_false, gpick_true, gpick_false, ibin_leq, ibin_geq, ibin_lss, ibin_gtr, ibin_eql, ibin_neq, sbin_eql, sbin_neq, aun_not, Bool.not_true, Bool.not_false, decide_true, decide_false, if_true, if_false, Bool.false_eq_true, fldA_ptr, fldA_rop, anil_ptr, lenStr_str, amm_max, amm_min, Nat.zero_add, Nat.add_zero, List.length_cons, List.length_nil, Nat.reduceAdd]
  refine c_laws_eqIntsResult (Buf.cs gB7) (Cs.ro ..) (by omega) ?_
  simp only [Bool.and_self, E6, og_some', onr_ret, gval_true, gval_false, pickV_true, pickV_false, apick_true, apick_false, gpick_true, gpick_false, ibin_leq, ibin_geq, ibin_lss, ibin_gtr, ibin_eql, ibin_neq, sbin_eql, sbin_neq, aun_not, Bool.not_true, Bool.not_false, decide_true, decide_false, if_true, if_false, Bool.false_eq_true, fldA_ptr, fldA_rop, anil_ptr, lenStr_str, amm_max, amm_min, Nat.zero_add, Nat.add_zero, List.length_cons, List.length_nil, Nat.reduceAdd]
  refine c_laws_markIntsResult gB7 (by omega) (by omega) fun σ8 gB8 m8 => ?_
  have keep8 : ∀ χ F, σ7 χ = some F → (∀ G, σ6 χ = some G → σ4 χ ≠ none ∨ σ5 χ = none) → σ6 χ ≠ none → σ8 χ = some F := by
    intro χ F hF hor hn
    rw [m8 χ ?_ (by rw [hF]; simp)]; · exact hF
    intro hf
    obtain ⟨G, hG⟩ := gB.fam_some hf
    obtain ⟨d1, d2⟩ := dif_some hG
    rcases hor G (s6.at d2) with h | h
    · exact h d1
    · rw [h] at d2; cases d2
  have K1 := keep8 φ1 _ F1 (fun _ _ => .inl (by rw [(s3.trans s4).at (s2.at f1)]; simp)) (by rw [f1']; simp)
  have K4 := keep8 φ4 _ F4 (fun _ _ => .inl (by rw [(s3.trans s4).at f4]; simp)) (by rw [f4']; simp)
  have K6 := keep8 φ6 _ F6 (fun _ _ => .inr h6) (by rw [f6]; simp)
  have L4 := lodA_at (st := 0) (i := 0) (n := 2) (cs := [iv (lisR size ps).1, roN (lisR size ps).2]) K4 rfl rfl rfl
  have L6 := lodA_at (st := 0) (i := 0) (n := 2) (cs := [iv (lisR size ps).1, g]) K6 rfl rfl rfl
  have L1 := lodA_at (st := 0) (i := 0) (n := 2) (cs := [iv size, roP ps]) K1 rfl rfl rfl
  simp only [L6, og_some', onr_ret, gval_true, gval_false, pickV_true, pickV_false, apick_true, apick_false, gpick_true, gpick_false, ibin_leq, ibin_geq, ibin_lss, ibin_gtr, ibin_eql, ibin_neq, sbin_eql, sbin_neq, aun_not, Bool.not_true, Bool.not_false, decide_true, decide_false, if_true, if_false, Bool.false_eq_true, fldA_ptr, fldA_rop, anil_ptr, lenStr_str, amm_max, amm_min, Nat.zero_add, Nat.add_zero, List.length_cons, List.length_nil, Nat.reduceAdd]
  refine c_laws_heldIntsResult (Buf.cs gB8) (by omega) (by omega) ?_
  have g50 : ¬ 1 + ((lisR size ps).2.length : Int) < 0 := by omega
  simp only [g50, L1, og_some', onr_ret, gval_true, gval_false, pickV_true, pickV_false, apick_true, apick_false, gpick_true, gpick_false, ibin_leq, ibin_geq, ibin_lss, ibin_gtr, ibin_eql, ibin_neq, sbin_eql, sbin_neq, aun_not, Bool.not_true, Bool.not_false, decide_true, decide_false, if_true, if_false, Bool.false_eq_true, fldA_ptr, fldA_rop, anil_ptr, lenStr_str, amm_max, amm_min, Nat.zero_add, Nat.add_zero, List.length_cons, List.length_nil, Nat.reduceAdd]
  refine c_laws_toSegs_ro (Ps.ro ..) b1 b2 ?_
  simp only [og_some', onr_ret, gval_true, gval_false, pickV_true, pickV_false, apick_true, apick_false, gpick_true, gpick_false, ibin_leq, ibin_geq, ibin_lss, ibin_gtr, ibin_eql, ibin_neq, sbin_eql, sbin_neq, aun_not, Bool.not_true, Bool.not_false, decide_true, decide_false, if_true, if_false, Bool.false_eq_true, fldA_ptr, fldA_rop, anil_ptr, lenStr_str, amm_max, amm_min, Nat.zero_add, Nat.add_zero, List.length_cons, List.length_nil, Nat.reduceAdd]
  refine c_impl_ListSegs (Ps.ro ..) b3 fun g' σ9 s9 gB9 => ?_
  have gone9 := (Buf.cs gB9).one
  simp only [new_eq, og_some', onr_ret, gval_true, gval_false, pickV_true, pickV_false, apick_true, apick_false, gpick_true, gpick_false, ibin_leq, ibin_geq, ibin_lss, ibin_gtr, ibin_eql, ibin_neq, sbin_eql, sbin_neq, aun_not, Bool.not_true, Bool.not_false, decide_true, decide_false, if_true, if_false, Bool.false_eq_true, fldA_ptr, fldA_rop, anil_ptr, lenStr_str, amm_max, amm_min, Nat.zero_add, Nat.add_zero, List.length_cons, List.length_nil, Nat.reduceAdd]
  intro φ10 h10
  refine put_new h10 rfl rfl (one2 gone9.2) fun σ10 s10 f10 k10 => ?_
  have e10 := lodA_at (st := 0) (i := 0) (n := 2) (cs := [iv (lisR size ps).1, g']) f10 rfl rfl rfl
  have M4 := lodA_at (st := 0) (i := 0) (n := 2) (cs := [iv (lisR size ps).1, roN (lisR size ps).2]) ((s9.trans s10).at K4) rfl rfl rfl
  have M6 := lodA_at (st := 0) (i := 0) (n := 2) (cs := [iv (lisR size ps).1, g]) ((s9.trans s10).at K6) rfl rfl rfl
  simp only [e10, M4, og_some', onr_ret, gval_true, gval_false, pickV_true, pickV_false, apick_true, apick_false, gpick_true, gpick_false, ibin_leq, ibin_geq, ibin_lss, ibin_gtr, ibin_eql, ibin_neq, sbin_eql, sbin_neq, aun_not, Bool.not_true, Bool.not_false, decide_true, decide_false, if_true, if_false, Bool.false_eq_true, fldA_ptr, fldA_rop, anil_ptr, lenStr_str, amm_max, amm_min, Nat.zero_add, Nat.add_zero, List.length_cons, List.length_nil, Nat.reduceAdd]
  refine c_laws_eqIntsResult (Buf.cs ((gB9.sub (dif_sub _ _)).sub s10)) (Cs.ro ..) (by omega) ?_
  simp only [Bool.and_self, M6, og_some', onr_ret, gval_true, gval_false, pickV_true, pickV_false, apick_true, apick_false, gpick_true, gpick_false, ibin_leq, ibin_geq, ibin_lss, ibin_gtr, ibin_eql, ibin_neq, sbin_eql, sbin_neq, aun_not, Bool.not_true, Bool.not_false, decide_true, decide_false, if_true, if_false, Bool.false_eq_true, fldA_ptr, fldA_rop, anil_ptr, lenStr_str, amm_max, amm_min, Nat.zero_add, Nat.add_zero, List.length_cons, List.length_nil, Nat.reduceAdd]
  refine c_laws_heldIntsResult ((Buf.cs gB8).sub (s9.trans s10)) (by omega) (by omega) ?_
  simp only [g50, og_some', onr_ret, gval_true, gval_false, pickV_true, pickV_false, apick_true, apick_false, gpick_true, gpick_false, ibin_leq, ibin_geq, ibin_lss, ibin_gtr, ibin_eql, ibin_neq, sbin_eql, sbin_neq, aun_not, Bool.not_true, Bool.not_false, decide_true, decide_false, if_true, if_false, Bool.false_eq_true, fldA_ptr, fldA_rop, anil_ptr, lenStr_str, amm_max, amm_min, Nat.zero_add, Nat.add_zero, List.length_cons, List.length_nil, Nat.reduceAdd]
  -- the caller's heap is as it was
  refine aret_sub (σ' := σ) ?_ h
  intro χ F hF
  have a1 := hs1 χ F hF
  have a2 := s2.at a1
  have a6 := s26.at a2
  have a7 := keep χ F a6 (.inl (by rw [a2]; simp))
  exact (s9.trans s10).at (keep8 χ F a7 (fun _ _ => .inl (by rw [(s3.trans s4).at a2]; simp)) (by rw [a6]; simp))
end Go.Proofs.Ytjfdgijgkbojnaa.E
/- Stacks of pieces, built. -/
set_option linter.unusedSectionVars false
set_option linter.unusedSimpArgs false
set_option linter.unusedVariables false
namespace Go.Proofs.Ytjfdgijgkbojnaa.E
open Go Go.RowKit
variable [Lam]
variable {σ : AH} {R : AEnd → AH → Prop}
/-! ### pieces -/
def pcs (n : Nat) (xs : List Int) (k : Nat) : List (List Int) := (List.range k).map fun i => (xs.drop (i * n)).take n
@[simp] theorem pcs_length (n : Nat) (xs : List Int) (k : Nat) : (pcs n xs k).length = k := by simp [pcs]
theorem pcs_succ (n : Nat) (xs : List Int) (k : Nat) : pcs n xs (k + 1) = pcs n xs k ++ [(xs.drop (k * n)).take n] := by simp [pcs, List.range_succ]
theorem pcs_flat (n : Nat) (xs : List Int) (k : Nat) : (pcs n xs k).flatten = xs.take (k * n) := by
  induction k with
  | zero => simp [pcs]
  | succ k ih => rw [pcs_succ, List.flatten_append, ih, Nat.succ_mul, List.take_add]; simp
theorem pcs_ok {n : Nat} {xs : List Int} {k : Nat} (hn : 0 < n) (hk : ∀ j, j < k → j * n < xs.length) : OkP (n : Int) (pcs n xs k) := by
  intro i hi
  have hi' : i < k := by simpa using hi
  have e : (pcs n xs k)[i] = (xs.drop (i * n)).take n := by simp [pcs]
  have h1 := hk i hi'
  rw [e, List.length_take, List.length_drop]
  refine ⟨by omega, by omega, fun h => ?_⟩
  have h2 := hk (i + 1) (by simpa using h)
  rw [Nat.succ_mul] at h2
  omega
theorem okp_unique {size : Int} : ∀ {ps qs : List (List Int)}, OkP size ps → OkP size qs → ps.flatten = qs.flatten → ps = qs := by
  intro ps
  induction ps with
  | nil =>
    intro qs _ hq e
    cases qs with
    | nil => rfl
    | cons q qs =>
      have h1 := (hq 0 (by simp)).1
      have := congrArg List.length e
      simp at this h1
      omega
  | cons p ps ih =>
    intro qs hp hq e
    cases qs with
    | nil =>
      have h1 := (hp 0 (by simp)).1
      have := congrArg List.length e
      simp only [List.flatten_cons, List.length_append, List.flatten_nil, List.length_nil] at this
      simp only [List.getElem_cons_zero] at h1
      omega
    | cons q qs =>
      have hl : p.length = q.length := by
        obtain ⟨a1, a2, a3⟩ := hp 0 (by simp)
        obtain ⟨b1, b2, b3⟩ := hq 0 (by simp)
        simp only [List.getElem_cons_zero, List.length_cons] at a1 a2 a3 b1 b2 b3
        have el := congrArg List.length e
        simp only [List.flatten_cons, List.length_append] at el
        cases ps with
        | nil =>
          cases qs with
          | nil => simpa using el
          | cons r rs =>
            have c := (okAt_tail hq 0 (by simp)).1
            have b3 := b3 (by simp)
            simp only [List.getElem_cons_zero, List.flatten_nil, List.flatten_cons, List.length_nil, List.length_append] at c el
            omega
        | cons r rs =>
          have a3 := a3 (by simp)
          cases qs with
          | nil =>
            have c := (okAt_tail hp 0 (by simp)).1
            simp only [List.getElem_cons_zero, List.flatten_nil, List.flatten_cons, List.length_nil, List.length_append] at c el
            omega
          | cons s ss =>
            have b3 := b3 (by simp)
            omega
      have e' : p ++ ps.flatten = q ++ qs.flatten := by simpa using e
      obtain ⟨e1, e2⟩ := List.append_inj e' hl
      rw [e1, ih (okAt_tail hp) (okAt_tail hq) e2]

/-! ### a slice looked at for nil, and copied -/
def isSl (T : Tab) (t : TypeId) : Bool := match T t with
  | some ti => match ti.under with | .slice _ => true | _ => false
  | none => false
theorem eql_nil {T : Tab} {t : TypeId} {a : AV} {sz : Nat} {es : List (List AV)} {k : AV → Prop} (hu : isSl T t = true) (hS : Sl σ sz a es) (h : ∀ b : Bool, (es ≠ [] → b = false) → k (bv b)) : abin T .eql t a (.val (.slice none 0 0)) k := by
  unfold isSl at hu
  split at hu
  case h_2 => cases hu
  rename_i ti ht
  split at hu
  case h_2 => cases hu
  rename_i e he
  have key : aeql T t a (.val (.slice none 0 0)) (fun b => k (.val (.bool b))) := by
    unfold aeql
    simp only [ht, he]
    cases hS with
    | ro _ _ => exact fun b hb => h b hb
    | own _ _ _ _ _ _ _ _ _ _ => exact h false (fun _ => rfl)
    | emp => exact fun b => h b (fun h => absurd rfl h)
    | nil => exact h true (fun h => absurd rfl h)
  unfold abin
  cases hS <;> exact key
/-- What may be copied. -/
structure Src (σ : AH) (a : AV) (es : List (List AV)) : Prop where
  el : ∀ σ', AH.Sub σ σ' → aelems σ' a = some es
  nl : ∀ {T : Tab} {t : TypeId} {k : AV → Prop}, isSl T t = true → (∀ b : Bool, (es ≠ [] → b = false) → k (bv b)) → abin T .eql t a (.val (.slice none 0 0)) k
theorem Sl.src {sz : Nat} {a : AV} {es : List (List AV)} (h : Sl σ sz a es) : Src σ a es := ⟨fun σ' hs => (h.sub hs).elems, fun hu hk => eql_nil hu h hk⟩
theorem Src.sub {σ' : AH} {a : AV} {es : List (List AV)} (h : Src σ a es) (hs : AH.Sub σ σ') : Src σ' a es := ⟨fun σ2 h2 => h.el σ2 (hs.trans h2), h.nl⟩
theorem Src.vw {φ st off n : Nat} {F : Fam} (hF : σ φ = some F) (hst : F.st = st) (hl : off + n ≤ F.es.length) (hn : 0 < n) : Src σ (.vw φ st off n) ((F.es.drop off).take n) := by
  refine ⟨fun σ' hs => by simp [aelems, hs.at hF, hst, hl], ?_⟩
  intro T t k hu hk
  unfold isSl at hu
  split at hu
  case h_2 => cases hu
  rename_i ti ht
  split at hu
  case h_2 => cases hu
  rename_i e he
  unfold abin
  simp only
  unfold aeql
  simp only [ht, he]
  exact hk false fun _ => rfl
theorem Sl.slc3 {sz : Nat} {a : AV} {es : List (List AV)} (h : Sl σ sz a es) {l k : Nat} (h1 : l < k) (h2 : k ≤ es.length) :
    ∃ b, E.slc sz a (some (iv (l : Nat))) (some (iv (k : Nat))) (some (iv (k : Nat))) σ = some b ∧ Src σ b ((es.take k).drop l) := by
  have b0 : ∀ (i d : Nat), abd (some (iv (i : Nat))) d = some i := fun i d => by simp [abd]
  cases h with
  | ro _ h =>
    refine ⟨.ro ((es.take k).drop l), ?_, (Sl.ro _ fun c hc => h c (List.mem_of_mem_take (List.mem_of_mem_drop hc))).src⟩
    simp only [E.slc, b0]
    rw [if_pos]
    refine ⟨by omega, Nat.le_refl _, h2, by simp, ?_⟩
    rw [List.all_eq_true]; intro c hc; simpa using h c hc
  | own φ st off n F hF hst hs hl h =>
    have hlen : ((F.es.drop off).take n).length = n := by simp; omega
    rw [hlen] at h2
    refine ⟨.vw φ st (off + l) (k - l), ?_, ?_⟩
    · simp only [E.slc, hF, b0]
      rw [if_pos]
      exact ⟨h1, Nat.le_refl _, h2, rfl, hst, hs⟩
    · have e : (((F.es.drop off).take n).take k).drop l = (F.es.drop (off + l)).take (k - l) := by
        rw [List.take_take, Nat.min_eq_left (by omega), List.drop_take, List.drop_drop]
      rw [e]
      exact .vw hF hst (by omega) (by omega)
  | emp => simp at h2; omega
  | nil => simp at h2; omega
theorem iv_size (xs : List Int) : ∀ c, c ∈ (xs.map fun x => [iv x]) → c.length = 1 := by intro c hc; obtain ⟨x, _, rfl⟩ := List.mem_map.1 hc; rfl
theorem iv_one (xs : List Int) : ∀ c, c ∈ (xs.map fun x => [iv x]) → ∀ y, y ∈ c → y.one = true := by intro c hc; obtain ⟨x, _, rfl⟩ := List.mem_map.1 hc; intro y hy; simp at hy; subst hy; rfl
set_option maxRecDepth 100000 in
theorem li_sl : isSl TT ty_Li = true := by kernel_rfl
theorem Buf.new {σ : AH} {φ : Nat} {sz : Nat} : Buf (σ.set φ ⟨0, sz, []⟩) sz (.own φ 0 0 0) [] := .inr ⟨φ, 0, rfl, AH.set_same ..⟩
theorem c_slices_Clone {a : AV} {xs : List Int} (hS : Src σ a (xs.map fun x => [iv x])) (hl : xs.length ≤ 4294967296)
    (h : ∀ v σ', AH.Sub σ σ' → Buf (dif σ σ') 1 v (xs.map fun x => [iv x]) → R (.ret v) σ') : acall TP fn_slices_Clone [a] σ R := by
  refine s_slices_Clone_ok ?_
  unfold s_slices_Clone
  refine hS.nl li_sl fun b hb => ?_
  cases b with
  | true =>
    simp only [og_some', onr_ret, gval_true, gval_false, pickV_true, pickV_false, apick_true, apick_false, gpick_true, gpick_false, ibin_leq, ibin_geq, ibin_lss, ibin_gtr, ibin_eql, ibin_neq, sbin_eql, sbin_neq, aun_not, Bool.not_true, Bool.not_false, decide_true, decide_false, if_true, if_false, Bool.false_eq_true, fldA_ptr, fldA_rop, anil_ptr, lenStr_str, amm_max, amm_min, Nat.zero_add, Nat.add_zero, List.length_cons, List.length_nil, Nat.reduceAdd]
    have : xs = [] := by
      by_cases c : xs = []
      · exact c
      · have := hb (by simpa using c); cases this
    subst this
    exact ret_here (h _ σ (.refl σ) (.inl ⟨.inl rfl, rfl⟩))
  | false =>
    simp only [og_some', onr_ret, gval_true, gval_false, pickV_true, pickV_false, apick_true, apick_false, gpick_true, gpick_false, ibin_leq, ibin_geq, ibin_lss, ibin_gtr, ibin_eql, ibin_neq, sbin_eql, sbin_neq, aun_not, Bool.not_true, Bool.not_false, decide_true, decide_false, if_true, if_false, Bool.false_eq_true, fldA_ptr, fldA_rop, anil_ptr, lenStr_str, amm_max, amm_min, Nat.zero_add, Nat.add_zero, List.length_cons, List.length_nil, Nat.reduceAdd]
    refine ⟨by decide, fun φ hφ => ?_⟩
    have hs : AH.Sub σ (σ.set φ ⟨0, 1, []⟩) := sub_set (.refl σ) hφ
    simp only [List.replicate_zero]
    refine Buf.app (Buf.new (σ := σ) (φ := φ) (sz := 1)) (hS.el _ hs) (iv_size xs) (iv_one xs) (by simpa using hl) ?_
    intro a' σ' b1 b2 b3 b4
    rw [List.nil_append] at b1
    have own : ∀ ψ, Buf.fam (.own φ 0 0 0) ψ → ψ = φ := by rintro ψ ⟨_, _, _, e⟩; cases e; rfl
    refine ret_here (h a' σ' ?_ (b1.dif fun ψ hψ => ?_))
    · intro ψ F hF
      have hne : ψ ≠ φ := by rintro rfl; rw [hφ] at hF; cases hF
      rw [b2 ψ (fun hf => hne (own ψ hf)) (by rw [hs.at hF]; simp)]; exact hs.at hF
    · rcases b3 ψ hψ with hf | hn
      · rw [own ψ hf]; exact hφ
      · exact hs.none hn

/-! ### in pieces of a size -/
theorem abd_nat (i d : Nat) : abd (some (iv (i : Nat))) d = some i := by simp [abd]
theorem abox_one {v : AV} {k : AV → AH → Prop} (hc : acells v = some [v]) : abox v σ k = ∀ φ, σ φ = none → k (.ptr φ 0 0 0) (σ.set φ ⟨0, 1, [[v]]⟩) := by unfold abox; rw [hc]; rfl
theorem c_slices_Chunk {a : AV} {n : Int} (hc : acells a = some [a]) (hn : 1 ≤ n)
    (h : ∀ φ ψ, σ φ = none → σ ψ = none → ψ ≠ φ → R (.ret (.clo (.func fn_slices_Chunk_1) [] [.ptr φ 0 0 0, .ptr ψ 0 0 0])) ((σ.set φ ⟨0, 1, [[a]]⟩).set ψ ⟨0, 1, [[iv n]]⟩)) : acall TP fn_slices_Chunk [a, iv n] σ R := by
  refine s_slices_Chunk_ok ?_
  unfold s_slices_Chunk
  rw [abox_one hc]
  intro φ hφ
  rw [abox_one rfl]
  intro ψ hψ
  simp only [AH.set_none] at hψ
  have e := lod_at (σ := (σ.set φ ⟨0, 1, [[a]]⟩).set ψ ⟨0, 1, [[iv n]]⟩) (φ := ψ) (st := 0) (i := 0) (off := 0) (c := iv n) (AH.set_same ..) rfl rfl
  have hc1 : ¬ n < 1 := by omega
  simp only [jn, e, hc1, og_some', onr_ret, gval_true, gval_false, pickV_true, pickV_false, apick_true, apick_false, gpick_true, gpick_false, ibin_leq, ibin_geq, ibin_lss, ibin_gtr, ibin_eql, ibin_neq, sbin_eql, sbin_neq, aun_not, Bool.not_true, Bool.not_false, decide_true, decide_false, if_true, if_false, Bool.false_eq_true, fldA_ptr, fldA_rop, anil_ptr, lenStr_str, amm_max, amm_min, Nat.zero_add, Nat.add_zero, List.length_cons, List.length_nil, Nat.reduceAdd]
  exact ret_here (h φ ψ hφ hψ.2 hψ.1)
set_option maxRecDepth 100000 in
theorem c_slices_Chunk_1 {y a : AV} {φ ψ n : Nat} {xs : List Int} (I : Nat → AH → Prop) (hn : 1 ≤ n) (hn2 : n ≤ 1099511627776) (hl : xs.length ≤ 1099511627776)
    (hI : ∀ k σ, I k σ → σ φ = some ⟨0, 1, [[a]]⟩ ∧ σ ψ = some ⟨0, 1, [[iv n]]⟩ ∧ Ns σ a xs) (h0 : I 0 σ)
    (step : ∀ k σ, k * n < xs.length → I k σ → ∀ v, Src σ v (((xs.drop (k * n)).take n).map fun x => [iv x]) → acallv TP y [v] σ (onr (fun v σ' => v = .val (.bool true) ∧ I (k + 1) σ') fun _ _ => False))
    (h : ∀ k σ, (∀ j, j < k → j * n < xs.length) → xs.length ≤ k * n → I k σ → R (.ret (.tup [])) σ) : acall TP fn_slices_Chunk_1 [y, .ptr φ 0 0 0, .ptr ψ 0 0 0] σ R := by
  refine s_slices_Chunk_1_ok ?_
  unfold s_slices_Chunk_1
  refine lp_rel (xs.length + 1) (fun k x σi => x = (y, .ptr φ 0 0 0, .ptr ψ 0 0 0, iv ((k * n : Nat) : Int), ()) ∧ I k σi ∧ ∀ j, j < k → j * n < xs.length) ⟨by simp [iv]; rfl, h0, fun j hj => absurd hj (Nat.not_lt_zero j)⟩ ?_
  rintro k x σi hk ⟨rfl, hi, hj⟩ R' hR'
  obtain ⟨f1, f2, hS⟩ := hI k σi hi
  have e1 := lod_at (st := 0) (i := 0) (off := 0) (c := a) f1 rfl rfl
  have e2 := lod_at (st := 0) (i := 0) (off := 0) (c := iv n) f2 rfl rfl
  simp only [e1, e2, hS.len, og_some', onr_ret, gval_true, gval_false, pickV_true, pickV_false, apick_true, apick_false, gpick_true, gpick_false, ibin_leq, ibin_geq, ibin_lss, ibin_gtr, ibin_eql, ibin_neq, sbin_eql, sbin_neq, aun_not, Bool.not_true, Bool.not_false, decide_true, decide_false, if_true, if_false, Bool.false_eq_true, fldA_ptr, fldA_rop, anil_ptr, lenStr_str, amm_max, amm_min, Nat.zero_add, Nat.add_zero, List.length_cons, List.length_nil, Nat.reduceAdd]
  by_cases c : k * n < xs.length
  · have c' : ((k * n : Nat) : Int) < (xs.length : Int) := by omega
    obtain ⟨b1, g1, g2⟩ := hS.slc (lo := some (iv ((k * n : Nat) : Int))) (hi := none) (l := k * n) (k := xs.length) (abd_nat _ _) rfl (by omega) (Nat.le_refl _)
    have hm : (if (((xs.take xs.length).drop (k * n)).length : Int) < (n : Int) then (((xs.take xs.length).drop (k * n)).length : Int) else (n : Int)) = ((min n (xs.length - k * n) : Nat) : Int) := by
      rw [List.length_drop, List.length_take]; split <;> omega
    have ha := ibin_add (a := ((k * n : Nat) : Int)) (b := ((min n (xs.length - k * n) : Nat) : Int)) (by omega) (by omega)
    have hb : ((k * n : Nat) : Int) + ((min n (xs.length - k * n) : Nat) : Int) = ((k * n + min n (xs.length - k * n) : Nat) : Int) := by omega
    rw [hb] at ha
    obtain ⟨b2, g3, g4⟩ := Sl.slc3 hS (l := k * n) (k := k * n + min n (xs.length - k * n)) (by omega) (by simp; omega)
    have hcut : (xs.take (k * n + min n (xs.length - k * n))).drop (k * n) = (xs.drop (k * n)).take n := by
      rw [List.drop_take, Nat.add_sub_cancel_left]
      by_cases c2 : n ≤ xs.length - k * n
      · rw [Nat.min_eq_left c2]
      · rw [Nat.min_eq_right (by omega), List.take_of_length_le (by simp), List.take_of_length_le (by simp; omega)]
    rw [← List.map_take, ← List.map_drop, hcut] at g4
    simp only [c', g1, g2.len, hm, ha, g3, og_some', onr_ret, gval_true, gval_false, pickV_true, pickV_false, apick_true, apick_false, gpick_true, gpick_false, ibin_leq, ibin_geq, ibin_lss, ibin_gtr, ibin_eql, ibin_neq, sbin_eql, sbin_neq, aun_not, Bool.not_true, Bool.not_false, decide_true, decide_false, if_true, if_false, Bool.false_eq_true, fldA_ptr, fldA_rop, anil_ptr, lenStr_str, amm_max, amm_min, Nat.zero_add, Nat.add_zero, List.length_cons, List.length_nil, Nat.reduceAdd]
    refine acallv_mono (step k σi c hi b2 g4) ?_
    rintro e σ2 he
    cases e with
    | pan v => exact he.elim
    | ret v =>
      obtain ⟨rfl, hi2⟩ := he
      obtain ⟨f1, f2, _⟩ := hI _ _ hi2
      have e2 := lod_at (st := 0) (i := 0) (off := 0) (c := iv n) f2 rfl rfl
      have ha2 := ibin_add (a := ((k * n : Nat) : Int)) (b := (n : Int)) (by omega) (by omega)
      rw [show ((k * n : Nat) : Int) + (n : Int) = (((k + 1) * n : Nat) : Int) by rw [Nat.succ_mul]; omega] at ha2
      simp only [e2, ha2, og_some', onr_ret, gval_true, gval_false, pickV_true, pickV_false, apick_true, apick_false, gpick_true, gpick_false, ibin_leq, ibin_geq, ibin_lss, ibin_gtr, ibin_eql, ibin_neq, sbin_eql, sbin_neq, aun_not, Bool.not_true, Bool.not_false, decide_true, decide_false, if_true, if_false, Bool.false_eq_true, fldA_ptr, fldA_rop, anil_ptr, lenStr_str, amm_max, amm_min, Nat.zero_add, Nat.add_zero, List.length_cons, List.length_nil, Nat.reduceAdd]
      refine hR' _ _ _ ?_ (.refl _) ⟨rfl, hi2, fun j hjk => ?_⟩
      · have : k ≤ k * n := Nat.le_mul_of_pos_right k (by omega)
        omega
      · by_cases c3 : j < k
        · exact hj j c3
        · obtain rfl : j = k := by omega
          exact c
  · have c' : ¬ ((k * n : Nat) : Int) < (xs.length : Int) := by omega
    simp only [c', og_some', onr_ret, gval_true, gval_false, pickV_true, pickV_false, apick_true, apick_false, gpick_true, gpick_false, ibin_leq, ibin_geq, ibin_lss, ibin_gtr, ibin_eql, ibin_neq, sbin_eql, sbin_neq, aun_not, Bool.not_true, Bool.not_false, decide_true, decide_false, if_true, if_false, Bool.false_eq_true, fldA_ptr, fldA_rop, anil_ptr, lenStr_str, amm_max, amm_min, Nat.zero_add, Nat.add_zero, List.length_cons, List.length_nil, Nat.reduceAdd]
    exact ret_here (h k σi hj (by omega) hi)
end Go.Proofs.Ytjfdgijgkbojnaa.E
/- Stacks of pieces, built: segsOf, l12Push, l12Open. -/
set_option linter.unusedSectionVars false
set_option linter.unusedSimpArgs false
set_option linter.unusedVariables false
namespace Go.Proofs.Ytjfdgijgkbojnaa.E
open Go Go.RowKit
variable [L : Lam]
variable {σ : AH} {R : AEnd → AH → Prop}
/-- Nothing of it lay in σ. -/
structure Fresh (σ : AH) (a : AV) (qs : List (AV × List Int)) : Prop where
  out : ∀ ψ, Buf.fam a ψ → σ ψ = none
  ins : ∀ q, q ∈ qs → ∀ ψ, Buf.fam q.1 ψ → σ ψ = none
theorem PB.dif {σ' : AH} {a : AV} {qs : List (AV × List Int)} (h : PB σ' a qs) (hf : Fresh σ a qs) : PB (dif σ σ') a qs := ⟨h.out.dif hf.out, fun q hq => (h.ins q hq).dif (hf.ins q hq), h.sep, h.pair⟩
theorem nofam_nil (ψ : Nat) : ¬ Buf.fam nilS ψ := by rintro ⟨_, _, _, e⟩; cases e
theorem PB.nil : PB σ nilS [] := ⟨.inl ⟨.inl rfl, rfl⟩, (fun q hq => by cases hq), (fun q hq => by cases hq), .nil⟩
theorem Fresh.nil : Fresh σ nilS [] := ⟨fun ψ h => absurd h (nofam_nil ψ), fun q hq => by cases hq⟩
theorem Buf.one {sz : Nat} {a : AV} {es : List (List AV)} (h : Buf σ sz a es) : acells a = some [a] ∧ a.one = true := by
  rcases h with ⟨rfl | rfl, _⟩ | ⟨φ, st, rfl, hF⟩ <;> exact ⟨rfl, rfl⟩
/-- A list put behind the others. -/
theorem PB.push {a w x : AV} {qs : List (AV × List Int)} {xs : List Int} {k : AV → AH → Prop} (h : PB σ a qs) (hx : aelems σ x = some [[w]]) (hw : Buf σ 1 w (xs.map fun x => [iv x]))
    (s1 : ∀ ψ, Buf.fam w ψ → ¬ Buf.fam a ψ) (s2 : ∀ q, q ∈ qs → ∀ ψ, Buf.fam q.1 ψ → ¬ Buf.fam w ψ) (hn : qs.length + 1 ≤ 4294967296)
    (hk : ∀ a' σ', PB σ' a' (qs ++ [(w, xs)]) → (∀ ψ, ¬ Buf.fam a ψ → σ ψ ≠ none → σ' ψ = σ ψ) → (∀ ψ, Buf.fam a' ψ → Buf.fam a ψ ∨ σ ψ = none) → k a' σ') : app 1 a x σ k := by
  refine Buf.app h.out hx (fun c hc => by obtain rfl := List.mem_singleton.1 hc; rfl) (fun c hc y hy => ?_) (by simpa using hn) ?_
  · obtain rfl := List.mem_singleton.1 hc
    obtain rfl := List.mem_singleton.1 hy
    exact hw.one.2
  intro a' σ' b1 b2 b3 b4
  have stay : ∀ q, q ∈ qs → Buf σ' 1 q.1 (q.2.map fun x => [iv x]) := fun q hq => (h.ins q hq).keep fun ψ hψ => b2 ψ (h.sep q hq ψ hψ) (by obtain ⟨F, hF⟩ := (h.ins q hq).fam_some hψ; rw [hF]; simp)
  have stayw : Buf σ' 1 w (xs.map fun x => [iv x]) := hw.keep fun ψ hψ => b2 ψ (s1 ψ hψ) (by obtain ⟨F, hF⟩ := hw.fam_some hψ; rw [hF]; simp)
  refine hk a' σ' ⟨by simpa using b1, fun q hq => ?_, fun q hq ψ hψ hψ' => ?_, ?_⟩ b2 b3
  · rcases List.mem_append.1 hq with hq | hq
    · exact stay q hq
    · obtain rfl := List.mem_singleton.1 hq; exact stayw
  · have hold : Buf.fam a ψ → False := by
      rcases List.mem_append.1 hq with hq | hq
      · exact h.sep q hq ψ hψ
      · obtain rfl := List.mem_singleton.1 hq; exact s1 ψ hψ
    rcases b3 ψ hψ' with hf | hf
    · exact hold hf
    · rcases List.mem_append.1 hq with hq | hq
      · obtain ⟨F, hF⟩ := (h.ins q hq).fam_some hψ; rw [hF] at hf; cases hf
      · obtain rfl := List.mem_singleton.1 hq
        obtain ⟨F, hF⟩ := hw.fam_some hψ; rw [hF] at hf; cases hf
  · rw [List.pairwise_append]
    exact ⟨h.pair, List.pairwise_singleton _ _, fun q hq r hr => by obtain rfl := List.mem_singleton.1 hr; exact s2 q hq⟩
theorem arange_in {P : Program} {gf : FuncId} {cap : List AV} {Y : AV → AH → (AH → Prop) → Prop} {K : AH → Prop} {Kp : AV → AH → Prop}
    (h : ∀ (L' : Lam) (l : Nat), (∀ x σ1 N, Y x σ1 N → @ayield L' P l [x] σ1 (onr (fun v σ' => v = .val (.bool true) ∧ N σ') (fun _ _ => False))) → @acall L' P gf (.yld l :: cap) σ (onr (fun _ σ' => K σ') Kp)) :
    arange P (.clo (.func gf) [] cap) Y σ K Kp := h
theorem toNat_pos {n : Int} (h : 1 ≤ n) : ((n.toNat : Nat) : Int) = n ∧ 1 ≤ n.toNat := by omega
theorem c_impl_segsOf {size : Int} {a : AV} {xs : List Int} (hS : Ns σ a xs) (h1 : 1 ≤ size) (h2 : size ≤ 64) (hl : xs.length ≤ 4000)
    (h : ∀ p σ' qs, AH.Sub σ σ' → PB (dif σ σ') p qs → OkP size (qs.map Prod.snd) → (qs.map Prod.snd).flatten = xs → R (.ret (.agg [iv size, p])) σ') : acall TP fn_impl_segsOf [iv size, a] σ R := by
  obtain ⟨n, rfl, hn⟩ : ∃ n : Nat, size = n ∧ 1 ≤ n := ⟨size.toNat, (toNat_pos h1).1.symm, (toNat_pos h1).2⟩
  refine s_impl_segsOf_ok ?_
  unfold s_impl_segsOf
  simp only [new_eq, bldI_0, og_some', onr_ret, gval_true, gval_false, pickV_true, pickV_false, apick_true, apick_false, gpick_true, gpick_false, ibin_leq, ibin_geq, ibin_lss, ibin_gtr, ibin_eql, ibin_neq, sbin_eql, sbin_neq, aun_not, Bool.not_true, Bool.not_false, decide_true, decide_false, if_true, if_false, Bool.false_eq_true, fldA_ptr, fldA_rop, anil_ptr, lenStr_str, amm_max, amm_min, Nat.zero_add, Nat.add_zero, List.length_cons, List.length_nil, Nat.reduceAdd]
  intro φ4 h4 φ5 h5
  simp only [AH.set_none] at h5
  obtain ⟨n54, h5⟩ := h5
  have hs4 : AH.Sub σ (σ.set φ4 ⟨0, 2, [[iv 0, nilS]]⟩) := sub_set (.refl σ) h4
  refine put_new (by rw [AH.set_ne' n54]; exact h5) rfl rfl (by simp [AV.one, Value.oneCell']) fun σ1 s1 f5 k1 => ?_
  have f4 : σ1 φ4 = some ⟨0, 2, [[iv 0, nilS]]⟩ := by rw [k1 φ4 (Ne.symm n54)]; exact AH.set_same ..
  have hs1 := hs4.trans s1
  have hone := hS.one
  refine c_slices_Chunk hone.1 (by omega) fun φa φb ha hb hab => ?_
  simp only [og_some', onr_ret, gval_true, gval_false, pickV_true, pickV_false, apick_true, apick_false, gpick_true, gpick_false, ibin_leq, ibin_geq, ibin_lss, ibin_gtr, ibin_eql, ibin_neq, sbin_eql, sbin_neq, aun_not, Bool.not_true, Bool.not_false, decide_true, decide_false, if_true, if_false, Bool.false_eq_true, fldA_ptr, fldA_rop, anil_ptr, lenStr_str, amm_max, amm_min, Nat.zero_add, Nat.add_zero, List.length_cons, List.length_nil, Nat.reduceAdd]
  have hsab : AH.Sub σ1 ((σ1.set φa ⟨0, 1, [[a]]⟩).set φb ⟨0, 1, [[iv n]]⟩) := sub_set (sub_set (.refl σ1) ha) hb
  have fa : ((σ1.set φa ⟨0, 1, [[a]]⟩).set φb ⟨0, 1, [[iv n]]⟩) φa = some ⟨0, 1, [[a]]⟩ := by rw [AH.set_ne' (Ne.symm hab)]; exact AH.set_same ..
  have fb : ((σ1.set φa ⟨0, 1, [[a]]⟩).set φb ⟨0, 1, [[iv n]]⟩) φb = some ⟨0, 1, [[iv n]]⟩ := AH.set_same ..
  generalize (σ1.set φa ⟨0, 1, [[a]]⟩).set φb ⟨0, 1, [[iv n]]⟩ = σ2 at hsab fa fb ⊢
  have f5' := hsab.at f5
  have na5 : φa ≠ φ5 := by rintro rfl; rw [f5] at ha; cases ha
  have nb5 : φb ≠ φ5 := by rintro rfl; rw [f5] at hb; cases hb
  refine arange_in fun L' l hY => ?_
  let I : Nat → AH → Prop := fun k σi => ∃ p qs, σi φ5 = some ⟨0, 2, [[iv n, p]]⟩ ∧ PB σi p qs ∧ Fresh σ2 p qs ∧ qs.map Prod.snd = pcs n xs k ∧ ∀ χ F, χ ≠ φ5 → σ2 χ = some F → σi χ = some F
  have keepS : ∀ σi, (∀ χ F, χ ≠ φ5 → σ2 χ = some F → σi χ = some F) → AH.Sub σ σi := fun σi hk χ F hF => by
    have hne : χ ≠ φ5 := by rintro rfl; rw [h5] at hF; cases hF
    exact hk χ F hne ((hs1.trans hsab).at hF)
  refine @c_slices_Chunk_1 L' _ _ _ a φa φb n xs I hn (by omega) (by omega) ?_ ?_ ?_ ?_
  · rintro k σi ⟨p, qs, i1, i2, i3, i4, i5⟩
    exact ⟨i5 φa _ na5 fa, i5 φb _ nb5 fb, hS.sub (keepS σi i5)⟩
  · exact ⟨nilS, [], f5', PB.nil, Fresh.nil, by simp [pcs], fun χ F _ hF => hF⟩
  · rintro k σi hlt ⟨p, qs, i1, i2, i3, i4, i5⟩ v hv
    refine hY v σi (I (k + 1)) ?_
    have hql : qs.length = k := by have := congrArg List.length i4; simpa using this
    have hkn : k ≤ k * n := Nat.le_mul_of_pos_right k (by omega)
    have e13 := lod_at (σ := σi) (φ := φ5) (st := 0) (i := 0) (off := 1) (c := p) i1 rfl rfl
    simp only [e13, og_some', onr_ret, gval_true, gval_false, pickV_true, pickV_false, apick_true, apick_false, gpick_true, gpick_false, ibin_leq, ibin_geq, ibin_lss, ibin_gtr, ibin_eql, ibin_neq, sbin_eql, sbin_neq, aun_not, Bool.not_true, Bool.not_false, decide_true, decide_false, if_true, if_false, Bool.false_eq_true, fldA_ptr, fldA_rop, anil_ptr, lenStr_str, amm_max, amm_min, Nat.zero_add, Nat.add_zero, List.length_cons, List.length_nil, Nat.reduceAdd]
    refine @c_slices_Clone L _ _ _ _ hv (by simp; omega) fun w σ3 w1 w2 => ?_
    have wone := w2.one
    have e13' := lod_at (σ := σ3) (φ := φ5) (st := 0) (i := 0) (off := 1) (c := p) (w1.at i1) rfl rfl
    have eb : bld [nilS] [(0, 1)] [(0, w)] = some (.agg [w]) := by simp [bld, afill, wone.1, spl]
    have er : bslR 1 [nilS] 1 [(0, .agg [w])] = some (.ro [[w]]) := by simp [bslR, afillS, acells, spl]
    simp only [e13', eb, er, true_and, og_some', onr_ret, gval_true, gval_false, pickV_true, pickV_false, apick_true, apick_false, gpick_true, gpick_false, ibin_leq, ibin_geq, ibin_lss, ibin_gtr, ibin_eql, ibin_neq, sbin_eql, sbin_neq, aun_not, Bool.not_true, Bool.not_false, decide_true, decide_false, if_true, if_false, Bool.false_eq_true, fldA_ptr, fldA_rop, anil_ptr, lenStr_str, amm_max, amm_min, Nat.zero_add, Nat.add_zero, List.length_cons, List.length_nil, Nat.reduceAdd]
    refine PB.push (i2.sub w1) (x := .ro [[w]]) (xs := (xs.drop (k * n)).take n) rfl (w2.sub (dif_sub _ _)) ?_ ?_ (by omega) ?_
    · intro ψ hψ hψ'
      obtain ⟨F, hF⟩ := w2.fam_some hψ
      obtain ⟨G, hG⟩ := i2.out.fam_some hψ'
      rw [(dif_some hF).1] at hG; cases hG
    · intro q hq ψ hψ hψ'
      obtain ⟨F, hF⟩ := w2.fam_some hψ'
      obtain ⟨G, hG⟩ := (i2.ins q hq).fam_some hψ
      rw [(dif_some hF).1] at hG; cases hG
    intro p' σ4 b1 b2 b3
    have pone := b1.out.one
    have hp5 : ¬ Buf.fam p φ5 := by
      intro hf
      rcases i2.out with ⟨rfl | rfl, _⟩ | ⟨ψ, st, rfl, hF⟩
      · exact nofam_nil _ hf
      · obtain ⟨_, _, _, e⟩ := hf; cases e
      · obtain ⟨_, _, _, e⟩ := hf; cases e
        rw [i1] at hF; cases hF
    have g5 : σ4 φ5 = some ⟨0, 2, [[iv n, p]]⟩ := by rw [b2 φ5 hp5 (by rw [w1.at i1]; simp)]; exact w1.at i1
    refine sto_fld (sz := 2) (off := 1) (i := 0) (cs := [iv n, p]) g5 rfl (by omega) pone.1 pone.2 ?_
    have no5 : ∀ {ψ} {b : AV} {es}, Buf σ4 1 b es → Buf.fam b ψ → ψ ≠ φ5 := by
      intro ψ b es hb hf he
      rcases hb with ⟨rfl | rfl, _⟩ | ⟨χ, st, rfl, hF⟩
      · exact nofam_nil _ hf
      · obtain ⟨_, _, _, e⟩ := hf; cases e
      · obtain ⟨_, _, _, e⟩ := hf; cases e
        rw [he, g5] at hF; cases hF
    refine ⟨p', qs ++ [(w, (xs.drop (k * n)).take n)], by rw [AH.set_same]; rfl, ?_, ?_, ?_, ?_⟩
    · exact ⟨b1.out.keep fun ψ hψ => AH.set_ne' (no5 b1.out hψ), fun q hq => (b1.ins q hq).keep fun ψ hψ => AH.set_ne' (no5 (b1.ins q hq) hψ), b1.sep, b1.pair⟩
    · refine ⟨fun ψ hψ => ?_, fun q hq ψ hψ => ?_⟩
      · rcases b3 ψ hψ with hf | hf
        · exact i3.out ψ hf
        · by_cases c : ψ = φ5
          · exact absurd c (no5 b1.out hψ)
          · cases e : σ2 ψ with
            | none => rfl
            | some F => rw [w1.at (i5 ψ F c e)] at hf; cases hf
      · rcases List.mem_append.1 hq with hq | hq
        · exact i3.ins q hq ψ hψ
        · obtain rfl := List.mem_singleton.1 hq
          obtain ⟨F, hF⟩ := w2.fam_some hψ
          have hi := (dif_some hF).1
          by_cases c : ψ = φ5
          · rw [c, i1] at hi; cases hi
          · cases e : σ2 ψ with
            | none => rfl
            | some F => rw [i5 ψ F c e] at hi; cases hi
    · rw [List.map_append, i4, pcs_succ]; rfl
    · intro χ F hne hF
      rw [AH.set_ne' hne]
      have hχ := i5 χ F hne hF
      rw [b2 χ ?_ (by rw [w1.at hχ]; simp)]; · exact w1.at hχ
      intro hf; rw [i3.out χ hf] at hF; cases hF
  · rintro k σi hj hge ⟨p, qs, i1, i2, i3, i4, i5⟩
    simp only [og_some', onr_ret, gval_true, gval_false, pickV_true, pickV_false, apick_true, apick_false, gpick_true, gpick_false, ibin_leq, ibin_geq, ibin_lss, ibin_gtr, ibin_eql, ibin_neq, sbin_eql, sbin_neq, aun_not, Bool.not_true, Bool.not_false, decide_true, decide_false, if_true, if_false, Bool.false_eq_true, fldA_ptr, fldA_rop, anil_ptr, lenStr_str, amm_max, amm_min, Nat.zero_add, Nat.add_zero, List.length_cons, List.length_nil, Nat.reduceAdd]
    have pone := i2.out.one
    have e5 := lodA_at (σ := σi) (φ := φ5) (st := 0) (i := 0) (n := 2) (cs := [iv n, p]) i1 rfl rfl rfl
    simp only [e5, og_some', onr_ret, gval_true, gval_false, pickV_true, pickV_false, apick_true, apick_false, gpick_true, gpick_false, ibin_leq, ibin_geq, ibin_lss, ibin_gtr, ibin_eql, ibin_neq, sbin_eql, sbin_neq, aun_not, Bool.not_true, Bool.not_false, decide_true, decide_false, if_true, if_false, Bool.false_eq_true, fldA_ptr, fldA_rop, anil_ptr, lenStr_str, amm_max, amm_min, Nat.zero_add, Nat.add_zero, List.length_cons, List.length_nil, Nat.reduceAdd]
    have n45 : φ4 ≠ φ5 := Ne.symm n54
    have f4i := i5 φ4 _ n45 (hsab.at f4)
    refine sto_own (es := [[iv 0, nilS]]) (cs := [iv n, p]) f4i (by simp) (by simp) rfl rfl (one2 pone.2) ?_
    simp [lodA, acellsAt]
    have hSub : AH.Sub σ (σi.set φ4 ⟨0, 2, [[iv n, p]]⟩) := sub_set (keepS σi i5) h4
    have hok := pcs_ok (n := n) (xs := xs) (k := k) (by omega) hj
    have hfl := pcs_flat n xs k
    rw [List.take_of_length_le (by omega)] at hfl
    refine @ret_here L _ _ _ (h p _ qs hSub ?_ (by rw [i4]; exact hok) (by rw [i4]; exact hfl))
    refine ⟨?_, fun q hq => ?_, i2.sep, i2.pair⟩
    · refine Buf.dif (i2.out.keep fun ψ hψ => AH.set_ne' ?_) fun ψ hψ => (hs1.trans hsab).none (i3.out ψ hψ)
      rintro rfl; have := i3.out _ hψ; rw [hsab.at f4] at this; cases this
    · refine Buf.dif ((i2.ins q hq).keep fun ψ hψ => AH.set_ne' ?_) fun ψ hψ => (hs1.trans hsab).none (i3.ins q hq ψ hψ)
      rintro rfl; have := i3.ins q hq _ hψ; rw [hsab.at f4] at this; cases this
end Go.Proofs.Ytjfdgijgkbojnaa.E
/- Stacks of pieces, built item by item. -/
set_option linter.unusedSectionVars false
set_option linter.unusedSimpArgs false
set_option linter.unusedVariables false
namespace Go.Proofs.Ytjfdgijgkbojnaa.E
open Go Go.RowKit
variable [L : Lam]
variable {σ : AH} {R : AEnd → AH → Prop}
/-- The families of a list of lists. -/
def Foot (a : AV) (qs : List (AV × List Int)) (ψ : Nat) : Prop := Buf.fam a ψ ∨ ∃ q, q ∈ qs ∧ Buf.fam q.1 ψ
theorem PB.foot {a : AV} {qs : List (AV × List Int)} (h : PB σ a qs) {ψ : Nat} (hf : Foot a qs ψ) : ∃ F, σ ψ = some F ∧ F.sz = 1 := by
  have key : ∀ {b es}, Buf σ 1 b es → Buf.fam b ψ → ∃ F, σ ψ = some F ∧ F.sz = 1 := by
    rintro b es (⟨rfl | rfl, _⟩ | ⟨χ, st, rfl, hF⟩) ⟨_, _, _, e⟩
    · cases e
    · cases e
    · cases e; exact ⟨_, hF, rfl⟩
  rcases hf with hf | ⟨q, hq, hf⟩
  · exact key h.out hf
  · exact key (h.ins q hq) hf
theorem PB.keep {σ' : AH} {a : AV} {qs : List (AV × List Int)} (h : PB σ a qs) (hk : ∀ ψ, Foot a qs ψ → σ' ψ = σ ψ) : PB σ' a qs :=
  ⟨h.out.keep fun ψ hψ => hk ψ (.inl hψ), fun q hq => (h.ins q hq).keep fun ψ hψ => hk ψ (.inr ⟨q, hq, hψ⟩), h.sep, h.pair⟩
theorem Buf.own_of {sz : Nat} {a : AV} {es : List (List AV)} (h : Buf σ sz a es) (hne : es ≠ []) : ∃ φ st, a = .own φ st 0 es.length ∧ σ φ = some ⟨st, sz, es⟩ := by
  rcases h with ⟨_, rfl⟩ | h
  · exact absurd rfl hne
  · exact h
/-- More items put into the last list, and the last list put back. -/
theorem PB.grow {a q x : AV} {pre : List (AV × List Int)} {ys zs : List Int} {n : Nat} {k : AV → AH → Prop} (h : PB σ a (pre ++ [(q, ys)])) (hx : aelems σ x = some (zs.map fun x => [iv x])) (hn : ys.length + zs.length ≤ 4294967296) (hpre : pre.length = n)
    (hk : ∀ q' σ', q'.one = true → acells q' = some [q'] → (∀ ψ, ¬ Buf.fam q ψ → σ ψ ≠ none → σ' ψ = σ ψ) → PB σ' a (pre ++ [(q, [])]) ∨ True →
      (∃ χ st es, idx 1 a (iv n) σ' = some (.ptr χ st n 0) ∧ σ' χ = some ⟨st, 1, es⟩ ∧ es[n]? = some [q] ∧ Buf.fam a χ ∧
        PB (σ'.set χ ⟨st, 1, es.set n [q']⟩) a (pre ++ [(q', ys ++ zs)])) → (∀ ψ, Buf.fam q' ψ → Buf.fam q ψ ∨ σ ψ = none) → k q' σ') : app 1 q x σ k := by
  have hin := h.ins (q, ys) (by simp)
  refine Buf.app hin hx (iv_size zs) (iv_one zs) (by simpa using hn) ?_
  intro q' σ' b1 b2 b3 b4
  have hsep := h.sep (q, ys) (by simp)
  obtain ⟨χ, st, ea, hχ⟩ := h.out.own_of (by simp)
  have hχ' : σ' χ = some ⟨st, 1, (pre ++ [(q, ys)]).map fun q => [q.1]⟩ := by
    rw [b2 χ (fun hf => hsep χ hf (by rw [ea]; exact ⟨_, _, _, rfl⟩)) (by rw [hχ]; simp)]; exact hχ
  have hpr := List.pairwise_append.1 h.pair
  refine hk q' σ' b1.one.2 b1.one.1 b2 (.inr trivial) ⟨χ, st, _, ?_, hχ', by simp [← hpre], by rw [ea]; exact ⟨_, _, _, rfl⟩, ?_⟩ b3
  · rw [ea]
    have := idx_own (off := 0) (n := ((pre ++ [(q, ys)]).map fun q => [q.1]).length) hχ' (i := n) (by simp; omega)
    rw [Nat.zero_add] at this; exact this
  · have hset : ((pre ++ [(q, ys)]).map fun q : AV × List Int => [q.1]).set n [q'] = (pre ++ [(q', ys ++ zs)]).map fun q => [q.1] := by
      rw [List.map_append, List.map_append]; exact set_mid (by simpa using hpre)
    rw [hset]
    have nofam : ∀ {b : AV} {es : List (List AV)}, Buf σ' 1 b es → (∀ ψ, Buf.fam b ψ → ψ ≠ χ) → Buf (σ'.set χ ⟨st, 1, (pre ++ [(q', ys ++ zs)]).map fun q => [q.1]⟩) 1 b es := fun hb hne => hb.keep fun ψ hψ => AH.set_ne' (hne ψ hψ)
    have fa : Buf.fam a χ := by rw [ea]; exact ⟨_, _, _, rfl⟩
    have onlyχ : ∀ ψ, Buf.fam a ψ → ψ = χ := by rw [ea]; rintro ψ ⟨_, _, _, e⟩; cases e; rfl
    have q'χ : ∀ ψ, Buf.fam q' ψ → ψ ≠ χ := by
      rintro ψ hψ rfl
      rcases b3 _ hψ with hf | hf
      · exact hsep _ hf fa
      · rw [hχ] at hf; cases hf
    have preχ : ∀ r, r ∈ pre → ∀ ψ, Buf.fam r.1 ψ → ψ ≠ χ := by
      rintro r hr ψ hψ rfl
      exact h.sep r (List.mem_append_left _ hr) _ hψ fa
    have prek : ∀ r, r ∈ pre → Buf σ' 1 r.1 (r.2.map fun x => [iv x]) := fun r hr => (h.ins r (List.mem_append_left _ hr)).keep fun ψ hψ =>
      b2 ψ (hpr.2.2 r hr _ (List.mem_singleton_self _) ψ hψ) (by obtain ⟨F, hF⟩ := (h.ins r (List.mem_append_left _ hr)).fam_some hψ; rw [hF]; simp)
    refine ⟨.inr ⟨χ, st, ?_, AH.set_same ..⟩, ?_, ?_, ?_⟩
    · rw [ea]; simp
    · intro r hr
      rcases List.mem_append.1 hr with hr | hr
      · exact nofam (prek r hr) (preχ r hr)
      · obtain rfl := List.mem_singleton.1 hr
        refine nofam ?_ q'χ
        simpa using b1
    · intro r hr ψ hψ hψ'
      have := onlyχ ψ hψ'
      rcases List.mem_append.1 hr with hr | hr
      · exact preχ r hr ψ hψ this
      · obtain rfl := List.mem_singleton.1 hr; exact q'χ ψ hψ this
    · rw [List.pairwise_append]
      refine ⟨hpr.1, List.pairwise_singleton _ _, fun r hr s hs => ?_⟩
      obtain rfl := List.mem_singleton.1 hs
      intro ψ hψ hψ'
      rcases b3 ψ hψ' with hf | hf
      · exact hpr.2.2 r hr _ (List.mem_singleton_self _) ψ hψ hf
      · obtain ⟨F, hF⟩ := (h.ins r (List.mem_append_left _ hr)).fam_some hψ; rw [hF] at hf; cases hf
theorem okp_more {size : Int} {ps : List (List Int)} {x : Int} (h1 : 1 ≤ size) (h : OkP size ps) (hl : ∀ hne : ps ≠ [], ((ps.getLast hne).length : Int) = size) : OkP size (ps ++ [[x]]) := by
  intro i hi
  by_cases c : i < ps.length
  · have e : (ps ++ [[x]])[i] = ps[i] := List.getElem_append_left c
    obtain ⟨a1, a2, a3⟩ := h i c
    rw [e]
    refine ⟨a1, a2, fun _ => ?_⟩
    by_cases c2 : i + 1 < ps.length
    · exact a3 c2
    · have hne : ps ≠ [] := by rintro rfl; cases c
      have := hl hne
      rw [List.getLast_eq_getElem] at this
      have ei : i = ps.length - 1 := by omega
      subst ei; exact this
  · have ei : i = ps.length := by simp at hi; omega
    subst ei
    simp
    omega
theorem okp_grow {size : Int} {ps : List (List Int)} {ys : List Int} {x : Int} (h : OkP size (ps ++ [ys])) (hl : (ys.length : Int) ≠ size) : OkP size (ps ++ [ys ++ [x]]) := by
  intro i hi
  by_cases c : i < ps.length
  · have e : (ps ++ [ys ++ [x]])[i] = ps[i] := List.getElem_append_left c
    have e2 : (ps ++ [ys])[i]'(by simp; omega) = ps[i] := List.getElem_append_left c
    obtain ⟨a1, a2, a3⟩ := h i (by simp; omega)
    rw [e2] at a1 a2 a3; rw [e]
    exact ⟨a1, a2, fun h => a3 (by simpa using h)⟩
  · have ei : i = ps.length := by simp at hi; omega
    subst ei
    obtain ⟨a1, a2, _⟩ := h ps.length (by simp)
    simp at a1 a2 ⊢
    omega
theorem tot_append (ps qs : List (List Int)) : tot (ps ++ qs) = tot ps + tot qs := by rw [← tot_flatten, List.flatten_append, List.length_append, tot_flatten, tot_flatten]
theorem last_at {φ : Nat} {size x : Int} {p q : AV} {pre : List (AV × List Int)} {ys : List Int} (n : Nat) (hF : σ φ = some ⟨0, 2, [[iv size, p]]⟩) (hB : PB σ p (pre ++ [(q, ys)])) (hn : pre.length + 1 = n) (hb : n ≤ 100002) :
    lod (.ptr φ 0 0 1) σ = some p ∧ ibin .sub (iv (n : Nat)) (.val (.int .i64 1)) = some (iv (pre.length : Nat)) ∧ (∃ χ st, idx 1 p (iv (pre.length : Nat)) σ = some (.ptr χ st pre.length 0) ∧ lod (.ptr χ st pre.length 0) σ = some q) ∧
    bslR 1 [(.val (.int .i64 0))] 1 [(0, iv x)] = some (.ro [[iv x]]) := by
  refine ⟨lod_at (σ := σ) (φ := φ) (st := 0) (i := 0) (off := 1) (c := p) hF rfl rfl, by rw [ibin_sub (by omega) (by omega)]; congr 3; omega, ?_, by simp [bslR, afillS, acells, spl, Value.cells]⟩
  obtain ⟨χ, st, ea, hχ⟩ := hB.out.own_of (by simp)
  refine ⟨χ, st, ?_, lod_at hχ rfl (by simp)⟩
  rw [ea]
  have := idx_own (off := 0) (n := ((pre ++ [(q, ys)]).map fun q => [q.1]).length) hχ (i := pre.length) (by simp)
  rw [Nat.zero_add] at this; exact this
set_option maxRecDepth 100000 in
theorem c_spec_l12Push {φ : Nat} {size x : Int} {p : AV} {qs : List (AV × List Int)} (hF : σ φ = some ⟨0, 2, [[iv size, p]]⟩) (hB : PB σ p qs) (hO : OkP size (qs.map Prod.snd)) (h1 : 1 ≤ size) (hb : qs.length + tot (qs.map Prod.snd) ≤ 100000)
    (h : ∀ σ' p' qs', σ' φ = some ⟨0, 2, [[iv size, p']]⟩ → PB σ' p' qs' → OkP size (qs'.map Prod.snd) → (qs'.map Prod.snd).flatten = (qs.map Prod.snd).flatten ++ [x] → qs'.length + tot (qs'.map Prod.snd) ≤ qs.length + tot (qs.map Prod.snd) + 2 →
      (∀ ψ F, ψ ≠ φ → ¬ Foot p qs ψ → σ ψ = some F → σ' ψ = some F) → (∀ ψ, Foot p' qs' ψ → Foot p qs ψ ∨ σ ψ = none) → R (.ret (.tup [])) σ') : acall TP fn_spec_l12Push [.ptr φ 0 0 0, iv x] σ R := by
  -- the last list grows
  have last : ∀ {σ p q pre ys} (n : Nat), σ φ = some ⟨0, 2, [[iv size, p]]⟩ → PB σ p (pre ++ [(q, ys)]) → pre.length + 1 = n → ys.length + n ≤ 100002 → ∀ {R : AEnd → AH → Prop},
      (∀ σ' q', σ' φ = some ⟨0, 2, [[iv size, p]]⟩ → PB σ' p (pre ++ [(q', ys ++ [x])]) → (∀ ψ F, ¬ Foot p (pre ++ [(q, ys)]) ψ → σ ψ = some F → σ' ψ = some F) → (∀ ψ, Buf.fam q' ψ → Buf.fam q ψ ∨ σ ψ = none) → R (.ret (.tup [])) σ') →
      (app 1 q (.ro [[iv x]]) σ fun v58 σ =>
      (lod (.ptr φ 0 0 1) σ = some p ∧ True) ∧
      og (idx 1 p (iv (pre.length : Nat)) σ) fun v59 =>
      og (fldA 0 v59) fun v60 =>
      sto 1 v60 v58 σ fun σ =>
      (True) ∧
      aret (.tup []) σ R) := by
    intro σ p q pre ys n hF hB hn hb R h
    refine PB.grow hB (zs := [x]) rfl (by simp; omega) rfl ?_
    rintro q' σ' o1 o2 b2 - ⟨χ', st', es', i1, i2, i3, i4, i5⟩ b3
    have hne : χ' ≠ φ := by
      rintro rfl
      obtain ⟨F, hF2, hsz⟩ := hB.foot (.inl i4)
      rw [hF] at hF2; cases hF2; cases hsz
    have hφ' : σ' φ = some ⟨0, 2, [[iv size, p]]⟩ := by
      rw [b2 φ ?_ (by rw [hF]; simp)]; · exact hF
      intro hf
      obtain ⟨F, hF2, hsz⟩ := hB.foot (.inr ⟨(q, ys), by simp, hf⟩)
      rw [hF] at hF2; cases hF2; cases hsz
    have e1' := lod_at (σ := σ') (φ := φ) (st := 0) (i := 0) (off := 1) (c := p) hφ' rfl rfl
    simp only [e1', i1, true_and, og_some', onr_ret, gval_true, gval_false, pickV_true, pickV_false, apick_true, apick_false, gpick_true, gpick_false, ibin_leq, ibin_geq, ibin_lss, ibin_gtr, ibin_eql, ibin_neq, sbin_eql, sbin_neq, aun_not, Bool.not_true, Bool.not_false, decide_true, decide_false, if_true, if_false, Bool.false_eq_true, fldA_ptr, fldA_rop, anil_ptr, lenStr_str, amm_max, amm_min, Nat.zero_add, Nat.add_zero, List.length_cons, List.length_nil, Nat.reduceAdd]
    refine sto_fld (sz := 1) (off := 0) (i := pre.length) (cs := [q]) i2 i3 (by omega) o2 o1 ?_
    refine ret_here (h _ q' ?_ i5 ?_ b3)
    · rw [AH.set_ne' (Ne.symm hne)]; exact hφ'
    · intro ψ F hnf hψ
      rw [AH.set_ne' (fun e => hnf (.inl (by rw [e]; exact i4))), b2 ψ (fun hf => hnf (.inr ⟨(q, ys), by simp, hf⟩)) (by rw [hψ]; simp)]; exact hψ
  refine s_spec_l12Push_ok ?_
  unfold s_spec_l12Push
  have e1 := lod_at (st := 0) (i := 0) (off := 1) (c := p) hF rfl rfl
  have e0 := lod_at (st := 0) (i := 0) (off := 0) (c := iv size) hF rfl rfl
  have hlen := hB.ps.len
  rw [List.length_map] at hlen
  -- an empty list is put behind first
  have grow : (∀ hne : qs.map Prod.snd ≠ [], (((qs.map Prod.snd).getLast hne).length : Int) = size) → ∀ k1 : AV → AH → Prop,
      (∀ σ2 p2, σ2 φ = some ⟨0, 2, [[iv size, p2]]⟩ → PB σ2 p2 (qs ++ [(nilS, [])]) → (∀ ψ F, ψ ≠ φ → ¬ Foot p qs ψ → σ ψ = some F → σ2 ψ = some F) → (∀ ψ, Foot p2 (qs ++ [(nilS, [])]) ψ → Foot p qs ψ ∨ σ ψ = none) → k1 (iv ((qs.length + 1 : Nat) : Int)) σ2) →
      (og (bld [nilS] [(0, 1)] []) fun v34 => bsl 1 [nilS] 1 [(0, v34)] σ fun v35 σ => app 1 p v35 σ fun v36 σ =>
        sto 1 (.ptr φ 0 0 1) v36 σ fun σ => og (ibin .add (.val (.int .i64 (qs.length : Nat))) (.val (.int .i64 1))) fun v40 => k1 v40 σ) := by
    intro hl k1 hk1
    have eb : bld [nilS] [(0, 1)] [] = some (.agg [nilS]) := rfl
    have ea : ibin .add (.val (.int .i64 (qs.length : Nat))) (.val (.int .i64 1)) = some (iv ((qs.length + 1 : Nat) : Int)) := ibin_up (i := qs.length) (n := qs.length + 1) (by omega) (by omega)
    simp only [eb, ea, og_some', onr_ret, gval_true, gval_false, pickV_true, pickV_false, apick_true, apick_false, gpick_true, gpick_false, ibin_leq, ibin_geq, ibin_lss, ibin_gtr, ibin_eql, ibin_neq, sbin_eql, sbin_neq, aun_not, Bool.not_true, Bool.not_false, decide_true, decide_false, if_true, if_false, Bool.false_eq_true, fldA_ptr, fldA_rop, anil_ptr, lenStr_str, amm_max, amm_min, Nat.zero_add, Nat.add_zero, List.length_cons, List.length_nil, Nat.reduceAdd]
    unfold bsl
    have ef : afillS 1 (List.replicate 1 [nilS]) [(0, .agg [nilS])] = some [[nilS]] := by simp [afillS, acells, spl]
    simp only [ef]
    refine ⟨by decide, fun ψ hψ => ?_⟩
    have hs : AH.Sub σ (σ.set ψ ⟨0, 1, [[nilS]]⟩) := sub_set (.refl σ) hψ
    refine PB.push (hB.sub hs) (w := nilS) (xs := []) (by simp [aelems]) (.inl ⟨.inl rfl, rfl⟩) (fun χ h => absurd h (nofam_nil χ)) (fun q _ χ _ h => absurd h (nofam_nil χ)) (by omega) ?_
    intro p2 σ2 b1 b2 b3
    have nφ : ∀ {a qs}, PB σ a qs → ¬ Foot a qs φ := fun hB hf => by obtain ⟨F, hF2, hsz⟩ := hB.foot hf; rw [hF] at hF2; cases hF2; cases hsz
    have hφ2 : σ2 φ = some ⟨0, 2, [[iv size, p]]⟩ := by rw [b2 φ (fun hf => nφ hB (.inl hf)) (by rw [hs.at hF]; simp)]; exact hs.at hF
    have n2 : ¬ Foot p2 (qs ++ [(nilS, [])]) φ := fun hf => by obtain ⟨F, hF2, hsz⟩ := b1.foot hf; rw [hφ2] at hF2; cases hF2; cases hsz
    refine sto_fld (sz := 2) (off := 1) (i := 0) (cs := [iv size, p]) hφ2 rfl (by omega) b1.out.one.1 b1.out.one.2 ?_
    refine hk1 _ p2 (by rw [AH.set_same]; rfl) (b1.keep fun χ hχ => AH.set_ne' (by rintro rfl; exact n2 hχ)) ?_ ?_
    · intro χ F hne hnf hχ
      rw [AH.set_ne' hne, b2 χ (fun hf => hnf (.inl hf)) (by rw [hs.at hχ]; simp)]; exact hs.at hχ
    · rintro χ (hf | ⟨q, hq, hf⟩)
      · rcases b3 χ hf with hf | hf
        · exact .inl (.inl hf)
        · exact .inr (hs.none hf)
      · rcases List.mem_append.1 hq with hq | hq
        · exact .inl (.inr ⟨q, hq, hf⟩)
        · obtain rfl := List.mem_singleton.1 hq; exact absurd hf (nofam_nil χ)
  have newlast : (∀ hne : qs.map Prod.snd ≠ [], (((qs.map Prod.snd).getLast hne).length : Int) = size) → ∀ σ2 p2, σ2 φ = some ⟨0, 2, [[iv size, p2]]⟩ → PB σ2 p2 (qs ++ [(nilS, [])]) → (∀ ψ F, ψ ≠ φ → ¬ Foot p qs ψ → σ ψ = some F → σ2 ψ = some F) → (∀ ψ, Foot p2 (qs ++ [(nilS, [])]) ψ → Foot p qs ψ ∨ σ ψ = none) →
      ∀ σ' q', σ' φ = some ⟨0, 2, [[iv size, p2]]⟩ → PB σ' p2 (qs ++ [(q', [] ++ [x])]) → (∀ ψ F, ¬ Foot p2 (qs ++ [(nilS, [])]) ψ → σ2 ψ = some F → σ' ψ = some F) → (∀ ψ, Buf.fam q' ψ → Buf.fam nilS ψ ∨ σ2 ψ = none) → R (.ret (.tup [])) σ' := by
    intro hl σ2 p2 g1 g2 g3 g4 σ' q' k1 k2 k3 k4
    refine h σ' p2 _ k1 k2 ?_ ?_ ?_ ?_ ?_
    · rw [List.map_append]; exact okp_more h1 hO hl
    · simp
    · rw [List.map_append, tot_append]; simp [tot]; omega
    · intro ψ F hne hnf hψ
      refine k3 ψ F (fun hf => ?_) (g3 ψ F hne hnf hψ)
      rcases g4 ψ hf with hf | hf
      · exact hnf hf
      · rw [hψ] at hf; cases hf
    · have old : ∀ ψ, Foot p2 qs ψ → Foot p qs ψ ∨ σ ψ = none := by
        rintro ψ (hf | ⟨q, hq, hf⟩)
        · exact g4 ψ (.inl hf)
        · exact g4 ψ (.inr ⟨q, List.mem_append_left _ hq, hf⟩)
      rintro ψ (hf | ⟨q, hq, hf⟩)
      · exact old ψ (.inl hf)
      · rcases List.mem_append.1 hq with hq | hq
        · exact old ψ (.inr ⟨q, hq, hf⟩)
        · obtain rfl := List.mem_singleton.1 hq
          rcases k4 ψ hf with hf | hf
          · exact absurd hf (nofam_nil ψ)
          · by_cases c : Foot p qs ψ
            · exact .inl c
            · by_cases e : ψ = φ
              · rw [e, g1] at hf; cases hf
              · cases e2 : σ ψ with
                | none => exact .inr rfl
                | some F => rw [g3 ψ F e c e2] at hf; cases hf
  simp only [e1, hlen, og_some', onr_ret, gval_true, gval_false, pickV_true, pickV_false, apick_true, apick_false, gpick_true, gpick_false, ibin_leq, ibin_geq, ibin_lss, ibin_gtr, ibin_eql, ibin_neq, sbin_eql, sbin_neq, aun_not, Bool.not_true, Bool.not_false, decide_true, decide_false, if_true, if_false, Bool.false_eq_true, fldA_ptr, fldA_rop, anil_ptr, lenStr_str, amm_max, amm_min, Nat.zero_add, Nat.add_zero, List.length_cons, List.length_nil, Nat.reduceAdd]
  by_cases c0 : qs = []
  · have hl : ∀ hne : (qs.map Prod.snd) ≠ [], (((qs.map Prod.snd).getLast hne).length : Int) = size := fun hne => absurd (by rw [c0]; rfl) hne
    have hd : decide (((qs.length : Nat) : Int) = 0) = true := by rw [c0]; rfl
    simp only [jn, hd, og_some', onr_ret, gval_true, gval_false, pickV_true, pickV_false, apick_true, apick_false, gpick_true, gpick_false, ibin_leq, ibin_geq, ibin_lss, ibin_gtr, ibin_eql, ibin_neq, sbin_eql, sbin_neq, aun_not, Bool.not_true, Bool.not_false, decide_true, decide_false, if_true, if_false, Bool.false_eq_true, fldA_ptr, fldA_rop, anil_ptr, lenStr_str, amm_max, amm_min, Nat.zero_add, Nat.add_zero, List.length_cons, List.length_nil, Nat.reduceAdd]
    refine grow hl _ fun σ2 p2 g1 g2 g3 g4 => ?_
    obtain ⟨t1, t2, ⟨χ, st, t3, t4⟩, t5⟩ := last_at (x := x) (qs.length + 1) g1 g2 rfl (by omega)
    simp only [t1, t2, t3, t4, t5, og_some', onr_ret, gval_true, gval_false, pickV_true, pickV_false, apick_true, apick_false, gpick_true, gpick_false, ibin_leq, ibin_geq, ibin_lss, ibin_gtr, ibin_eql, ibin_neq, sbin_eql, sbin_neq, aun_not, Bool.not_true, Bool.not_false, decide_true, decide_false, if_true, if_false, Bool.false_eq_true, fldA_ptr, fldA_rop, anil_ptr, lenStr_str, amm_max, amm_min, Nat.zero_add, Nat.add_zero, List.length_cons, List.length_nil, Nat.reduceAdd]
    exact last _ g1 g2 rfl (by simp; omega) (newlast hl σ2 p2 g1 g2 g3 g4)
  · obtain ⟨pre, q, ys, rfl⟩ : ∃ pre q ys, qs = pre ++ [(q, ys)] := ⟨qs.dropLast, (qs.getLast c0).1, (qs.getLast c0).2, (List.dropLast_concat_getLast c0).symm⟩
    have hpos : ¬ (((pre ++ [(q, ys)]).length : Nat) : Int) = 0 := by simp; omega
    obtain ⟨t1, t2, ⟨χ, st, t3, t4⟩, t5⟩ := last_at (x := x) (pre ++ [(q, ys)]).length hF hB (by simp) (by omega)
    have hql : lenS q = some (.val (.int .i64 ys.length)) := by have := (Buf.cs (hB.ins (q, ys) (by simp))).len; simpa using this
    simp only [jn, hpos, t1, t2, t3, t4, t5, hql, e0, og_some', onr_ret, gval_true, gval_false, pickV_true, pickV_false, apick_true, apick_false, gpick_true, gpick_false, ibin_leq, ibin_geq, ibin_lss, ibin_gtr, ibin_eql, ibin_neq, sbin_eql, sbin_neq, aun_not, Bool.not_true, Bool.not_false, decide_true, decide_false, if_true, if_false, Bool.false_eq_true, fldA_ptr, fldA_rop, anil_ptr, lenStr_str, amm_max, amm_min, Nat.zero_add, Nat.add_zero, List.length_cons, List.length_nil, Nat.reduceAdd]
    have htot : tot ((pre ++ [(q, ys)]).map Prod.snd) = tot (pre.map Prod.snd) + ys.length := by rw [List.map_append, tot_append]; simp [tot]
    rw [htot] at hb
    by_cases c : (ys.length : Int) = size
    · have hl : ∀ hne : (pre ++ [(q, ys)]).map Prod.snd ≠ [], ((((pre ++ [(q, ys)]).map Prod.snd).getLast hne).length : Int) = size := fun hne => by simpa using c
      simp only [c, og_some', onr_ret, gval_true, gval_false, pickV_true, pickV_false, apick_true, apick_false, gpick_true, gpick_false, ibin_leq, ibin_geq, ibin_lss, ibin_gtr, ibin_eql, ibin_neq, sbin_eql, sbin_neq, aun_not, Bool.not_true, Bool.not_false, decide_true, decide_false, if_true, if_false, Bool.false_eq_true, fldA_ptr, fldA_rop, anil_ptr, lenStr_str, amm_max, amm_min, Nat.zero_add, Nat.add_zero, List.length_cons, List.length_nil, Nat.reduceAdd]
      refine grow hl _ fun σ2 p2 g1 g2 g3 g4 => ?_
      obtain ⟨u1, u2, ⟨χ, st, u3, u4⟩, u5⟩ := last_at (x := x) ((pre ++ [(q, ys)]).length + 1) g1 g2 rfl (by omega)
      simp only [u1, u2, u3, u4, u5, og_some', onr_ret, gval_true, gval_false, pickV_true, pickV_false, apick_true, apick_false, gpick_true, gpick_false, ibin_leq, ibin_geq, ibin_lss, ibin_gtr, ibin_eql, ibin_neq, sbin_eql, sbin_neq, aun_not, Bool.not_true, Bool.not_false, decide_true, decide_false, if_true, if_false, Bool.false_eq_true, fldA_ptr, fldA_rop, anil_ptr, lenStr_str, amm_max, amm_min, Nat.zero_add, Nat.add_zero, List.length_cons, List.length_nil, Nat.reduceAdd]
      exact last _ g1 g2 rfl (by simp only [List.length_nil]; omega) (newlast hl σ2 p2 g1 g2 g3 g4)
    · simp only [c, og_some', onr_ret, gval_true, gval_false, pickV_true, pickV_false, apick_true, apick_false, gpick_true, gpick_false, ibin_leq, ibin_geq, ibin_lss, ibin_gtr, ibin_eql, ibin_neq, sbin_eql, sbin_neq, aun_not, Bool.not_true, Bool.not_false, decide_true, decide_false, if_true, if_false, Bool.false_eq_true, fldA_ptr, fldA_rop, anil_ptr, lenStr_str, amm_max, amm_min, Nat.zero_add, Nat.add_zero, List.length_cons, List.length_nil, Nat.reduceAdd]
      refine last (pre.length + 1) hF hB rfl (by simp at hb; omega) ?_
      intro σ' q' k1 k2 k3 k4
      refine h σ' p _ k1 k2 ?_ ?_ ?_ ?_ ?_
      · rw [List.map_append]; rw [List.map_append] at hO; exact okp_grow hO c
      · simp
      · rw [List.map_append, tot_append, htot]; simp [tot]; omega
      · exact fun ψ F _ hnf hψ => k3 ψ F hnf hψ
      · rintro ψ (hf | ⟨r, hr, hf⟩)
        · exact .inl (.inl hf)
        · rcases List.mem_append.1 hr with hr | hr
          · exact .inl (.inr ⟨r, List.mem_append_left _ hr, hf⟩)
          · obtain rfl := List.mem_singleton.1 hr
            rcases k4 ψ hf with hf | hf
            · exact .inl (.inr ⟨(q, ys), by simp, hf⟩)
            · exact .inr hf
end Go.Proofs.Ytjfdgijgkbojnaa.E
/- OpenSegs. -/
set_option linter.unusedSectionVars false
set_option linter.unusedSimpArgs false
set_option linter.unusedVariables false
namespace Go.Proofs.Ytjfdgijgkbojnaa.E
open Go Go.RowKit
variable [L : Lam]
variable {σ : AH} {R : AEnd → AH → Prop}
set_option maxRecDepth 100000 in
theorem c_spec_l12Open {size : Int} {a : AV} {xs : List Int} (hS : Ns σ a xs) (h1 : 1 ≤ size) (hl : xs.length ≤ 4000)
    (h : ∀ σ' p qs, AH.Sub σ σ' → PB (dif σ σ') p qs → OkP size (qs.map Prod.snd) → (qs.map Prod.snd).flatten = xs → R (.ret (.agg [iv size, p])) σ') : acall TP fn_spec_l12Open [iv size, a] σ R := by
  refine s_spec_l12Open_ok ?_
  unfold s_spec_l12Open
  simp only [new_eq, bldI_0, og_some', onr_ret, gval_true, gval_false, pickV_true, pickV_false, apick_true, apick_false, gpick_true, gpick_false, ibin_leq, ibin_geq, ibin_lss, ibin_gtr, ibin_eql, ibin_neq, sbin_eql, sbin_neq, aun_not, Bool.not_true, Bool.not_false, decide_true, decide_false, if_true, if_false, Bool.false_eq_true, fldA_ptr, fldA_rop, anil_ptr, lenStr_str, amm_max, amm_min, Nat.zero_add, Nat.add_zero, List.length_cons, List.length_nil, Nat.reduceAdd]
  intro φ4 h4 φ5 h5
  simp only [AH.set_none] at h5
  obtain ⟨n54, h5⟩ := h5
  have hs4 : AH.Sub σ (σ.set φ4 ⟨0, 2, [[iv 0, nilS]]⟩) := sub_set (.refl σ) h4
  refine put_new (by rw [AH.set_ne' n54]; exact h5) rfl rfl (by simp [AV.one, Value.oneCell']) fun σ1 s1 f5 k1 => ?_
  have f4 : σ1 φ4 = some ⟨0, 2, [[iv 0, nilS]]⟩ := by rw [k1 φ4 (Ne.symm n54)]; exact AH.set_same ..
  have hs1 := hs4.trans s1
  refine lp_for xs.length (fun i => (a, .ptr φ4 0 0 0, .ptr φ5 0 0 0, iv i, ())) (fun i σi => ∃ p qs, σi φ5 = some ⟨0, 2, [[iv size, p]]⟩ ∧ PB σi p qs ∧ (∀ ψ, Foot p qs ψ → σ1 ψ = none) ∧ OkP size (qs.map Prod.snd) ∧ (qs.map Prod.snd).flatten = xs.take i ∧ qs.length + tot (qs.map Prod.snd) ≤ 2 * i ∧ ∀ χ F, χ ≠ φ5 → σ1 χ = some F → σi χ = some F)
    rfl ⟨nilS, [], f5, PB.nil, (by rintro ψ (hf | ⟨q, hq, _⟩); exact absurd hf (nofam_nil ψ); cases hq), (fun i hi => by simp at hi), by simp, by simp [tot], fun χ F _ hF => hF⟩ ?_
  rintro i σi hi ⟨p, qs, i1, i2, i3, i4, i5, i6, i7⟩ R' hR'
  have hsi : AH.Sub σ σi := fun χ F hF => by
    have hne : χ ≠ φ5 := by rintro rfl; rw [h5] at hF; cases hF
    exact i7 χ F hne (hs1.at hF)
  have hSi := hS.sub hsi
  simp only [hSi.len, og_some', onr_ret, gval_true, gval_false, pickV_true, pickV_false, apick_true, apick_false, gpick_true, gpick_false, ibin_leq, ibin_geq, ibin_lss, ibin_gtr, ibin_eql, ibin_neq, sbin_eql, sbin_neq, aun_not, Bool.not_true, Bool.not_false, decide_true, decide_false, if_true, if_false, Bool.false_eq_true, fldA_ptr, fldA_rop, anil_ptr, lenStr_str, amm_max, amm_min, Nat.zero_add, Nat.add_zero, List.length_cons, List.length_nil, Nat.reduceAdd]
  by_cases hlt : i < xs.length
  · have g0 : (i : Int) < xs.length := by omega
    obtain ⟨v, e1, e2, _⟩ := hSi.at hlt
    simp only [g0, e1, e2, og_some', onr_ret, gval_true, gval_false, pickV_true, pickV_false, apick_true, apick_false, gpick_true, gpick_false, ibin_leq, ibin_geq, ibin_lss, ibin_gtr, ibin_eql, ibin_neq, sbin_eql, sbin_neq, aun_not, Bool.not_true, Bool.not_false, decide_true, decide_false, if_true, if_false, Bool.false_eq_true, fldA_ptr, fldA_rop, anil_ptr, lenStr_str, amm_max, amm_min, Nat.zero_add, Nat.add_zero, List.length_cons, List.length_nil, Nat.reduceAdd]
    refine c_spec_l12Push i1 i2 i4 h1 (by omega) ?_
    intro σ2 p2 qs2 k1 k2 k3 k4 k5 k6 k7
    simp only [ibin_up hlt (by omega), og_some', onr_ret, gval_true, gval_false, pickV_true, pickV_false, apick_true, apick_false, gpick_true, gpick_false, ibin_leq, ibin_geq, ibin_lss, ibin_gtr, ibin_eql, ibin_neq, sbin_eql, sbin_neq, aun_not, Bool.not_true, Bool.not_false, decide_true, decide_false, if_true, if_false, Bool.false_eq_true, fldA_ptr, fldA_rop, anil_ptr, lenStr_str, amm_max, amm_min, Nat.zero_add, Nat.add_zero, List.length_cons, List.length_nil, Nat.reduceAdd]
    refine hR' hlt _ _ (.refl _) ⟨p2, qs2, k1, k2, ?_, k3, ?_, by omega, ?_⟩
    · intro ψ hf
      rcases k7 ψ hf with hf' | hf'
      · exact i3 ψ hf'
      · by_cases c : ψ = φ5
        · rw [c, i1] at hf'; cases hf'
        · cases e : σ1 ψ with
          | none => rfl
          | some F => rw [i7 ψ F c e] at hf'; cases hf'
    · rw [k4, i5, List.take_succ_eq_append_getElem hlt]
    · intro χ F hne hF
      exact k6 χ F hne (fun hf => by rw [i3 χ hf] at hF; cases hF) (i7 χ F hne hF)
  · have g0 : ¬ (i : Int) < xs.length := by omega
    obtain rfl : i = xs.length := by omega
    rw [List.take_length] at i5
    have e5 := lodA_at (σ := σi) (φ := φ5) (st := 0) (i := 0) (n := 2) (cs := [iv size, p]) i1 rfl rfl rfl
    simp only [g0, e5, og_some', onr_ret, gval_true, gval_false, pickV_true, pickV_false, apick_true, apick_false, gpick_true, gpick_false, ibin_leq, ibin_geq, ibin_lss, ibin_gtr, ibin_eql, ibin_neq, sbin_eql, sbin_neq, aun_not, Bool.not_true, Bool.not_false, decide_true, decide_false, if_true, if_false, Bool.false_eq_true, fldA_ptr, fldA_rop, anil_ptr, lenStr_str, amm_max, amm_min, Nat.zero_add, Nat.add_zero, List.length_cons, List.length_nil, Nat.reduceAdd]
    refine sto_own (es := [[iv 0, nilS]]) (cs := [iv size, p]) (i7 φ4 _ (Ne.symm n54) f4) (by simp) (by simp) rfl rfl (one2 i2.out.one.2) ?_
    simp [lodA, acellsAt]
    refine ret_here (h _ p qs (sub_set hsi h4) ?_ i4 i5)
    have hk : ∀ ψ, Foot p qs ψ → (σi.set φ4 ⟨0, 2, [[iv size, p]]⟩) ψ = σi ψ := fun ψ hf => AH.set_ne' (by rintro rfl; have := i3 _ hf; rw [f4] at this; cases this)
    exact (i2.keep hk).dif ⟨fun ψ hψ => hs1.none (i3 ψ (.inl hψ)), fun q hq ψ hψ => hs1.none (i3 ψ (.inr ⟨q, hq, hψ⟩))⟩
/-- What OpenSegs answers. -/
def OpenR (size : Int) (xs : List Int) (c s : Int) (ps : List (List Int)) : Prop :=
  if 1 ≤ size ∧ size ≤ 64 then if xs.length ≤ 4000 then c = 0 ∧ s = size ∧ OkP size ps ∧ ps.flatten = xs else c = 2 ∧ s = 0 ∧ ps = [] else c = 3 ∧ s = 0 ∧ ps = []
theorem OpenR.unique {size : Int} {xs : List Int} {c s c' s' : Int} {ps ps' : List (List Int)} (h : OpenR size xs c s ps) (h' : OpenR size xs c' s' ps') : c = c' ∧ s = s' ∧ ps = ps' := by
  unfold OpenR at h h'
  split at h
  · rename_i c1
    rw [if_pos c1] at h'
    split at h
    · rename_i c2
      rw [if_pos c2] at h'
      obtain ⟨rfl, rfl, o1, e1⟩ := h
      obtain ⟨rfl, rfl, o2, e2⟩ := h'
      exact ⟨rfl, rfl, okp_unique o1 o2 (by rw [e1, e2])⟩
    · rename_i c2
      rw [if_neg c2] at h'
      obtain ⟨rfl, rfl, rfl⟩ := h
      obtain ⟨rfl, rfl, rfl⟩ := h'
      exact ⟨rfl, rfl, rfl⟩
  · rename_i c1
    rw [if_neg c1] at h'
    obtain ⟨rfl, rfl, rfl⟩ := h
    obtain ⟨rfl, rfl, rfl⟩ := h'
    exact ⟨rfl, rfl, rfl⟩
theorem one_le_flat {size : Int} : ∀ {ps : List (List Int)}, OkP size ps → ps.length ≤ ps.flatten.length := by
  intro ps
  induction ps with
  | nil => intro _; simp
  | cons p ps ih =>
    intro h
    have h1 := (h 0 (by simp)).1
    have h2 := ih (okAt_tail h)
    simp only [List.getElem_cons_zero] at h1
    simp only [List.flatten_cons, List.length_append, List.length_cons]
    omega
theorem OpenR.small {size : Int} {xs : List Int} {c s : Int} {ps : List (List Int)} (h : OpenR size xs c s ps) : ps.length + tot ps ≤ 8000 := by
  unfold OpenR at h
  split at h
  · split at h
    · obtain ⟨_, _, h1, h2⟩ := h
      have := one_le_flat h1
      rw [← tot_flatten]
      rw [h2] at this ⊢; omega
    · obtain ⟨_, _, rfl⟩ := h; simp [tot]
  · obtain ⟨_, _, rfl⟩ := h; simp [tot]
theorem bldS_0 (x : Int) : bld [iv 0, iv 0, iv 0, nilS] [(0, 1), (1, 1), (2, 2)] [(0, iv x)] = some (.agg [iv x, iv 0, iv 0, nilS]) := rfl
theorem bldS_2 (s : Int) (v : AV) : bld [iv 0, iv 0, iv 0, nilS] [(0, 1), (1, 1), (2, 2)] [(2, .agg [iv s, v])] = some (.agg [iv 0, iv 0, iv s, v]) := by simp [bld, afill, acells, spl]
theorem one4 {a b c : Int} {v : AV} (hv : v.one = true) : ∀ x, x ∈ [iv a, iv b, iv c, v] → x.one = true := by
  intro x hx
  simp only [List.mem_cons, List.not_mem_nil, or_false] at hx
  rcases hx with rfl | rfl | rfl | rfl
  · rfl
  · rfl
  · rfl
  · exact hv
theorem c_impl_OpenSegs {size : Int} {a : AV} {xs : List Int} (hS : Ns σ a xs) (hl : xs.length ≤ 1099511627776)
    (h : ∀ σ' c s p qs, AH.Sub σ σ' → PB (dif σ σ') p qs → OpenR size xs c s (qs.map Prod.snd) → R (.ret (.agg [iv c, iv 0, iv s, p])) σ') : acall TP fn_impl_OpenSegs [iv size, a] σ R := by
  refine s_impl_OpenSegs_ok ?_
  unfold s_impl_OpenSegs
  simp only [new_eq, og_some', onr_ret, gval_true, gval_false, pickV_true, pickV_false, apick_true, apick_false, gpick_true, gpick_false, ibin_leq, ibin_geq, ibin_lss, ibin_gtr, ibin_eql, ibin_neq, sbin_eql, sbin_neq, aun_not, Bool.not_true, Bool.not_false, decide_true, decide_false, if_true, if_false, Bool.false_eq_true, fldA_ptr, fldA_rop, anil_ptr, lenStr_str, amm_max, amm_min, Nat.zero_add, Nat.add_zero, List.length_cons, List.length_nil, Nat.reduceAdd]
  intro φ hφ
  have hs : AH.Sub σ (σ.set φ ⟨0, 4, [[iv 0, iv 0, iv 0, nilS]]⟩) := sub_set (.refl σ) hφ
  have hG : (σ.set φ ⟨0, 4, [[iv 0, iv 0, iv 0, nilS]]⟩) φ = some ⟨0, 4, [[iv 0, iv 0, iv 0, nilS]]⟩ := AH.set_same ..
  generalize hσ1 : σ.set φ ⟨0, 4, [[iv 0, iv 0, iv 0, nilS]]⟩ = σ1 at hs hG ⊢
  refine c_impl_isSize ?_
  simp only [og_some', onr_ret, gval_true, gval_false, pickV_true, pickV_false, apick_true, apick_false, gpick_true, gpick_false, ibin_leq, ibin_geq, ibin_lss, ibin_gtr, ibin_eql, ibin_neq, sbin_eql, sbin_neq, aun_not, Bool.not_true, Bool.not_false, decide_true, decide_false, if_true, if_false, Bool.false_eq_true, fldA_ptr, fldA_rop, anil_ptr, lenStr_str, amm_max, amm_min, Nat.zero_add, Nat.add_zero, List.length_cons, List.length_nil, Nat.reduceAdd]
  have fin : ∀ (c s : Int) (p : AV) (qs : List (AV × List Int)) (σ2 : AH), AH.Sub σ1 σ2 → PB (dif σ1 σ2) p qs → OpenR size xs c s (qs.map Prod.snd) →
      sto 4 (.ptr φ 0 0 0) (.agg [iv c, iv 0, iv s, p]) σ2 fun σ => og (lodA 4 (.ptr φ 0 0 0) σ) fun r4 => aret r4 σ R := by
    intro c s p qs σ2 s2 hB hO
    refine sto_own (cs := [iv c, iv 0, iv s, p]) (s2.at hG) (by simp) (by simp) rfl rfl (one4 hB.out.one.2) ?_
    simp [lodA, acellsAt]
    exact ret_here (h _ c s p qs (sub_set (hs.trans s2) hφ) (hB.sub (dif_keep' hs fun χ h1 _ => AH.set_ne' (by rintro rfl; rw [hG] at h1; cases h1))) hO)
  by_cases hsz : 1 ≤ size ∧ size ≤ 64
  case neg =>
    have : (decide (1 ≤ size) && decide (size ≤ 64)) = false := by simpa using hsz
    simp only [this, bldS_0, og_some', onr_ret, gval_true, gval_false, pickV_true, pickV_false, apick_true, apick_false, gpick_true, gpick_false, ibin_leq, ibin_geq, ibin_lss, ibin_gtr, ibin_eql, ibin_neq, sbin_eql, sbin_neq, aun_not, Bool.not_true, Bool.not_false, decide_true, decide_false, if_true, if_false, Bool.false_eq_true, fldA_ptr, fldA_rop, anil_ptr, lenStr_str, amm_max, amm_min, Nat.zero_add, Nat.add_zero, List.length_cons, List.length_nil, Nat.reduceAdd]
    exact fin 3 0 nilS [] σ1 (.refl _) PB.nil (by unfold OpenR; rw [if_neg hsz]; exact ⟨rfl, rfl, rfl⟩)
  have : (decide (1 ≤ size) && decide (size ≤ 64)) = true := by simpa using hsz
  simp only [this, hS.len, og_some', onr_ret, gval_true, gval_false, pickV_true, pickV_false, apick_true, apick_false, gpick_true, gpick_false, ibin_leq, ibin_geq, ibin_lss, ibin_gtr, ibin_eql, ibin_neq, sbin_eql, sbin_neq, aun_not, Bool.not_true, Bool.not_false, decide_true, decide_false, if_true, if_false, Bool.false_eq_true, fldA_ptr, fldA_rop, anil_ptr, lenStr_str, amm_max, amm_min, Nat.zero_add, Nat.add_zero, List.length_cons, List.length_nil, Nat.reduceAdd]
  by_cases hc : (4000 : Int) < xs.length
  · simp only [hc, bldS_0, og_some', onr_ret, gval_true, gval_false, pickV_true, pickV_false, apick_true, apick_false, gpick_true, gpick_false, ibin_leq, ibin_geq, ibin_lss, ibin_gtr, ibin_eql, ibin_neq, sbin_eql, sbin_neq, aun_not, Bool.not_true, Bool.not_false, decide_true, decide_false, if_true, if_false, Bool.false_eq_true, fldA_ptr, fldA_rop, anil_ptr, lenStr_str, amm_max, amm_min, Nat.zero_add, Nat.add_zero, List.length_cons, List.length_nil, Nat.reduceAdd]
    exact fin 2 0 nilS [] σ1 (.refl _) PB.nil (by unfold OpenR; rw [if_pos hsz, if_neg (by omega)]; exact ⟨rfl, rfl, rfl⟩)
  simp only [hc, og_some', onr_ret, gval_true, gval_false, pickV_true, pickV_false, apick_true, apick_false, gpick_true, gpick_false, ibin_leq, ibin_geq, ibin_lss, ibin_gtr, ibin_eql, ibin_neq, sbin_eql, sbin_neq, aun_not, Bool.not_true, Bool.not_false, decide_true, decide_false, if_true, if_false, Bool.false_eq_true, fldA_ptr, fldA_rop, anil_ptr, lenStr_str, amm_max, amm_min, Nat.zero_add, Nat.add_zero, List.length_cons, List.length_nil, Nat.reduceAdd]
  refine c_impl_segsOf (hS.sub hs) hsz.1 hsz.2 (by omega) fun p σ2 qs k1 k2 k3 k4 => ?_
  simp only [bldS_2, og_some', onr_ret, gval_true, gval_false, pickV_true, pickV_false, apick_true, apick_false, gpick_true, gpick_false, ibin_leq, ibin_geq, ibin_lss, ibin_gtr, ibin_eql, ibin_neq, sbin_eql, sbin_neq, aun_not, Bool.not_true, Bool.not_false, decide_true, decide_false, if_true, if_false, Bool.false_eq_true, fldA_ptr, fldA_rop, anil_ptr, lenStr_str, amm_max, amm_min, Nat.zero_add, Nat.add_zero, List.length_cons, List.length_nil, Nat.reduceAdd]
  exact fin 0 size p qs σ2 k1 k2 (by unfold OpenR; rw [if_pos hsz, if_pos (by omega)]; exact ⟨rfl, rfl, k3, k4⟩)
theorem c_spec_OpenSegs_own {size : Int} {a : AV} {xs : List Int} (hS : Ns σ a xs) (hl : xs.length ≤ 1099511627776)
    (h : ∀ σ' c s p qs, AH.Sub σ σ' → PB (dif σ σ') p qs → OpenR size xs c s (qs.map Prod.snd) → R (.ret (.agg [iv c, iv 0, iv s, p])) σ') : acall TP fn_spec_OpenSegs [iv size, a] σ R := by
  refine s_spec_OpenSegs_ok ?_
  unfold s_spec_OpenSegs
  simp only [new_eq, og_some', onr_ret, gval_true, gval_false, pickV_true, pickV_false, apick_true, apick_false, gpick_true, gpick_false, ibin_leq, ibin_geq, ibin_lss, ibin_gtr, ibin_eql, ibin_neq, sbin_eql, sbin_neq, aun_not, Bool.not_true, Bool.not_false, decide_true, decide_false, if_true, if_false, Bool.false_eq_true, fldA_ptr, fldA_rop, anil_ptr, lenStr_str, amm_max, amm_min, Nat.zero_add, Nat.add_zero, List.length_cons, List.length_nil, Nat.reduceAdd]
  intro φ hφ
  have hs : AH.Sub σ (σ.set φ ⟨0, 4, [[iv 0, iv 0, iv 0, nilS]]⟩) := sub_set (.refl σ) hφ
  have hG : (σ.set φ ⟨0, 4, [[iv 0, iv 0, iv 0, nilS]]⟩) φ = some ⟨0, 4, [[iv 0, iv 0, iv 0, nilS]]⟩ := AH.set_same ..
  generalize hσ1 : σ.set φ ⟨0, 4, [[iv 0, iv 0, iv 0, nilS]]⟩ = σ1 at hs hG ⊢
  refine c_spec_l12Size ?_
  simp only [og_some', onr_ret, gval_true, gval_false, pickV_true, pickV_false, apick_true, apick_false, gpick_true, gpick_false, ibin_leq, ibin_geq, ibin_lss, ibin_gtr, ibin_eql, ibin_neq, sbin_eql, sbin_neq, aun_not, Bool.not_true, Bool.not_false, decide_true, decide_false, if_true, if_false, Bool.false_eq_true, fldA_ptr, fldA_rop, anil_ptr, lenStr_str, amm_max, amm_min, Nat.zero_add, Nat.add_zero, List.length_cons, List.length_nil, Nat.reduceAdd]
  have fin : ∀ (c s : Int) (p : AV) (qs : List (AV × List Int)) (σ2 : AH), AH.Sub σ1 σ2 → PB (dif σ1 σ2) p qs → OpenR size xs c s (qs.map Prod.snd) →
      sto 4 (.ptr φ 0 0 0) (.agg [iv c, iv 0, iv s, p]) σ2 fun σ => og (lodA 4 (.ptr φ 0 0 0) σ) fun r4 => aret r4 σ R := by
    intro c s p qs σ2 s2 hB hO
    refine sto_own (cs := [iv c, iv 0, iv s, p]) (s2.at hG) (by simp) (by simp) rfl rfl (one4 hB.out.one.2) ?_
    simp [lodA, acellsAt]
    exact ret_here (h _ c s p qs (sub_set (hs.trans s2) hφ) (hB.sub (dif_keep' hs fun χ h1 _ => AH.set_ne' (by rintro rfl; rw [hG] at h1; cases h1))) hO)
  by_cases hsz : 1 ≤ size ∧ size ≤ 64
  case neg =>
    have : (decide (1 ≤ size) && decide (size ≤ 64)) = false := by simpa using hsz
    simp only [this, bldS_0, og_some', onr_ret, gval_true, gval_false, pickV_true, pickV_false, apick_true, apick_false, gpick_true, gpick_false, ibin_leq, ibin_geq, ibin_lss, ibin_gtr, ibin_eql, ibin_neq, sbin_eql, sbin_neq, aun_not, Bool.not_true, Bool.not_false, decide_true, decide_false, if_true, if_false, Bool.false_eq_true, fldA_ptr, fldA_rop, anil_ptr, lenStr_str, amm_max, amm_min, Nat.zero_add, Nat.add_zero, List.length_cons, List.length_nil, Nat.reduceAdd]
    exact fin 3 0 nilS [] σ1 (.refl _) PB.nil (by unfold OpenR; rw [if_neg hsz]; exact ⟨rfl, rfl, rfl⟩)
  have : (decide (1 ≤ size) && decide (size ≤ 64)) = true := by simpa using hsz
  simp only [this, hS.len, og_some', onr_ret, gval_true, gval_false, pickV_true, pickV_false, apick_true, apick_false, gpick_true, gpick_false, ibin_leq, ibin_geq, ibin_lss, ibin_gtr, ibin_eql, ibin_neq, sbin_eql, sbin_neq, aun_not, Bool.not_true, Bool.not_false, decide_true, decide_false, if_true, if_false, Bool.false_eq_true, fldA_ptr, fldA_rop, anil_ptr, lenStr_str, amm_max, amm_min, Nat.zero_add, Nat.add_zero, List.length_cons, List.length_nil, Nat.reduceAdd]
  by_cases hc : (4000 : Int) < xs.length
  · simp only [hc, bldS_0, og_some', onr_ret, gval_true, gval_false, pickV_true, pickV_false, apick_true, apick_false, gpick_true, gpick_false, ibin_leq, ibin_geq, ibin_lss, ibin_gtr, ibin_eql, ibin_neq, sbin_eql, sbin_neq, aun_not, Bool.not_true, Bool.not_false, decide_true, decide_false, if_true, if_false, Bool.false_eq_true, fldA_ptr, fldA_rop, anil_ptr, lenStr_str, amm_max, amm_min, Nat.zero_add, Nat.add_zero, List.length_cons, List.length_nil, Nat.reduceAdd]
    exact fin 2 0 nilS [] σ1 (.refl _) PB.nil (by unfold OpenR; rw [if_pos hsz, if_neg (by omega)]; exact ⟨rfl, rfl, rfl⟩)
  simp only [hc, og_some', onr_ret, gval_true, gval_false, pickV_true, pickV_false, apick_true, apick_false, gpick_true, gpick_false, ibin_leq, ibin_geq, ibin_lss, ibin_gtr, ibin_eql, ibin_neq, sbin_eql, sbin_neq, aun_not, Bool.not_true, Bool.not_false, decide_true, decide_false, if_true, if_false, Bool.false_eq_true, fldA_ptr, fldA_rop, anil_ptr, lenStr_str, amm_max, amm_min, Nat.zero_add, Nat.add_zero, List.length_cons, List.length_nil, Nat.reduceAdd]
  refine c_spec_l12Open (hS.sub hs) hsz.1 (by omega) fun σ2 p qs k1 k2 k3 k4 => ?_
  simp only [bldS_2, og_some', onr_ret, gval_true, gval_false, pickV_true, pickV_false, apick_true, apick_false, gpick_true, gpick_false, ibin_leq, ibin_geq, ibin_lss, ibin_gtr, ibin_eql, ibin_neq, sbin_eql, sbin_neq, aun_not, Bool.not_true, Bool.not_false, decide_true, decide_false, if_true, if_false, Bool.false_eq_true, fldA_ptr, fldA_rop, anil_ptr, lenStr_str, amm_max, amm_min, Nat.zero_add, Nat.add_zero, List.length_cons, List.length_nil, Nat.reduceAdd]
  exact fin 0 size p qs σ2 k1 k2 (by unfold OpenR; rw [if_pos hsz, if_pos (by omega)]; exact ⟨rfl, rfl, k3, k4⟩)
theorem c_spec_OpenSegs {size : Int} {a : AV} {xs : List Int} (hS : Ns σ a xs) (hl : xs.length ≤ 1099511627776)
    (h : ∀ c s ps, OpenR size xs c s ps → R (.ret (.agg [iv c, iv 0, iv s, roP ps])) σ) : acall TP fn_spec_OpenSegs [iv size, a] σ R := by
  refine acall_imp (Q := fun e σ' => ∃ c s p ps, e = .ret (.agg [iv c, iv 0, iv s, p]) ∧ AH.Sub σ σ' ∧ Ps (dif σ σ') p ps ∧ OpenR size xs c s ps) (c_spec_OpenSegs_own hS hl fun σ' c s p qs h1 hB hO => ⟨c, s, p, _, rfl, h1, hB.ps, hO⟩) ?_
  rintro e σ' ⟨c, s, p, ps, rfl, h1, h2, h3⟩
  exact ⟨_, rfl, _, σ, imp_freeze h1 (.agg4 (.same _) (.same _) (.same _) h2.fz), h c s ps h3⟩

/-! ### answers looked at, marked, held -/
theorem c_laws_eqSegsResult {p q : AV} {c v n c' v' m : Int} {ss ts : List (List Int)} (hS : Ps σ p ss) (hT : Ps σ q ts) (hl : ss.length ≤ 1099511627776) (hm : ∀ p, p ∈ ss → p.length ≤ 1099511627776)
    (h : R (.ret (bv (decide (c = c') && (decide (v = v') && (decide (n = m) && decide (ss = ts)))))) σ) : acall TP fn_laws_eqSegsResult [.agg [iv c, iv v, iv n, p], .agg [iv c', iv v', iv m, q]] σ R := by
  refine s_laws_eqSegsResult_ok ?_
  unfold s_laws_eqSegsResult
  simp only [abox_agg, og_some', onr_ret, gval_true, gval_false, pickV_true, pickV_false, apick_true, apick_false, gpick_true, gpick_false, ibin_leq, ibin_geq, ibin_lss, ibin_gtr, ibin_eql, ibin_neq, sbin_eql, sbin_neq, aun_not, Bool.not_true, Bool.not_false, decide_true, decide_false, if_true, if_false, Bool.false_eq_true, fldA_ptr, fldA_rop, anil_ptr, lenStr_str, amm_max, amm_min, Nat.zero_add, Nat.add_zero, List.length_cons, List.length_nil, Nat.reduceAdd]
  intro φ hφ ψ hψ
  simp only [AH.set_none] at hψ
  obtain ⟨hne, hψ⟩ := hψ
  have hs : AH.Sub σ ((σ.set φ ⟨0, 4, [[iv c, iv v, iv n, p]]⟩).set ψ ⟨0, 4, [[iv c', iv v', iv m, q]]⟩) := sub_set (sub_set (.refl σ) hφ) hψ
  have g1 : ((σ.set φ ⟨0, 4, [[iv c, iv v, iv n, p]]⟩).set ψ ⟨0, 4, [[iv c', iv v', iv m, q]]⟩) φ = some ⟨0, 4, [[iv c, iv v, iv n, p]]⟩ := by rw [AH.set_ne' (Ne.symm hne), AH.set_same]
  have g2 : ((σ.set φ ⟨0, 4, [[iv c, iv v, iv n, p]]⟩).set ψ ⟨0, 4, [[iv c', iv v', iv m, q]]⟩) ψ = some ⟨0, 4, [[iv c', iv v', iv m, q]]⟩ := AH.set_same ..
  generalize (σ.set φ ⟨0, 4, [[iv c, iv v, iv n, p]]⟩).set ψ ⟨0, 4, [[iv c', iv v', iv m, q]]⟩ = σ1 at hs g1 g2 ⊢
  have a0 := lod_at (st := 0) (i := 0) (off := 0) (c := iv c) g1 rfl rfl
  have a1 := lod_at (st := 0) (i := 0) (off := 1) (c := iv v) g1 rfl rfl
  have b0 := lod_at (st := 0) (i := 0) (off := 0) (c := iv c') g2 rfl rfl
  have b1 := lod_at (st := 0) (i := 0) (off := 1) (c := iv v') g2 rfl rfl
  have a2 : lodA 2 (.ptr φ 0 0 2) σ1 = some (.agg [iv n, p]) := by simp [lodA, acellsAt, g1]
  have b2 : lodA 2 (.ptr ψ 0 0 2) σ1 = some (.agg [iv m, q]) := by simp [lodA, acellsAt, g2]
  simp only [a0, b0, og_some', onr_ret, gval_true, gval_false, pickV_true, pickV_false, apick_true, apick_false, gpick_true, gpick_false, ibin_leq, ibin_geq, ibin_lss, ibin_gtr, ibin_eql, ibin_neq, sbin_eql, sbin_neq, aun_not, Bool.not_true, Bool.not_false, decide_true, decide_false, if_true, if_false, Bool.false_eq_true, fldA_ptr, fldA_rop, anil_ptr, lenStr_str, amm_max, amm_min, Nat.zero_add, Nat.add_zero, List.length_cons, List.length_nil, Nat.reduceAdd]
  by_cases h1 : c = c'
  case neg => simp only [decide_eq_false h1, Bool.false_and, og_some', onr_ret, gval_true, gval_false, pickV_true, pickV_false, apick_true, apick_false, gpick_true, gpick_false, ibin_leq, ibin_geq, ibin_lss, ibin_gtr, ibin_eql, ibin_neq, sbin_eql, sbin_neq, aun_not, Bool.not_true, Bool.not_false, decide_true, decide_false, if_true, if_false, Bool.false_eq_true, fldA_ptr, fldA_rop, anil_ptr, lenStr_str, amm_max, amm_min, Nat.zero_add, Nat.add_zero, List.length_cons, List.length_nil, Nat.reduceAdd] at h ⊢; exact aret_sub hs h
  simp only [decide_eq_true h1, Bool.true_and, a1, b1, og_some', onr_ret, gval_true, gval_false, pickV_true, pickV_false, apick_true, apick_false, gpick_true, gpick_false, ibin_leq, ibin_geq, ibin_lss, ibin_gtr, ibin_eql, ibin_neq, sbin_eql, sbin_neq, aun_not, Bool.not_true, Bool.not_false, decide_true, decide_false, if_true, if_false, Bool.false_eq_true, fldA_ptr, fldA_rop, anil_ptr, lenStr_str, amm_max, amm_min, Nat.zero_add, Nat.add_zero, List.length_cons, List.length_nil, Nat.reduceAdd] at h ⊢
  by_cases h2 : v = v'
  case neg => simp only [decide_eq_false h2, Bool.false_and, og_some', onr_ret, gval_true, gval_false, pickV_true, pickV_false, apick_true, apick_false, gpick_true, gpick_false, ibin_leq, ibin_geq, ibin_lss, ibin_gtr, ibin_eql, ibin_neq, sbin_eql, sbin_neq, aun_not, Bool.not_true, Bool.not_false, decide_true, decide_false, if_true, if_false, Bool.false_eq_true, fldA_ptr, fldA_rop, anil_ptr, lenStr_str, amm_max, amm_min, Nat.zero_add, Nat.add_zero, List.length_cons, List.length_nil, Nat.reduceAdd] at h ⊢; exact aret_sub hs h
  simp only [decide_eq_true h2, Bool.true_and, a2, b2, og_some', onr_ret, gval_true, gval_false, pickV_true, pickV_false, apick_true, apick_false, gpick_true, gpick_false, ibin_leq, ibin_geq, ibin_lss, ibin_gtr, ibin_eql, ibin_neq, sbin_eql, sbin_neq, aun_not, Bool.not_true, Bool.not_false, decide_true, decide_false, if_true, if_false, Bool.false_eq_true, fldA_ptr, fldA_rop, anil_ptr, lenStr_str, amm_max, amm_min, Nat.zero_add, Nat.add_zero, List.length_cons, List.length_nil, Nat.reduceAdd] at h ⊢
  refine c_laws_eqSegs (hS.sub hs) (hT.sub hs) hl hm ?_
  simp only [og_some', onr_ret, gval_true, gval_false, pickV_true, pickV_false, apick_true, apick_false, gpick_true, gpick_false, ibin_leq, ibin_geq, ibin_lss, ibin_gtr, ibin_eql, ibin_neq, sbin_eql, sbin_neq, aun_not, Bool.not_true, Bool.not_false, decide_true, decide_false, if_true, if_false, Bool.false_eq_true, fldA_ptr, fldA_rop, anil_ptr, lenStr_str, amm_max, amm_min, Nat.zero_add, Nat.add_zero, List.length_cons, List.length_nil, Nat.reduceAdd]
  generalize (decide (n = m) && decide (ss = ts)) = b at h ⊢
  cases b
  · simp only [og_some', onr_ret, gval_true, gval_false, pickV_true, pickV_false, apick_true, apick_false, gpick_true, gpick_false, ibin_leq, ibin_geq, ibin_lss, ibin_gtr, ibin_eql, ibin_neq, sbin_eql, sbin_neq, aun_not, Bool.not_true, Bool.not_false, decide_true, decide_false, if_true, if_false, Bool.false_eq_true, fldA_ptr, fldA_rop, anil_ptr, lenStr_str, amm_max, amm_min, Nat.zero_add, Nat.add_zero, List.length_cons, List.length_nil, Nat.reduceAdd]; exact aret_sub hs h
  · simp only [og_some', onr_ret, gval_true, gval_false, pickV_true, pickV_false, apick_true, apick_false, gpick_true, gpick_false, ibin_leq, ibin_geq, ibin_lss, ibin_gtr, ibin_eql, ibin_neq, sbin_eql, sbin_neq, aun_not, Bool.not_true, Bool.not_false, decide_true, decide_false, if_true, if_false, Bool.false_eq_true, fldA_ptr, fldA_rop, anil_ptr, lenStr_str, amm_max, amm_min, Nat.zero_add, Nat.add_zero, List.length_cons, List.length_nil, Nat.reduceAdd]; exact aret_sub hs h
theorem c_laws_markSegsResult {a : AV} {c v size : Int} {qs : List (AV × List Int)} {k : Int} (hB : PB σ a qs) (h0 : 0 ≤ k) (hl : qs.length ≤ 1099511627776) (hb : k + tot (qs.map Prod.snd) ≤ 1099511627776)
    (h : ∀ σ', PB σ' a (marks k qs) → (∀ ψ, ¬ Foot a qs ψ → σ ψ ≠ none → σ' ψ = σ ψ) → R (.ret (iv (k + tot (qs.map Prod.snd)))) σ') : acall TP fn_laws_markSegsResult [.agg [iv c, iv v, iv size, a], iv k] σ R := by
  refine s_laws_markSegsResult_ok ?_
  unfold s_laws_markSegsResult
  simp only [abox_agg, og_some', onr_ret, gval_true, gval_false, pickV_true, pickV_false, apick_true, apick_false, gpick_true, gpick_false, ibin_leq, ibin_geq, ibin_lss, ibin_gtr, ibin_eql, ibin_neq, sbin_eql, sbin_neq, aun_not, Bool.not_true, Bool.not_false, decide_true, decide_false, if_true, if_false, Bool.false_eq_true, fldA_ptr, fldA_rop, anil_ptr, lenStr_str, amm_max, amm_min, Nat.zero_add, Nat.add_zero, List.length_cons, List.length_nil, Nat.reduceAdd]
  intro φ hφ
  have hs : AH.Sub σ (σ.set φ ⟨0, 4, [[iv c, iv v, iv size, a]]⟩) := sub_set (.refl σ) hφ
  have e : lodA 2 (.ptr φ 0 0 2) (σ.set φ ⟨0, 4, [[iv c, iv v, iv size, a]]⟩) = some (.agg [iv size, a]) := by simp [lodA, acellsAt]
  simp only [e, og_some', onr_ret, gval_true, gval_false, pickV_true, pickV_false, apick_true, apick_false, gpick_true, gpick_false, ibin_leq, ibin_geq, ibin_lss, ibin_gtr, ibin_eql, ibin_neq, sbin_eql, sbin_neq, aun_not, Bool.not_true, Bool.not_false, decide_true, decide_false, if_true, if_false, Bool.false_eq_true, fldA_ptr, fldA_rop, anil_ptr, lenStr_str, amm_max, amm_min, Nat.zero_add, Nat.add_zero, List.length_cons, List.length_nil, Nat.reduceAdd]
  refine c_laws_markSegs (hB.sub hs) h0 hl hb fun σ' k1 k2 => ?_
  simp only [og_some', onr_ret, gval_true, gval_false, pickV_true, pickV_false, apick_true, apick_false, gpick_true, gpick_false, ibin_leq, ibin_geq, ibin_lss, ibin_gtr, ibin_eql, ibin_neq, sbin_eql, sbin_neq, aun_not, Bool.not_true, Bool.not_false, decide_true, decide_false, if_true, if_false, Bool.false_eq_true, fldA_ptr, fldA_rop, anil_ptr, lenStr_str, amm_max, amm_min, Nat.zero_add, Nat.add_zero, List.length_cons, List.length_nil, Nat.reduceAdd]
  refine ret_here (h σ' k1 fun ψ h1 h2 => ?_)
  have hne : ψ ≠ φ := by rintro rfl; exact h2 hφ
  rw [k2 ψ (fun q hq hf => h1 (.inr ⟨q, hq, hf⟩)) (by rw [AH.set_ne' hne]; exact h2), AH.set_ne' hne]
/-- The lists that marking from k on leaves. -/
def mkl : Int → List Nat → List (List Int)
  | _, [] => []
  | k, n :: ns => mk k n :: mkl (k + n) ns
theorem marks_mkl : ∀ (qs : List (AV × List Int)) (k : Int), (marks k qs).map Prod.snd = mkl k (qs.map fun q => q.2.length) := by
  intro qs
  induction qs with
  | nil => intro k; rfl
  | cons q qs ih => intro k; simp only [marks, List.map_cons, mkl, ih]
theorem mkl_length : ∀ (ns : List Nat) (k : Int), (mkl k ns).length = ns.length := by
  intro ns
  induction ns with
  | nil => intro k; rfl
  | cons n ns ih => intro k; simp [mkl, ih]
def sum : List Nat → Nat
  | [] => 0
  | n :: ns => n + sum ns
theorem mkl_get : ∀ (ns : List Nat) (k : Int) (i : Nat) (h : i < (mkl k ns).length) (h' : i < ns.length), (mkl k ns)[i] = mk (k + sum (ns.take i)) ns[i] := by
  intro ns
  induction ns with
  | nil => intro k i h h'; cases h'
  | cons n ns ih =>
    intro k i h h'
    cases i with
    | zero => simp [mkl, sum]
    | succ i =>
      have := ih (k + n) i (by simpa [mkl] using h) (by simpa using h')
      simp only [mkl, List.getElem_cons_succ, this, List.take_succ_cons, sum]
      congr 1; omega
theorem sum_take (ns : List Nat) {i : Nat} (h : i < ns.length) : sum (ns.take (i + 1)) = sum (ns.take i) + ns[i] := by
  induction ns generalizing i with
  | nil => cases h
  | cons n ns ih =>
    cases i with
    | zero => simp [sum]
    | succ i =>
      have := ih (i := i) (by simpa using h)
      simp only [List.take_succ_cons, sum, this, List.getElem_cons_succ]; omega
theorem sum_take_le (ns : List Nat) (i : Nat) : sum (ns.take i) ≤ sum ns := by
  induction ns generalizing i with
  | nil => simp
  | cons n ns ih =>
    cases i with
    | zero => simp [sum]
    | succ i => have := ih i; simp only [List.take_succ_cons, sum]; omega
theorem sum_tot (qs : List (AV × List Int)) : sum (qs.map fun q => q.2.length) = tot (qs.map Prod.snd) := by
  induction qs with
  | nil => rfl
  | cons q qs ih => simp [sum, tot, ih]
theorem c_laws_heldSegPartS {a : AV} {ns : List Nat} {k : Int} (hS : Ps σ a (mkl k ns)) (h0 : 0 ≤ k) (hb : k + ns.length + sum ns ≤ 1099511627776)
    (h : R (.ret (iv (k + sum ns))) σ) : acall TP fn_laws_heldSegPartS [a, iv k] σ R := by
  refine s_laws_heldSegPartS_ok ?_
  unfold s_laws_heldSegPartS
  refine lp_read ns.length (fun i => (a, iv (k + sum (ns.take i)), iv i, ())) (by simp [iv, sum]; rfl) ?_
  intro i hi R' hR'
  have hl := hS.len
  rw [mkl_length] at hl
  simp only [hl, og_some', onr_ret, gval_true, gval_false, pickV_true, pickV_false, apick_true, apick_false, gpick_true, gpick_false, ibin_leq, ibin_geq, ibin_lss, ibin_gtr, ibin_eql, ibin_neq, sbin_eql, sbin_neq, aun_not, Bool.not_true, Bool.not_false, decide_true, decide_false, if_true, if_false, Bool.false_eq_true, fldA_ptr, fldA_rop, anil_ptr, lenStr_str, amm_max, amm_min, Nat.zero_add, Nat.add_zero, List.length_cons, List.length_nil, Nat.reduceAdd]
  by_cases hlt : i < ns.length
  · have g0 : (i : Int) < ns.length := by omega
    have hlt' : i < (mkl k ns).length := by rw [mkl_length]; exact hlt
    obtain ⟨p, q, p', hp, hq, hf, hl', hN⟩ := hS.at hlt'
    rw [mkl_get ns k i hlt' hlt] at hN
    have hT := sum_take ns hlt
    have hT2 := sum_take_le ns (i + 1)
    simp only [g0, hp, hf, hl', og_some', onr_ret, gval_true, gval_false, pickV_true, pickV_false, apick_true, apick_false, gpick_true, gpick_false, ibin_leq, ibin_geq, ibin_lss, ibin_gtr, ibin_eql, ibin_neq, sbin_eql, sbin_neq, aun_not, Bool.not_true, Bool.not_false, decide_true, decide_false, if_true, if_false, Bool.false_eq_true, fldA_ptr, fldA_rop, anil_ptr, lenStr_str, amm_max, amm_min, Nat.zero_add, Nat.add_zero, List.length_cons, List.length_nil, Nat.reduceAdd]
    refine c_laws_heldInt64S hN (by omega) (by omega) ?_
    have g1 : ¬ k + (sum (ns.take i) : Int) + (ns[i] : Nat) < 0 := by omega
    simp only [g1, ibin_up hlt (by omega), og_some', onr_ret, gval_true, gval_false, pickV_true, pickV_false, apick_true, apick_false, gpick_true, gpick_false, ibin_leq, ibin_geq, ibin_lss, ibin_gtr, ibin_eql, ibin_neq, sbin_eql, sbin_neq, aun_not, Bool.not_true, Bool.not_false, decide_true, decide_false, if_true, if_false, Bool.false_eq_true, fldA_ptr, fldA_rop, anil_ptr, lenStr_str, amm_max, amm_min, Nat.zero_add, Nat.add_zero, List.length_cons, List.length_nil, Nat.reduceAdd]
    have e : k + (sum (ns.take i) : Int) + (ns[i] : Nat) = k + (sum (ns.take (i + 1)) : Nat) := by omega
    rw [e]
    exact hR' hlt _ (.refl _)
  · have g0 : ¬ (i : Int) < ns.length := by omega
    obtain rfl : i = ns.length := by omega
    simp only [g0, List.take_length, og_some', onr_ret, gval_true, gval_false, pickV_true, pickV_false, apick_true, apick_false, gpick_true, gpick_false, ibin_leq, ibin_geq, ibin_lss, ibin_gtr, ibin_eql, ibin_neq, sbin_eql, sbin_neq, aun_not, Bool.not_true, Bool.not_false, decide_true, decide_false, if_true, if_false, Bool.false_eq_true, fldA_ptr, fldA_rop, anil_ptr, lenStr_str, amm_max, amm_min, Nat.zero_add, Nat.add_zero, List.length_cons, List.length_nil, Nat.reduceAdd]
    exact ret_here h
theorem c_laws_heldSegs {a : AV} {size : Int} {ns : List Nat} {k : Int} (hS : Ps σ a (mkl k ns)) (h0 : 0 ≤ k) (hb : k + ns.length + sum ns ≤ 1099511627776)
    (h : R (.ret (iv (k + sum ns))) σ) : acall TP fn_laws_heldSegs [.agg [iv size, a], iv k] σ R := by
  refine s_laws_heldSegs_ok ?_
  unfold s_laws_heldSegs
  simp only [abox_agg, og_some', onr_ret, gval_true, gval_false, pickV_true, pickV_false, apick_true, apick_false, gpick_true, gpick_false, ibin_leq, ibin_geq, ibin_lss, ibin_gtr, ibin_eql, ibin_neq, sbin_eql, sbin_neq, aun_not, Bool.not_true, Bool.not_false, decide_true, decide_false, if_true, if_false, Bool.false_eq_true, fldA_ptr, fldA_rop, anil_ptr, lenStr_str, amm_max, amm_min, Nat.zero_add, Nat.add_zero, List.length_cons, List.length_nil, Nat.reduceAdd]
  intro φ hφ
  have hs : AH.Sub σ (σ.set φ ⟨0, 2, [[iv size, a]]⟩) := sub_set (.refl σ) hφ
  have e := lod_at (σ := σ.set φ ⟨0, 2, [[iv size, a]]⟩) (φ := φ) (st := 0) (i := 0) (off := 1) (c := a) (AH.set_same ..) rfl rfl
  simp only [e, og_some', onr_ret, gval_true, gval_false, pickV_true, pickV_false, apick_true, apick_false, gpick_true, gpick_false, ibin_leq, ibin_geq, ibin_lss, ibin_gtr, ibin_eql, ibin_neq, sbin_eql, sbin_neq, aun_not, Bool.not_true, Bool.not_false, decide_true, decide_false, if_true, if_false, Bool.false_eq_true, fldA_ptr, fldA_rop, anil_ptr, lenStr_str, amm_max, amm_min, Nat.zero_add, Nat.add_zero, List.length_cons, List.length_nil, Nat.reduceAdd]
  refine c_laws_heldSegPartS (hS.sub hs) h0 hb ?_
  have g : ¬ k + (sum ns : Int) < 0 := by omega
  simp only [g, og_some', onr_ret, gval_true, gval_false, pickV_true, pickV_false, apick_true, apick_false, gpick_true, gpick_false, ibin_leq, ibin_geq, ibin_lss, ibin_gtr, ibin_eql, ibin_neq, sbin_eql, sbin_neq, aun_not, Bool.not_true, Bool.not_false, decide_true, decide_false, if_true, if_false, Bool.false_eq_true, fldA_ptr, fldA_rop, anil_ptr, lenStr_str, amm_max, amm_min, Nat.zero_add, Nat.add_zero, List.length_cons, List.length_nil, Nat.reduceAdd]
  exact aret_sub hs h
theorem c_laws_heldSegsResult {a : AV} {c v size : Int} {ns : List Nat} {k : Int} (hS : Ps σ a (mkl k ns)) (h0 : 0 ≤ k) (hb : k + ns.length + sum ns ≤ 1099511627776)
    (h : R (.ret (iv (k + sum ns))) σ) : acall TP fn_laws_heldSegsResult [.agg [iv c, iv v, iv size, a], iv k] σ R := by
  refine s_laws_heldSegsResult_ok ?_
  unfold s_laws_heldSegsResult
  simp only [abox_agg, og_some', onr_ret, gval_true, gval_false, pickV_true, pickV_false, apick_true, apick_false, gpick_true, gpick_false, ibin_leq, ibin_geq, ibin_lss, ibin_gtr, ibin_eql, ibin_neq, sbin_eql, sbin_neq, aun_not, Bool.not_true, Bool.not_false, decide_true, decide_false, if_true, if_false, Bool.false_eq_true, fldA_ptr, fldA_rop, anil_ptr, lenStr_str, amm_max, amm_min, Nat.zero_add, Nat.add_zero, List.length_cons, List.length_nil, Nat.reduceAdd]
  intro φ hφ
  have hs : AH.Sub σ (σ.set φ ⟨0, 4, [[iv c, iv v, iv size, a]]⟩) := sub_set (.refl σ) hφ
  have e : lodA 2 (.ptr φ 0 0 2) (σ.set φ ⟨0, 4, [[iv c, iv v, iv size, a]]⟩) = some (.agg [iv size, a]) := by simp [lodA, acellsAt]
  simp only [e, og_some', onr_ret, gval_true, gval_false, pickV_true, pickV_false, apick_true, apick_false, gpick_true, gpick_false, ibin_leq, ibin_geq, ibin_lss, ibin_gtr, ibin_eql, ibin_neq, sbin_eql, sbin_neq, aun_not, Bool.not_true, Bool.not_false, decide_true, decide_false, if_true, if_false, Bool.false_eq_true, fldA_ptr, fldA_rop, anil_ptr, lenStr_str, amm_max, amm_min, Nat.zero_add, Nat.add_zero, List.length_cons, List.length_nil, Nat.reduceAdd]
  refine c_laws_heldSegs (hS.sub hs) h0 hb ?_
  have g : ¬ k + (sum ns : Int) < 0 := by omega
  simp only [g, og_some', onr_ret, gval_true, gval_false, pickV_true, pickV_false, apick_true, apick_false, gpick_true, gpick_false, ibin_leq, ibin_geq, ibin_lss, ibin_gtr, ibin_eql, ibin_neq, sbin_eql, sbin_neq, aun_not, Bool.not_true, Bool.not_false, decide_true, decide_false, if_true, if_false, Bool.false_eq_true, fldA_ptr, fldA_rop, anil_ptr, lenStr_str, amm_max, amm_min, Nat.zero_add, Nat.add_zero, List.length_cons, List.length_nil, Nat.reduceAdd]
  exact aret_sub hs h
end Go.Proofs.Ytjfdgijgkbojnaa.E
/- The law on OpenSegs. -/
set_option linter.unusedSectionVars false
set_option linter.unusedSimpArgs false
set_option linter.unusedVariables false
namespace Go.Proofs.Ytjfdgijgkbojnaa.E
open Go Go.RowKit
variable [L : Lam]
variable {σ : AH} {R : AEnd → AH → Prop}
theorem PB.new {σ0 σ1 : AH} {a : AV} {qs : List (AV × List Int)} (h : PB (E.dif σ0 σ1) a qs) {ψ : Nat} (hf : Foot a qs ψ) : σ0 ψ = none ∧ σ1 ψ ≠ none := by
  obtain ⟨F, hF, _⟩ := h.foot hf
  obtain ⟨h1, h2⟩ := dif_some hF
  exact ⟨h1, by rw [h2]; simp⟩
theorem put_new4 {σ : AH} {ψ : Nat} {a b c : Int} {v : AV} {zs : List AV} {k : AH → Prop} (hψ : σ ψ = none) (hz : zs.length = 4) (hv : v.one = true)
    (h : ∀ σ', AH.Sub σ σ' → σ' ψ = some ⟨0, 4, [[iv a, iv b, iv c, v]]⟩ → (∀ χ, χ ≠ ψ → σ' χ = σ χ) → k σ') : sto 4 (.ptr ψ 0 0 0) (.agg [iv a, iv b, iv c, v]) (σ.set ψ ⟨0, 4, [zs]⟩) k :=
  put_new hψ hz rfl (one4 hv) h
/-- An own copy of a list. -/
theorem copy_buf {σ : AH} {φ : Nat} {xs : List Int} : Buf (σ.set φ ⟨0, 1, xs.map fun x => [iv x]⟩) 1 (.own φ 0 0 xs.length) (xs.map fun x => [iv x]) := .inr ⟨φ, 0, by simp, AH.set_same ..⟩
set_option maxRecDepth 100000 in
theorem c_laws_FnExactOpenSegs {size : Int} {xs : List Int} (h : R (.ret (bv true)) σ) : acall TP fn_laws_FnExactOpenSegs [iv size, roN xs] σ R := by
  refine s_laws_FnExactOpenSegs_ok ?_
  unfold s_laws_FnExactOpenSegs
  have hN : ∀ σ : AH, Ns σ (roN xs) xs := fun σ => Cs.ro ..
  simp only [(hN σ).len, og_some', onr_ret, gval_true, gval_false, pickV_true, pickV_false, apick_true, apick_false, gpick_true, gpick_false, ibin_leq, ibin_geq, ibin_lss, ibin_gtr, ibin_eql, ibin_neq, sbin_eql, sbin_neq, aun_not, Bool.not_true, Bool.not_false, decide_true, decide_false, if_true, if_false, Bool.false_eq_true, fldA_ptr, fldA_rop, anil_ptr, lenStr_str, amm_max, amm_min, Nat.zero_add, Nat.add_zero, List.length_cons, List.length_nil, Nat.reduceAdd]
  by_cases c0 : (1048576 : Int) < xs.length
  · simp only [c0, og_some', onr_ret, gval_true, gval_false, pickV_true, pickV_false, apick_true, apick_false, gpick_true, gpick_false, ibin_leq, ibin_geq, ibin_lss, ibin_gtr, ibin_eql, ibin_neq, sbin_eql, sbin_neq, aun_not, Bool.not_true, Bool.not_false, decide_true, decide_false, if_true, if_false, Bool.false_eq_true, fldA_ptr, fldA_rop, anil_ptr, lenStr_str, amm_max, amm_min, Nat.zero_add, Nat.add_zero, List.length_cons, List.length_nil, Nat.reduceAdd]; exact ret_here h
  simp only [c0, og_some', onr_ret, gval_true, gval_false, pickV_true, pickV_false, apick_true, apick_false, gpick_true, gpick_false, ibin_leq, ibin_geq, ibin_lss, ibin_gtr, ibin_eql, ibin_neq, sbin_eql, sbin_neq, aun_not, Bool.not_true, Bool.not_false, decide_true, decide_false, if_true, if_false, Bool.false_eq_true, fldA_ptr, fldA_rop, anil_ptr, lenStr_str, amm_max, amm_min, Nat.zero_add, Nat.add_zero, List.length_cons, List.length_nil, Nat.reduceAdd]
  have b0 : xs.length ≤ 1099511627776 := by omega
  refine c_laws_toInt64S (hN _) b0 fun ψ0 g0 => ?_
  have s0 : AH.Sub σ (σ.set ψ0 ⟨0, 1, xs.map fun x => [iv x]⟩) := sub_set (.refl σ) g0
  have B0 := copy_buf (σ := σ) (φ := ψ0) (xs := xs)
  generalize σ.set ψ0 ⟨0, 1, xs.map fun x => [iv x]⟩ = σ1 at s0 B0 ⊢
  simp only [og_some', onr_ret, gval_true, gval_false, pickV_true, pickV_false, apick_true, apick_false, gpick_true, gpick_false, ibin_leq, ibin_geq, ibin_lss, ibin_gtr, ibin_eql, ibin_neq, sbin_eql, sbin_neq, aun_not, Bool.not_true, Bool.not_false, decide_true, decide_false, if_true, if_false, Bool.false_eq_true, fldA_ptr, fldA_rop, anil_ptr, lenStr_str, amm_max, amm_min, Nat.zero_add, Nat.add_zero, List.length_cons, List.length_nil, Nat.reduceAdd]
  refine c_spec_OpenSegs (Buf.cs B0) b0 fun c s ps hO => ?_
  have hsm := hO.small
  simp only [new_eq, og_some', onr_ret, gval_true, gval_false, pickV_true, pickV_false, apick_true, apick_false, gpick_true, gpick_false, ibin_leq, ibin_geq, ibin_lss, ibin_gtr, ibin_eql, ibin_neq, sbin_eql, sbin_neq, aun_not, Bool.not_true, Bool.not_false, decide_true, decide_false, if_true, if_false, Bool.false_eq_true, fldA_ptr, fldA_rop, anil_ptr, lenStr_str, amm_max, amm_min, Nat.zero_add, Nat.add_zero, List.length_cons, List.length_nil, Nat.reduceAdd]
  intro φ5 h5
  refine put_new4 h5 rfl rfl fun σ2 s2 f5 k2 => ?_
  refine c_laws_toInt64S (hN _) b0 fun ψ1 g1 => ?_
  have s3 : AH.Sub σ2 (σ2.set ψ1 ⟨0, 1, xs.map fun x => [iv x]⟩) := sub_set (.refl σ2) g1
  have XB := copy_buf (σ := σ2) (φ := ψ1) (xs := xs)
  have hX : (σ2.set ψ1 ⟨0, 1, xs.map fun x => [iv x]⟩) ψ1 ≠ none := by simp
  generalize σ2.set ψ1 ⟨0, 1, xs.map fun x => [iv x]⟩ = σ3 at s3 XB hX ⊢
  simp only [og_some', onr_ret, gval_true, gval_false, pickV_true, pickV_false, apick_true, apick_false, gpick_true, gpick_false, ibin_leq, ibin_geq, ibin_lss, ibin_gtr, ibin_eql, ibin_neq, sbin_eql, sbin_neq, aun_not, Bool.not_true, Bool.not_false, decide_true, decide_false, if_true, if_false, Bool.false_eq_true, fldA_ptr, fldA_rop, anil_ptr, lenStr_str, amm_max, amm_min, Nat.zero_add, Nat.add_zero, List.length_cons, List.length_nil, Nat.reduceAdd]
  refine c_impl_OpenSegs (Buf.cs XB) b0 fun σ4 c' s' p qs s4 gB hO' => ?_
  obtain ⟨rfl, rfl, hps⟩ := hO.unique hO'
  have hqs : qs.length = ps.length := by rw [hps]; simp
  simp only [new_eq, og_some', onr_ret, gval_true, gval_false, pickV_true, pickV_false, apick_true, apick_false, gpick_true, gpick_false, ibin_leq, ibin_geq, ibin_lss, ibin_gtr, ibin_eql, ibin_neq, sbin_eql, sbin_neq, aun_not, Bool.not_true, Bool.not_false, decide_true, decide_false, if_true, if_false, Bool.false_eq_true, fldA_ptr, fldA_rop, anil_ptr, lenStr_str, amm_max, amm_min, Nat.zero_add, Nat.add_zero, List.length_cons, List.length_nil, Nat.reduceAdd]
  intro φ7 h7
  refine put_new4 h7 rfl gB.out.one.2 fun σ5 s5 f7 k5 => ?_
  have f5' := ((s3.trans s4).trans s5).at f5
  have e7 := lodA_at (st := 0) (i := 0) (n := 4) (cs := [iv c, iv 0, iv s, p]) f7 rfl rfl rfl
  have e5 := lodA_at (st := 0) (i := 0) (n := 4) (cs := [iv c, iv 0, iv s, roP ps]) f5' rfl rfl rfl
  have gB5 : PB σ5 p qs := (gB.sub (dif_sub _ _)).sub s5
  have gP5 : Ps σ5 p ps := hps ▸ gB5.ps
  have b1 : ps.length ≤ 1099511627776 := by omega
  have b2 : ∀ p, p ∈ ps → p.length ≤ 1099511627776 := tot_mem (by omega)
  simp only [e7, e5, og_some', onr_ret, gval_true, gval_false, pickV_true, pickV_false, apick_true, apick_false, gpick_true, gpick_false, ibin_leq, ibin_geq, ibin_lss, ibin_gtr, ibin_eql, ibin_neq, sbin_eql, sbin_neq, aun_not, Bool.not_true, Bool.not_false, decide_true, decide_false, if_true, if_false, Bool.false_eq_true, fldA_ptr, fldA_rop, anil_ptr, lenStr_str, amm_max, amm_min, Nat.zero_add, Nat.add_zero, List.length_cons, List.length_nil, Nat.reduceAdd]
  refine c_laws_eqSegsResult gP5 (Ps.ro ..) b1 b2 ?_
  simp only [Bool.and_self, og_some', onr_ret, gval_true, gval_false, pickV_true, pickV_false, apick_true, apick_false, gpick_true, gpick_false, ibin_leq, ibin_geq, ibin_lss, ibin_gtr, ibin_eql, ibin_neq, sbin_eql, sbin_neq, aun_not, Bool.not_true, Bool.not_false, decide_true, decide_false, if_true, if_false, Bool.false_eq_true, fldA_ptr, fldA_rop, anil_ptr, lenStr_str, amm_max, amm_min, Nat.zero_add, Nat.add_zero, List.length_cons, List.length_nil, Nat.reduceAdd]
  refine c_laws_toInt64S (hN _) b0 fun ψ2 g2 => ?_
  have s6 : AH.Sub σ5 (σ5.set ψ2 ⟨0, 1, xs.map fun x => [iv x]⟩) := sub_set (.refl _) g2
  have CB := copy_buf (σ := σ5) (φ := ψ2) (xs := xs)
  generalize σ5.set ψ2 ⟨0, 1, xs.map fun x => [iv x]⟩ = σ6 at s6 CB ⊢
  have s36 : AH.Sub σ3 σ6 := (s4.trans s5).trans s6
  have XB6 := XB.sub s36
  simp only [og_some', onr_ret, gval_true, gval_false, pickV_true, pickV_false, apick_true, apick_false, gpick_true, gpick_false, ibin_leq, ibin_geq, ibin_lss, ibin_gtr, ibin_eql, ibin_neq, sbin_eql, sbin_neq, aun_not, Bool.not_true, Bool.not_false, decide_true, decide_false, if_true, if_false, Bool.false_eq_true, fldA_ptr, fldA_rop, anil_ptr, lenStr_str, amm_max, amm_min, Nat.zero_add, Nat.add_zero, List.length_cons, List.length_nil, Nat.reduceAdd]
  refine c_laws_eqInt64S (Buf.cs XB6) (Buf.cs CB) b0 ?_
  simp only [og_some', onr_ret, gval_true, gval_false, pickV_true, pickV_false, apick_true, apick_false, gpick_true, gpick_false, ibin_leq, ibin_geq, ibin_lss, ibin_gtr, ibin_eql, ibin_neq, sbin_eql, sbin_neq, aun_not, Bool.not_true, Bool.not_false, decide_true, decide_false, if_true, if_false, Bool.false_eq_true, fldA_ptr, fldA_rop, anil_ptr, lenStr_str, amm_max, amm_min, Nat.zero_add, Nat.add_zero, List.length_cons, List.length_nil, Nat.reduceAdd]
  refine c_laws_markInt64S XB6 (by omega) (by omega) fun σ7 XB7 k7 => ?_
  -- what is not x1's stays
  have xf : ∀ ψ, Buf.fam (.own ψ1 0 0 xs.length) ψ → ψ = ψ1 := by rintro ψ ⟨_, _, _, e⟩; cases e; rfl
  have keep7 : ∀ χ, χ ≠ ψ1 → σ7 χ = σ6 χ := fun χ hne => k7 χ fun hf => hne (xf χ hf)
  have n51 : φ5 ≠ ψ1 := by rintro rfl; rw [f5] at g1; cases g1
  have n71 : φ7 ≠ ψ1 := by rintro rfl; exact hX (s4.none h7)
  have F5 : σ7 φ5 = some ⟨0, 4, [[iv c, iv 0, iv s, roP ps]]⟩ := by rw [keep7 _ n51]; exact s6.at f5'
  have F7 : σ7 φ7 = some ⟨0, 4, [[iv c, iv 0, iv s, p]]⟩ := by rw [keep7 _ n71]; exact s6.at f7
  have gB7 : PB σ7 p qs := (gB5.sub s6).keep fun χ hf => keep7 χ (by rintro rfl; exact hX (gB.new hf).1)
  have gP7 : Ps σ7 p ps := hps ▸ gB7.ps
  have E5 := lodA_at (st := 0) (i := 0) (n := 4) (cs := [iv c, iv 0, iv s, roP ps]) F5 rfl rfl rfl
  have E7 := lodA_at (st := 0) (i := 0) (n := 4) (cs := [iv c, iv 0, iv s, p]) F7 rfl rfl rfl
  have gk : ¬ 1 + (xs.length : Int) < 0 := by omega
  simp only [jn, gk, E5, E7, og_some', onr_ret, gval_true, gval_false, pickV_true, pickV_false, apick_true, apick_false, gpick_true, gpick_false, ibin_leq, ibin_geq, ibin_lss, ibin_gtr, ibin_eql, ibin_neq, sbin_eql, sbin_neq, aun_not, Bool.not_true, Bool.not_false, decide_true, decide_false, if_true, if_false, Bool.false_eq_true, fldA_ptr, fldA_rop, anil_ptr, lenStr_str, amm_max, amm_min, Nat.zero_add, Nat.add_zero, List.length_cons, List.length_nil, Nat.reduceAdd]
  refine c_laws_eqSegsResult gP7 (Ps.ro ..) b1 b2 ?_
  simp only [Bool.and_self, E7, og_some', onr_ret, gval_true, gval_false, pickV_true, pickV_false, apick_true, apick_false, gpick_true, gpick_false, ibin_leq, ibin_geq, ibin_lss, ibin_gtr, ibin_eql, ibin_neq, sbin_eql, sbin_neq, aun_not, Bool.not_true, Bool.not_false, decide_true, decide_false, if_true, if_false, Bool.false_eq_true, fldA_ptr, fldA_rop, anil_ptr, lenStr_str, amm_max, amm_min, Nat.zero_add, Nat.add_zero, List.length_cons, List.length_nil, Nat.reduceAdd]
  refine c_laws_markSegsResult gB7 (by omega) (by omega) (by rw [← hps]; omega) fun σ8 gB8 k8 => ?_
  have keep8 : ∀ χ F, σ7 χ = some F → ¬ Foot p qs χ → σ8 χ = some F := fun χ F hF hf => by rw [k8 χ hf (by rw [hF]; simp)]; exact hF
  have K5 := keep8 φ5 _ F5 (fun hf => by have := (gB.new hf).1; rw [s3.at f5] at this; cases this)
  have K7 := keep8 φ7 _ F7 (fun hf => (gB.new hf).2 h7)
  have L7 := lodA_at (st := 0) (i := 0) (n := 4) (cs := [iv c, iv 0, iv s, p]) K7 rfl rfl rfl
  have gP8 : Ps σ8 p (mkl 1 (qs.map fun q => q.2.length)) := marks_mkl qs 1 ▸ gB8.ps
  have hsum : sum (qs.map fun q => q.2.length) = tot ps := by rw [sum_tot, hps]
  have hb : (1 : Int) + (qs.map fun q => q.2.length).length + sum (qs.map fun q => q.2.length) ≤ 1099511627776 := by rw [hsum, List.length_map]; omega
  rw [← hps]
  simp only [L7, og_some', onr_ret, gval_true, gval_false, pickV_true, pickV_false, apick_true, apick_false, gpick_true, gpick_false, ibin_leq, ibin_geq, ibin_lss, ibin_gtr, ibin_eql, ibin_neq, sbin_eql, sbin_neq, aun_not, Bool.not_true, Bool.not_false, decide_true, decide_false, if_true, if_false, Bool.false_eq_true, fldA_ptr, fldA_rop, anil_ptr, lenStr_str, amm_max, amm_min, Nat.zero_add, Nat.add_zero, List.length_cons, List.length_nil, Nat.reduceAdd]
  refine c_laws_heldSegsResult gP8 (by omega) hb ?_
  rw [hsum]
  have gm : ¬ 1 + (tot ps : Int) < 0 := by omega
  simp only [gm, og_some', onr_ret, gval_true, gval_false, pickV_true, pickV_false, apick_true, apick_false, gpick_true, gpick_false, ibin_leq, ibin_geq, ibin_lss, ibin_gtr, ibin_eql, ibin_neq, sbin_eql, sbin_neq, aun_not, Bool.not_true, Bool.not_false, decide_true, decide_false, if_true, if_false, Bool.false_eq_true, fldA_ptr, fldA_rop, anil_ptr, lenStr_str, amm_max, amm_min, Nat.zero_add, Nat.add_zero, List.length_cons, List.length_nil, Nat.reduceAdd]
  refine c_laws_toInt64S (hN _) b0 fun ψ3 g3 => ?_
  have s9 : AH.Sub σ8 (σ8.set ψ3 ⟨0, 1, xs.map fun x => [iv x]⟩) := sub_set (.refl _) g3
  have DB := copy_buf (σ := σ8) (φ := ψ3) (xs := xs)
  generalize σ8.set ψ3 ⟨0, 1, xs.map fun x => [iv x]⟩ = σ9 at s9 DB ⊢
  simp only [og_some', onr_ret, gval_true, gval_false, pickV_true, pickV_false, apick_true, apick_false, gpick_true, gpick_false, ibin_leq, ibin_geq, ibin_lss, ibin_gtr, ibin_eql, ibin_neq, sbin_eql, sbin_neq, aun_not, Bool.not_true, Bool.not_false, decide_true, decide_false, if_true, if_false, Bool.false_eq_true, fldA_ptr, fldA_rop, anil_ptr, lenStr_str, amm_max, amm_min, Nat.zero_add, Nat.add_zero, List.length_cons, List.length_nil, Nat.reduceAdd]
  refine c_impl_OpenSegs (Buf.cs DB) b0 fun σ10 c2 s2' p2 qs2 s10 hB hO2 => ?_
  obtain ⟨rfl, rfl, hps2⟩ := hO.unique hO2
  simp only [new_eq, og_some', onr_ret, gval_true, gval_false, pickV_true, pickV_false, apick_true, apick_false, gpick_true, gpick_false, ibin_leq, ibin_geq, ibin_lss, ibin_gtr, ibin_eql, ibin_neq, sbin_eql, sbin_neq, aun_not, Bool.not_true, Bool.not_false, decide_true, decide_false, if_true, if_false, Bool.false_eq_true, fldA_ptr, fldA_rop, anil_ptr, lenStr_str, amm_max, amm_min, Nat.zero_add, Nat.add_zero, List.length_cons, List.length_nil, Nat.reduceAdd]
  intro φ11 h11
  refine put_new4 h11 rfl hB.out.one.2 fun σ11 s11 f11 k11 => ?_
  have s811 := (s9.trans s10).trans s11
  have M5 := lodA_at (st := 0) (i := 0) (n := 4) (cs := [iv c, iv 0, iv s, roP ps]) (s811.at K5) rfl rfl rfl
  have M7 := lodA_at (st := 0) (i := 0) (n := 4) (cs := [iv c, iv 0, iv s, p]) (s811.at K7) rfl rfl rfl
  have M11 := lodA_at (st := 0) (i := 0) (n := 4) (cs := [iv c, iv 0, iv s, p2]) f11 rfl rfl rfl
  have hP : Ps σ11 p2 ps := hps2 ▸ ((hB.sub (dif_sub _ _)).sub s11).ps
  simp only [M5, M11, og_some', onr_ret, gval_true, gval_false, pickV_true, pickV_false, apick_true, apick_false, gpick_true, gpick_false, ibin_leq, ibin_geq, ibin_lss, ibin_gtr, ibin_eql, ibin_neq, sbin_eql, sbin_neq, aun_not, Bool.not_true, Bool.not_false, decide_true, decide_false, if_true, if_false, Bool.false_eq_true, fldA_ptr, fldA_rop, anil_ptr, lenStr_str, amm_max, amm_min, Nat.zero_add, Nat.add_zero, List.length_cons, List.length_nil, Nat.reduceAdd]
  refine c_laws_eqSegsResult hP (Ps.ro ..) b1 b2 ?_
  simp only [Bool.and_self, M7, og_some', onr_ret, gval_true, gval_false, pickV_true, pickV_false, apick_true, apick_false, gpick_true, gpick_false, ibin_leq, ibin_geq, ibin_lss, ibin_gtr, ibin_eql, ibin_neq, sbin_eql, sbin_neq, aun_not, Bool.not_true, Bool.not_false, decide_true, decide_false, if_true, if_false, Bool.false_eq_true, fldA_ptr, fldA_rop, anil_ptr, lenStr_str, amm_max, amm_min, Nat.zero_add, Nat.add_zero, List.length_cons, List.length_nil, Nat.reduceAdd]
  refine c_laws_heldSegsResult (gP8.sub s811) (by omega) hb ?_
  rw [hsum]
  simp only [gm, og_some', onr_ret, gval_true, gval_false, pickV_true, pickV_false, apick_true, apick_false, gpick_true, gpick_false, ibin_leq, ibin_geq, ibin_lss, ibin_gtr, ibin_eql, ibin_neq, sbin_eql, sbin_neq, aun_not, Bool.not_true, Bool.not_false, decide_true, decide_false, if_true, if_false, Bool.false_eq_true, fldA_ptr, fldA_rop, anil_ptr, lenStr_str, amm_max, amm_min, Nat.zero_add, Nat.add_zero, List.length_cons, List.length_nil, Nat.reduceAdd]
  -- the caller's heap is as it was
  refine aret_sub (σ' := σ) ?_ h
  intro χ F hF
  have a2 := s2.at (s0.at hF)
  have a6 := s36.at (s3.at a2)
  have n1 : χ ≠ ψ1 := by rintro rfl; rw [a2] at g1; cases g1
  have a7 : σ7 χ = some F := by rw [keep7 χ n1]; exact a6
  exact s811.at (keep8 χ F a7 fun hf => by have := (gB.new hf).1; rw [s3.at a2] at this; cases this)
end Go.Proofs.Ytjfdgijgkbojnaa.E
