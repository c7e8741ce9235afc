/- Stacks of pieces: measured, copied, compared. -/
import Derived.Test.YtjfdgijgkbojnaaE36
import Derived.Test.YtjfdgijgkbojnaaH1
import Derived.Test.YtjfdgijgkbojnaaH2
set_option linter.unusedSectionVars false
set_option linter.unusedSimpArgs false
set_option linter.unusedVariables false
namespace Go.Proofs.Ytjfdgijgkbojnaa.E
open Go Go.RowKit
variable [Lam]
variable {σ : AH} {R : AEnd → AH → Prop}
abbrev Ns (σ : AH) (a : AV) (xs : List Int) : Prop := Cs iv σ a xs
abbrev roN (xs : List Int) : AV := .ro (xs.map fun x => [iv x])
/-- A list of lists of numbers. -/
def Ps (σ : AH) (a : AV) (ps : List (List Int)) : Prop := ∃ qs : List (AV × List Int), qs.map Prod.snd = ps ∧ Cs Prod.fst σ a qs ∧ ∀ q, q ∈ qs → Ns σ q.1 q.2
abbrev roP (ps : List (List Int)) : AV := .ro (ps.map fun p => [roN p])
theorem Ps.sub {σ' : AH} {a : AV} {ps : List (List Int)} (h : Ps σ a ps) (s : AH.Sub σ σ') : Ps σ' a ps := by
  obtain ⟨qs, h1, h2, h3⟩ := h
  exact ⟨qs, h1, h2.sub s, fun q hq => (h3 q hq).sub s⟩
theorem Ps.ro (σ : AH) (ps : List (List Int)) : Ps σ (roP ps) ps := by
  refine ⟨ps.map fun p => (roN p, p), by simp [Function.comp_def], ?_, ?_⟩
  · have := Cs.ro Prod.fst σ (ps.map fun p => (roN p, p))
    simpa [Function.comp_def] using this
  · intro q hq
    obtain ⟨p, _, rfl⟩ := List.mem_map.1 hq
    exact Cs.ro ..
theorem Ps.len {a : AV} {ps : List (List Int)} (h : Ps σ a ps) : lenS a = some (.val (.int .i64 ps.length)) := by
  obtain ⟨qs, rfl, h2, h3⟩ := h
  simpa using h2.len
theorem Ps.at {a : AV} {ps : List (List Int)} (h : Ps σ a ps) {i : Nat} (hi : i < ps.length) :
    ∃ p q p', idx 1 a (.val (.int .i64 (i : Int))) σ = some p ∧ lodA 1 p σ = some (.agg [q]) ∧ fldA 0 p = some p' ∧ lod p' σ = some q ∧ Ns σ q ps[i] := by
  obtain ⟨qs, rfl, h2, h3⟩ := h
  have hi' : i < qs.length := by simpa using hi
  obtain ⟨p, k1, _, k2⟩ := h2.at hi'
  obtain ⟨p', k3, k4⟩ := k2.fld 0 (by simp)
  refine ⟨p, qs[i].1, p', k1, by simpa using k2.lodA (n := 1) (by simp), k3, by simpa using k4, ?_⟩
  simpa using h3 _ (List.getElem_mem hi')
theorem Ps.fz {σ' : AH} {a : AV} {ps : List (List Int)} (h : Ps (dif σ σ') a ps) : Fz σ σ' a (roP ps) := by
  obtain ⟨qs, rfl, h2, h3⟩ := h
  have := Cs.fz (g := fun q : AV × List Int => roN q.2) h2 fun q hq => Cs.fz (g := iv) (h3 q hq) fun x _ => .same _
  simpa [roP, Function.comp_def] using this
/-- A list of lists that may be written into, each of its own. -/
structure PB (σ : AH) (a : AV) (qs : List (AV × List Int)) : Prop where
  out : Buf σ 1 a (qs.map fun q => [q.1])
  ins : ∀ q, q ∈ qs → Buf σ 1 q.1 (q.2.map fun x => [iv x])
  sep : ∀ q, q ∈ qs → ∀ ψ, Buf.fam q.1 ψ → ¬ Buf.fam a ψ
  pair : qs.Pairwise fun q r => ∀ ψ, Buf.fam q.1 ψ → ¬ Buf.fam r.1 ψ
theorem PB.ps {a : AV} {qs : List (AV × List Int)} (h : PB σ a qs) : Ps σ a (qs.map Prod.snd) := ⟨qs, rfl, Buf.cs h.out, fun q hq => Buf.cs (h.ins q hq)⟩
theorem PB.sub {σ' : AH} {a : AV} {qs : List (AV × List Int)} (h : PB σ a qs) (s : AH.Sub σ σ') : PB σ' a qs := ⟨h.out.sub s, fun q hq => (h.ins q hq).sub s, h.sep, h.pair⟩
def tot : List (List Int) → Nat
  | [] => 0
  | p :: ps => p.length + tot ps
theorem tot_take (ps : List (List Int)) {i : Nat} (hi : i < ps.length) : tot (ps.take (i + 1)) = tot (ps.take i) + ps[i].length := by
  induction ps generalizing i with
  | nil => cases hi
  | cons s ps ih =>
    cases i with
    | zero => simp [tot]
    | succ i =>
      have := ih (i := i) (by simpa using hi)
      simp only [List.take_succ_cons, tot, this, List.getElem_cons_succ]; omega
theorem tot_take_le (ps : List (List Int)) (i : Nat) : tot (ps.take i) ≤ tot ps := by
  induction ps generalizing i with
  | nil => simp
  | cons s ps ih =>
    cases i with
    | zero => simp [tot]
    | succ i => have := ih i; simp only [List.take_succ_cons, tot]; omega
theorem tot_at (ps : List (List Int)) {i : Nat} (hi : i < ps.length) : tot (ps.take i) + ps[i].length ≤ tot ps := by
  rw [← tot_take ps hi]; exact tot_take_le ps _
theorem tot_flatten (ps : List (List Int)) : ps.flatten.length = tot ps := by
  induction ps with
  | nil => rfl
  | cons p ps ih => simp [tot] at ih ⊢; omega

/-! ### measured -/
theorem c_laws_szInt64S {a : AV} {xs : List Int} {L : Int} (hS : Ns σ a xs) (h0 : 0 ≤ L) (h1 : L ≤ 1048576) (hl : xs.length ≤ maxLen)
    (h : ∀ r : Int, -1 ≤ r → r ≤ L → (0 ≤ r → r + xs.length = L) → (r < 0 → L < xs.length) → R (.ret (iv r)) σ) : acall TP fn_laws_szInt64S [a, iv L] σ R := by
  have hM : maxLen = 9223372036854775807 := by decide
  refine s_laws_szInt64S_ok ?_
  unfold s_laws_szInt64S
  simp only [hS.len, ibin_sub (a := L) (b := xs.length) (by omega) (by omega), og_some', onr_ret, gval_true, gval_false, pickV_true, pickV_false, apick_true, apick_false, gpick_true, gpick_false, ibin_leq, ibin_geq, ibin_lss, ibin_gtr, ibin_eql, ibin_neq, sbin_eql, sbin_neq, aun_not, Bool.not_true, Bool.not_false, decide_true, decide_false, if_true, if_false, Bool.false_eq_true, fldA_ptr, fldA_rop, anil_ptr, lenStr_str, amm_max, amm_min, Nat.zero_add, Nat.add_zero, List.length_cons, List.length_nil, Nat.reduceAdd]
  by_cases hc : L - xs.length < 0
  · simp only [hc, og_some', onr_ret, gval_true, gval_false, pickV_true, pickV_false, apick_true, apick_false, gpick_true, gpick_false, ibin_leq, ibin_geq, ibin_lss, ibin_gtr, ibin_eql, ibin_neq, sbin_eql, sbin_neq, aun_not, Bool.not_true, Bool.not_false, decide_true, decide_false, if_true, if_false, Bool.false_eq_true, fldA_ptr, fldA_rop, anil_ptr, lenStr_str, amm_max, amm_min, Nat.zero_add, Nat.add_zero, List.length_cons, List.length_nil, Nat.reduceAdd]
    exact ret_here (h (-1) (by omega) (by omega) (by omega) (by omega))
  · simp only [hc, og_some', onr_ret, gval_true, gval_false, pickV_true, pickV_false, apick_true, apick_false, gpick_true, gpick_false, ibin_leq, ibin_geq, ibin_lss, ibin_gtr, ibin_eql, ibin_neq, sbin_eql, sbin_neq, aun_not, Bool.not_true, Bool.not_false, decide_true, decide_false, if_true, if_false, Bool.false_eq_true, fldA_ptr, fldA_rop, anil_ptr, lenStr_str, amm_max, amm_min, Nat.zero_add, Nat.add_zero, List.length_cons, List.length_nil, Nat.reduceAdd]
    exact ret_here (h _ (by omega) (by omega) (by omega) (by omega))
theorem c_laws_szSegPart {q : AV} {xs : List Int} {L : Int} (hS : Ns σ q xs) (h0 : 0 ≤ L) (h1 : L ≤ 1048576) (hl : xs.length ≤ maxLen)
    (h : ∀ r : Int, -1 ≤ r → r ≤ L → (0 ≤ r → r + xs.length = L) → (r < 0 → L < xs.length) → R (.ret (iv r)) σ) : acall TP fn_laws_szSegPart [.agg [q], iv L] σ R := by
  refine s_laws_szSegPart_ok ?_
  unfold s_laws_szSegPart
  simp only [abox_agg, og_some', onr_ret, gval_true, gval_false, pickV_true, pickV_false, apick_true, apick_false, gpick_true, gpick_false, ibin_leq, ibin_geq, ibin_lss, ibin_gtr, ibin_eql, ibin_neq, sbin_eql, sbin_neq, aun_not, Bool.not_true, Bool.not_false, decide_true, decide_false, if_true, if_false, Bool.false_eq_true, fldA_ptr, fldA_rop, anil_ptr, lenStr_str, amm_max, amm_min, Nat.zero_add, Nat.add_zero, List.length_cons, List.length_nil, Nat.reduceAdd]
  intro φ hφ
  have hs : AH.Sub σ (σ.set φ ⟨0, 1, [[q]]⟩) := sub_set (.refl σ) hφ
  have e := lod_at (σ := σ.set φ ⟨0, 1, [[q]]⟩) (φ := φ) (st := 0) (i := 0) (off := 0) (c := q) (AH.set_same ..) rfl rfl
  simp only [e, og_some', onr_ret, gval_true, gval_false, pickV_true, pickV_false, apick_true, apick_false, gpick_true, gpick_false, ibin_leq, ibin_geq, ibin_lss, ibin_gtr, ibin_eql, ibin_neq, sbin_eql, sbin_neq, aun_not, Bool.not_true, Bool.not_false, decide_true, decide_false, if_true, if_false, Bool.false_eq_true, fldA_ptr, fldA_rop, anil_ptr, lenStr_str, amm_max, amm_min, Nat.zero_add, Nat.add_zero, List.length_cons, List.length_nil, Nat.reduceAdd]
  refine c_laws_szInt64S (hS.sub hs) h0 h1 hl fun r r0 r1 r2 r3 => ?_
  simp only [og_some', onr_ret, gval_true, gval_false, pickV_true, pickV_false, apick_true, apick_false, gpick_true, gpick_false, ibin_leq, ibin_geq, ibin_lss, ibin_gtr, ibin_eql, ibin_neq, sbin_eql, sbin_neq, aun_not, Bool.not_true, Bool.not_false, decide_true, decide_false, if_true, if_false, Bool.false_eq_true, fldA_ptr, fldA_rop, anil_ptr, lenStr_str, amm_max, amm_min, Nat.zero_add, Nat.add_zero, List.length_cons, List.length_nil, Nat.reduceAdd]
  by_cases hc : r < 0
  · simp only [hc, og_some', onr_ret, gval_true, gval_false, pickV_true, pickV_false, apick_true, apick_false, gpick_true, gpick_false, ibin_leq, ibin_geq, ibin_lss, ibin_gtr, ibin_eql, ibin_neq, sbin_eql, sbin_neq, aun_not, Bool.not_true, Bool.not_false, decide_true, decide_false, if_true, if_false, Bool.false_eq_true, fldA_ptr, fldA_rop, anil_ptr, lenStr_str, amm_max, amm_min, Nat.zero_add, Nat.add_zero, List.length_cons, List.length_nil, Nat.reduceAdd]
    exact aret_sub hs (h (-1) (by omega) (by omega) (by omega) (fun _ => r3 hc))
  · simp only [hc, og_some', onr_ret, gval_true, gval_false, pickV_true, pickV_false, apick_true, apick_false, gpick_true, gpick_false, ibin_leq, ibin_geq, ibin_lss, ibin_gtr, ibin_eql, ibin_neq, sbin_eql, sbin_neq, aun_not, Bool.not_true, Bool.not_false, decide_true, decide_false, if_true, if_false, Bool.false_eq_true, fldA_ptr, fldA_rop, anil_ptr, lenStr_str, amm_max, amm_min, Nat.zero_add, Nat.add_zero, List.length_cons, List.length_nil, Nat.reduceAdd]
    exact aret_sub hs (h _ r0 r1 r2 r3)
theorem c_laws_szSegPartS {a : AV} {ps : List (List Int)} {L : Int} (hS : Ps σ a ps) (h0 : 0 ≤ L) (h1 : L ≤ 1048576) (hl : ps.length ≤ maxLen) (hm : ∀ p, p ∈ ps → p.length ≤ maxLen)
    (h : ∀ r : Int, -1 ≤ r → r ≤ L → (0 ≤ r → r + ps.length + tot ps = L) → R (.ret (iv r)) σ) : acall TP fn_laws_szSegPartS [a, iv L] σ R := by
  have hM : maxLen = 9223372036854775807 := by decide
  refine s_laws_szSegPartS_ok ?_
  unfold s_laws_szSegPartS
  simp only [hS.len, ibin_sub (a := L) (b := ps.length) (by omega) (by omega), og_some', onr_ret, gval_true, gval_false, pickV_true, pickV_false, apick_true, apick_false, gpick_true, gpick_false, ibin_leq, ibin_geq, ibin_lss, ibin_gtr, ibin_eql, ibin_neq, sbin_eql, sbin_neq, aun_not, Bool.not_true, Bool.not_false, decide_true, decide_false, if_true, if_false, Bool.false_eq_true, fldA_ptr, fldA_rop, anil_ptr, lenStr_str, amm_max, amm_min, Nat.zero_add, Nat.add_zero, List.length_cons, List.length_nil, Nat.reduceAdd]
  by_cases hc : L - ps.length < 0
  · simp only [hc, og_some', onr_ret, gval_true, gval_false, pickV_true, pickV_false, apick_true, apick_false, gpick_true, gpick_false, ibin_leq, ibin_geq, ibin_lss, ibin_gtr, ibin_eql, ibin_neq, sbin_eql, sbin_neq, aun_not, Bool.not_true, Bool.not_false, decide_true, decide_false, if_true, if_false, Bool.false_eq_true, fldA_ptr, fldA_rop, anil_ptr, lenStr_str, amm_max, amm_min, Nat.zero_add, Nat.add_zero, List.length_cons, List.length_nil, Nat.reduceAdd]
    exact ret_here (h (-1) (by omega) (by omega) (by omega))
  simp only [hc, og_some', onr_ret, gval_true, gval_false, pickV_true, pickV_false, apick_true, apick_false, gpick_true, gpick_false, ibin_leq, ibin_geq, ibin_lss, ibin_gtr, ibin_eql, ibin_neq, sbin_eql, sbin_neq, aun_not, Bool.not_true, Bool.not_false, decide_true, decide_false, if_true, if_false, Bool.false_eq_true, fldA_ptr, fldA_rop, anil_ptr, lenStr_str, amm_max, amm_min, Nat.zero_add, Nat.add_zero, List.length_cons, List.length_nil, Nat.reduceAdd]
  refine lp_same ps.length (fun i => (a, iv (L - ps.length - tot (ps.take i)), iv i, ())) (fun i => (tot (ps.take i) : Int) ≤ L - ps.length) (by simp [tot, iv]; rfl) (by simp [tot]; omega) ?_
  intro i hi hle R' hR'
  simp only [hS.len, og_some', onr_ret, gval_true, gval_false, pickV_true, pickV_false, apick_true, apick_false, gpick_true, gpick_false, ibin_leq, ibin_geq, ibin_lss, ibin_gtr, ibin_eql, ibin_neq, sbin_eql, sbin_neq, aun_not, Bool.not_true, Bool.not_false, decide_true, decide_false, if_true, if_false, Bool.false_eq_true, fldA_ptr, fldA_rop, anil_ptr, lenStr_str, amm_max, amm_min, Nat.zero_add, Nat.add_zero, List.length_cons, List.length_nil, Nat.reduceAdd]
  by_cases hlt : i < ps.length
  · have : (i : Int) < ps.length := by omega
    obtain ⟨p, q, p', hp, hq, _, _, hN⟩ := hS.at hlt
    have hb := hm _ (List.getElem_mem hlt)
    have hT := tot_take ps hlt
    simp only [this, hp, hq, og_some', onr_ret, gval_true, gval_false, pickV_true, pickV_false, apick_true, apick_false, gpick_true, gpick_false, ibin_leq, ibin_geq, ibin_lss, ibin_gtr, ibin_eql, ibin_neq, sbin_eql, sbin_neq, aun_not, Bool.not_true, Bool.not_false, decide_true, decide_false, if_true, if_false, Bool.false_eq_true, fldA_ptr, fldA_rop, anil_ptr, lenStr_str, amm_max, amm_min, Nat.zero_add, Nat.add_zero, List.length_cons, List.length_nil, Nat.reduceAdd]
    refine c_laws_szSegPart hN (by omega) (by omega) hb fun r r0 r1 r2 _ => ?_
    simp only [og_some', onr_ret, gval_true, gval_false, pickV_true, pickV_false, apick_true, apick_false, gpick_true, gpick_false, ibin_leq, ibin_geq, ibin_lss, ibin_gtr, ibin_eql, ibin_neq, sbin_eql, sbin_neq, aun_not, Bool.not_true, Bool.not_false, decide_true, decide_false, if_true, if_false, Bool.false_eq_true, fldA_ptr, fldA_rop, anil_ptr, lenStr_str, amm_max, amm_min, Nat.zero_add, Nat.add_zero, List.length_cons, List.length_nil, Nat.reduceAdd]
    by_cases hc : r < 0
    · simp only [hc, og_some', onr_ret, gval_true, gval_false, pickV_true, pickV_false, apick_true, apick_false, gpick_true, gpick_false, ibin_leq, ibin_geq, ibin_lss, ibin_gtr, ibin_eql, ibin_neq, sbin_eql, sbin_neq, aun_not, Bool.not_true, Bool.not_false, decide_true, decide_false, if_true, if_false, Bool.false_eq_true, fldA_ptr, fldA_rop, anil_ptr, lenStr_str, amm_max, amm_min, Nat.zero_add, Nat.add_zero, List.length_cons, List.length_nil, Nat.reduceAdd]
      exact ret_here (h (-1) (by omega) (by omega) (by omega))
    · simp only [hc, ibin_up hlt (by omega), og_some', onr_ret, gval_true, gval_false, pickV_true, pickV_false, apick_true, apick_false, gpick_true, gpick_false, ibin_leq, ibin_geq, ibin_lss, ibin_gtr, ibin_eql, ibin_neq, sbin_eql, sbin_neq, aun_not, Bool.not_true, Bool.not_false, decide_true, decide_false, if_true, if_false, Bool.false_eq_true, fldA_ptr, fldA_rop, anil_ptr, lenStr_str, amm_max, amm_min, Nat.zero_add, Nat.add_zero, List.length_cons, List.length_nil, Nat.reduceAdd]
      have e : r = L - ps.length - tot (ps.take (i + 1)) := by have := r2 (by omega); omega
      rw [e]
      exact hR' hlt (by omega) _ (.refl _)
  · have : ¬ (i : Int) < ps.length := by omega
    obtain rfl : i = ps.length := by omega
    rw [List.take_length] at hle ⊢
    simp only [this, og_some', onr_ret, gval_true, gval_false, pickV_true, pickV_false, apick_true, apick_false, gpick_true, gpick_false, ibin_leq, ibin_geq, ibin_lss, ibin_gtr, ibin_eql, ibin_neq, sbin_eql, sbin_neq, aun_not, Bool.not_true, Bool.not_false, decide_true, decide_false, if_true, if_false, Bool.false_eq_true, fldA_ptr, fldA_rop, anil_ptr, lenStr_str, amm_max, amm_min, Nat.zero_add, Nat.add_zero, List.length_cons, List.length_nil, Nat.reduceAdd]
    exact ret_here (h _ (by omega) (by omega) (by omega))
abbrev Sg (σ : AH) (v : AV) (size : Int) (ps : List (List Int)) : Prop := ∃ p, v = .agg [iv size, p] ∧ Ps σ p ps
abbrev roG (size : Int) (ps : List (List Int)) : AV := .agg [iv size, roP ps]
theorem c_laws_szSegs {p : AV} {size : Int} {ps : List (List Int)} {L : Int} (hS : Ps σ p ps) (h0 : 0 ≤ L) (h1 : L ≤ 1048576) (hl : ps.length ≤ maxLen) (hm : ∀ p, p ∈ ps → p.length ≤ maxLen)
    (h : ∀ r : Int, -1 ≤ r → r ≤ L → (0 ≤ r → r + ps.length + tot ps = L) → R (.ret (iv r)) σ) : acall TP fn_laws_szSegs [.agg [iv size, p], iv L] σ R := by
  refine s_laws_szSegs_ok ?_
  unfold s_laws_szSegs
  simp only [abox_agg, og_some', onr_ret, gval_true, gval_false, pickV_true, pickV_false, apick_true, apick_false, gpick_true, gpick_false, ibin_leq, ibin_geq, ibin_lss, ibin_gtr, ibin_eql, ibin_neq, sbin_eql, sbin_neq, aun_not, Bool.not_true, Bool.not_false, decide_true, decide_false, if_true, if_false, Bool.false_eq_true, fldA_ptr, fldA_rop, anil_ptr, lenStr_str, amm_max, amm_min, Nat.zero_add, Nat.add_zero, List.length_cons, List.length_nil, Nat.reduceAdd]
  intro φ hφ
  have hs : AH.Sub σ (σ.set φ ⟨0, 2, [[iv size, p]]⟩) := sub_set (.refl σ) hφ
  have e := lod_at (σ := σ.set φ ⟨0, 2, [[iv size, p]]⟩) (φ := φ) (st := 0) (i := 0) (off := 1) (c := p) (AH.set_same ..) rfl rfl
  simp only [e, og_some', onr_ret, gval_true, gval_false, pickV_true, pickV_false, apick_true, apick_false, gpick_true, gpick_false, ibin_leq, ibin_geq, ibin_lss, ibin_gtr, ibin_eql, ibin_neq, sbin_eql, sbin_neq, aun_not, Bool.not_true, Bool.not_false, decide_true, decide_false, if_true, if_false, Bool.false_eq_true, fldA_ptr, fldA_rop, anil_ptr, lenStr_str, amm_max, amm_min, Nat.zero_add, Nat.add_zero, List.length_cons, List.length_nil, Nat.reduceAdd]
  refine c_laws_szSegPartS (hS.sub hs) h0 h1 hl hm fun r r0 r1 r2 => ?_
  simp only [og_some', onr_ret, gval_true, gval_false, pickV_true, pickV_false, apick_true, apick_false, gpick_true, gpick_false, ibin_leq, ibin_geq, ibin_lss, ibin_gtr, ibin_eql, ibin_neq, sbin_eql, sbin_neq, aun_not, Bool.not_true, Bool.not_false, decide_true, decide_false, if_true, if_false, Bool.false_eq_true, fldA_ptr, fldA_rop, anil_ptr, lenStr_str, amm_max, amm_min, Nat.zero_add, Nat.add_zero, List.length_cons, List.length_nil, Nat.reduceAdd]
  by_cases hc : r < 0
  · simp only [hc, og_some', onr_ret, gval_true, gval_false, pickV_true, pickV_false, apick_true, apick_false, gpick_true, gpick_false, ibin_leq, ibin_geq, ibin_lss, ibin_gtr, ibin_eql, ibin_neq, sbin_eql, sbin_neq, aun_not, Bool.not_true, Bool.not_false, decide_true, decide_false, if_true, if_false, Bool.false_eq_true, fldA_ptr, fldA_rop, anil_ptr, lenStr_str, amm_max, amm_min, Nat.zero_add, Nat.add_zero, List.length_cons, List.length_nil, Nat.reduceAdd]
    exact aret_sub hs (h (-1) (by omega) (by omega) (by omega))
  · simp only [hc, og_some', onr_ret, gval_true, gval_false, pickV_true, pickV_false, apick_true, apick_false, gpick_true, gpick_false, ibin_leq, ibin_geq, ibin_lss, ibin_gtr, ibin_eql, ibin_neq, sbin_eql, sbin_neq, aun_not, Bool.not_true, Bool.not_false, decide_true, decide_false, if_true, if_false, Bool.false_eq_true, fldA_ptr, fldA_rop, anil_ptr, lenStr_str, amm_max, amm_min, Nat.zero_add, Nat.add_zero, List.length_cons, List.length_nil, Nat.reduceAdd]
    exact aret_sub hs (h _ r0 r1 r2)

/-! ### copied -/
set_option maxRecDepth 100000 in
theorem c_laws_toInt64S {a : AV} {xs : List Int} (hS : Ns σ a xs) (hl : xs.length ≤ 1099511627776)
    (h : ∀ φ, σ φ = none → R (.ret (.own φ 0 0 xs.length)) (σ.set φ ⟨0, 1, xs.map fun x => [iv x]⟩)) : acall TP fn_laws_toInt64S [a] σ R := by
  refine s_laws_toInt64S_ok ?_
  unfold s_laws_toInt64S
  simp only [hS.len, og_some']
  refine mk_Li (by omega) (by omega) (by omega) fun φ hφ => ?_
  simp only [Int.toNat_natCast]
  refine lp_for xs.length (fun i => (a, .own φ 0 0 xs.length, iv i, ())) (fun i σ' => σ' = σ.set φ ⟨0, 1, (xs.map fun x => [iv x]).take i ++ List.replicate (xs.length - i) [iv 0]⟩) rfl (by simp) ?_
  rintro i _ hi rfl R' hR'
  have hs : AH.Sub σ (σ.set φ ⟨0, 1, (xs.map fun x => [iv x]).take i ++ List.replicate (xs.length - i) [iv 0]⟩) := sub_set (.refl σ) hφ
  have hS' := hS.sub hs
  simp only [hS'.len, og_some', onr_ret, gval_true, gval_false, pickV_true, pickV_false, apick_true, apick_false, gpick_true, gpick_false, ibin_leq, ibin_geq, ibin_lss, ibin_gtr, ibin_eql, ibin_neq, sbin_eql, sbin_neq, aun_not, Bool.not_true, Bool.not_false, decide_true, decide_false, if_true, if_false, Bool.false_eq_true, fldA_ptr, fldA_rop, anil_ptr, lenStr_str, amm_max, amm_min, Nat.zero_add, Nat.add_zero, List.length_cons, List.length_nil, Nat.reduceAdd]
  have hml : (xs.map fun x => [iv x]).length = xs.length := by simp
  by_cases hlt : i < xs.length
  · have : (i : Int) < xs.length := by omega
    obtain ⟨p, hp, hq, _⟩ := hS'.at hlt
    simp only [this, hp, hq, idx_own (AH.set_same ..) hlt, og_some', onr_ret, gval_true, gval_false, pickV_true, pickV_false, apick_true, apick_false, gpick_true, gpick_false, ibin_leq, ibin_geq, ibin_lss, ibin_gtr, ibin_eql, ibin_neq, sbin_eql, sbin_neq, aun_not, Bool.not_true, Bool.not_false, decide_true, decide_false, if_true, if_false, Bool.false_eq_true, fldA_ptr, fldA_rop, anil_ptr, lenStr_str, amm_max, amm_min, Nat.zero_add, Nat.add_zero, List.length_cons, List.length_nil, Nat.reduceAdd]
    refine sto_own (cs := [iv xs[i]]) (AH.set_same ..) (by rw [len_rep hml hi]; exact hlt) (by rw [getD_rep hml hlt]; rfl) rfl rfl (by simp [AV.one, Value.oneCell']) ?_
    simp only [ibin_up hlt (by omega), AH.set_set, og_some', onr_ret, gval_true, gval_false, pickV_true, pickV_false, apick_true, apick_false, gpick_true, gpick_false, ibin_leq, ibin_geq, ibin_lss, ibin_gtr, ibin_eql, ibin_neq, sbin_eql, sbin_neq, aun_not, Bool.not_true, Bool.not_false, decide_true, decide_false, if_true, if_false, Bool.false_eq_true, fldA_ptr, fldA_rop, anil_ptr, lenStr_str, amm_max, amm_min, Nat.zero_add, Nat.add_zero, List.length_cons, List.length_nil, Nat.reduceAdd]
    have e := take_rep_set (z := [iv 0]) hml hlt
    simp only [List.getElem_map] at e
    rw [e]
    exact hR' hlt _ _ (.refl _) rfl
  · have : ¬ (i : Int) < xs.length := by omega
    obtain rfl : i = xs.length := by omega
    simp only [this, og_some', onr_ret, gval_true, gval_false, pickV_true, pickV_false, apick_true, apick_false, gpick_true, gpick_false, ibin_leq, ibin_geq, ibin_lss, ibin_gtr, ibin_eql, ibin_neq, sbin_eql, sbin_neq, aun_not, Bool.not_true, Bool.not_false, decide_true, decide_false, if_true, if_false, Bool.false_eq_true, fldA_ptr, fldA_rop, anil_ptr, lenStr_str, amm_max, amm_min, Nat.zero_add, Nat.add_zero, List.length_cons, List.length_nil, Nat.reduceAdd]
    have e : (xs.map fun x => [iv x]).take xs.length ++ List.replicate (xs.length - xs.length) [iv 0] = xs.map fun x => [iv x] := by
      rw [Nat.sub_self, List.replicate_zero, List.append_nil]; exact List.take_of_length_le (by simp)
    rw [e]
    exact ret_here (h φ hφ)
theorem c_laws_toSegPart {q : AV} {xs : List Int} (hS : Ns σ q xs) (hl : xs.length ≤ 1099511627776)
    (h : ∀ φ σ', σ φ = none → AH.Sub σ σ' → σ' φ = some ⟨0, 1, xs.map fun x => [iv x]⟩ → R (.ret (.agg [.own φ 0 0 xs.length])) σ') : acall TP fn_laws_toSegPart [.agg [q]] σ R := by
  refine s_laws_toSegPart_ok ?_
  unfold s_laws_toSegPart
  simp only [abox_agg, new_eq, og_some', onr_ret, gval_true, gval_false, pickV_true, pickV_false, apick_true, apick_false, gpick_true, gpick_false, ibin_leq, ibin_geq, ibin_lss, ibin_gtr, ibin_eql, ibin_neq, sbin_eql, sbin_neq, aun_not, Bool.not_true, Bool.not_false, decide_true, decide_false, if_true, if_false, Bool.false_eq_true, fldA_ptr, fldA_rop, anil_ptr, lenStr_str, amm_max, amm_min, Nat.zero_add, Nat.add_zero, List.length_cons, List.length_nil, Nat.reduceAdd]
  intro φ1 h1 φ2 h2 φ3 h3
  simp only [AH.set_none] at h2 h3
  obtain ⟨n21, h2⟩ := h2
  obtain ⟨n32, n31, h3⟩ := h3
  have e : lod (.ptr φ1 0 0 0) (((σ.set φ1 ⟨0, 1, [[q]]⟩).set φ2 ⟨0, 1, [[nilS]]⟩).set φ3 ⟨0, 1, [[nilS]]⟩) = some q := by
    refine lod_at (F := ⟨0, 1, [[q]]⟩) ?_ rfl rfl
    rw [AH.set_ne' (Ne.symm n31), AH.set_ne' (Ne.symm n21), AH.set_same]
  simp only [e, og_some', onr_ret, gval_true, gval_false, pickV_true, pickV_false, apick_true, apick_false, gpick_true, gpick_false, ibin_leq, ibin_geq, ibin_lss, ibin_gtr, ibin_eql, ibin_neq, sbin_eql, sbin_neq, aun_not, Bool.not_true, Bool.not_false, decide_true, decide_false, if_true, if_false, Bool.false_eq_true, fldA_ptr, fldA_rop, anil_ptr, lenStr_str, amm_max, amm_min, Nat.zero_add, Nat.add_zero, List.length_cons, List.length_nil, Nat.reduceAdd]
  have hs : AH.Sub σ (((σ.set φ1 ⟨0, 1, [[q]]⟩).set φ2 ⟨0, 1, [[nilS]]⟩).set φ3 ⟨0, 1, [[nilS]]⟩) := sub_set (sub_set (sub_set (.refl σ) h1) h2) h3
  refine c_laws_toInt64S (hS.sub hs) hl fun φ hφ => ?_
  simp only [AH.set_none] at hφ
  obtain ⟨m3, m2, m1, m0⟩ := hφ
  simp only [og_some', onr_ret, gval_true, gval_false, pickV_true, pickV_false, apick_true, apick_false, gpick_true, gpick_false, ibin_leq, ibin_geq, ibin_lss, ibin_gtr, ibin_eql, ibin_neq, sbin_eql, sbin_neq, aun_not, Bool.not_true, Bool.not_false, decide_true, decide_false, if_true, if_false, Bool.false_eq_true, fldA_ptr, fldA_rop, anil_ptr, lenStr_str, amm_max, amm_min, Nat.zero_add, Nat.add_zero, List.length_cons, List.length_nil, Nat.reduceAdd]
  refine sto_own (es := [[nilS]]) (by rw [AH.set_ne' (Ne.symm m3), AH.set_same]) (by simp) (by simp) (cs := [.own φ 0 0 xs.length]) rfl rfl (by simp [AV.one]) ?_
  have e2 := lodA_at (σ := ((((σ.set φ1 ⟨0, 1, [[q]]⟩).set φ2 ⟨0, 1, [[nilS]]⟩).set φ3 ⟨0, 1, [[nilS]]⟩).set φ ⟨0, 1, xs.map fun x => [iv x]⟩).set φ3 ⟨0, 1, [[.own φ 0 0 xs.length]]⟩) (φ := φ3) (st := 0) (i := 0) (n := 1) (cs := [.own φ 0 0 xs.length]) (AH.set_same ..) rfl rfl rfl
  simp only [List.set_cons_zero, e2, og_some', onr_ret, gval_true, gval_false, pickV_true, pickV_false, apick_true, apick_false, gpick_true, gpick_false, ibin_leq, ibin_geq, ibin_lss, ibin_gtr, ibin_eql, ibin_neq, sbin_eql, sbin_neq, aun_not, Bool.not_true, Bool.not_false, decide_true, decide_false, if_true, if_false, Bool.false_eq_true, fldA_ptr, fldA_rop, anil_ptr, lenStr_str, amm_max, amm_min, Nat.zero_add, Nat.add_zero, List.length_cons, List.length_nil, Nat.reduceAdd]
  refine sto_own (es := [[nilS]]) (by rw [AH.set_ne' (Ne.symm n32), AH.set_ne' (Ne.symm m2), AH.set_ne' (Ne.symm n32), AH.set_same]) (by simp) (by simp) (cs := [.own φ 0 0 xs.length]) rfl rfl (by simp [AV.one]) ?_
  simp [lodA, acellsAt]
  refine ret_here (h φ _ m0 ?_ ?_)
  · exact sub_set (sub_set (sub_set (sub_set (sub_set (sub_set (.refl σ) h1) h2) h3) m0) h3) h2
  · rw [AH.set_ne' m2, AH.set_ne' m3, AH.set_same]
set_option maxRecDepth 100000 in
theorem c_laws_toSegPartS {a : AV} {ps : List (List Int)} (hS : Ps σ a ps) (hl : ps.length ≤ 1099511627776) (hm : ∀ p, p ∈ ps → p.length ≤ 1099511627776)
    (h : ∀ v σ' qs, AH.Sub σ σ' → qs.map Prod.snd = ps → PB (dif σ σ') v qs → R (.ret v) σ') : acall TP fn_laws_toSegPartS [a] σ R := by
  refine s_laws_toSegPartS_ok ?_
  unfold s_laws_toSegPartS
  simp only [hS.len, og_some']
  refine mk_LRLiE (by omega) (by omega) (by omega) fun φ hφ => ?_
  simp only [Int.toNat_natCast]
  refine lp_for ps.length (fun i => (a, .own φ 0 0 ps.length, iv i, ()))
    (fun i σ' => ∃ qs : List (AV × List Int), qs.map Prod.snd = ps.take i ∧ σ' φ = some ⟨0, 1, qs.map (fun q => [q.1]) ++ List.replicate (ps.length - i) [nilS]⟩ ∧ AH.Sub σ σ' ∧ (∀ q, q ∈ qs → Buf (dif (σ.set φ ⟨0, 0, []⟩) σ') 1 q.1 (q.2.map fun x => [iv x])) ∧ qs.Pairwise fun q r => ∀ ψ, Buf.fam q.1 ψ → ¬ Buf.fam r.1 ψ) rfl
    ⟨[], by simp, by simp, sub_set (.refl σ) hφ, (fun q hq => by cases hq), .nil⟩ ?_
  rintro i σi hi ⟨qs, hq1, hq2, hq3, hq4, hq5⟩ R' hR'
  have hS' := hS.sub hq3
  have hql : qs.length = i := by have := congrArg List.length hq1; simp at this; omega
  simp only [hS'.len, og_some', onr_ret, gval_true, gval_false, pickV_true, pickV_false, apick_true, apick_false, gpick_true, gpick_false, ibin_leq, ibin_geq, ibin_lss, ibin_gtr, ibin_eql, ibin_neq, sbin_eql, sbin_neq, aun_not, Bool.not_true, Bool.not_false, decide_true, decide_false, if_true, if_false, Bool.false_eq_true, fldA_ptr, fldA_rop, anil_ptr, lenStr_str, amm_max, amm_min, Nat.zero_add, Nat.add_zero, List.length_cons, List.length_nil, Nat.reduceAdd]
  by_cases hlt : i < ps.length
  · have : (i : Int) < ps.length := by omega
    obtain ⟨p, q, p', hp, hq, _, _, hN⟩ := hS'.at hlt
    simp only [this, hp, hq, og_some', onr_ret, gval_true, gval_false, pickV_true, pickV_false, apick_true, apick_false, gpick_true, gpick_false, ibin_leq, ibin_geq, ibin_lss, ibin_gtr, ibin_eql, ibin_neq, sbin_eql, sbin_neq, aun_not, Bool.not_true, Bool.not_false, decide_true, decide_false, if_true, if_false, Bool.false_eq_true, fldA_ptr, fldA_rop, anil_ptr, lenStr_str, amm_max, amm_min, Nat.zero_add, Nat.add_zero, List.length_cons, List.length_nil, Nat.reduceAdd]
    refine c_laws_toSegPart hN (hm _ (List.getElem_mem hlt)) fun ψ σ2 k1 k2 k3 => ?_
    have hne : ψ ≠ φ := by rintro rfl; rw [hq2] at k1; cases k1
    have hφ2 := k2.at hq2
    simp only [idx_own hφ2 hlt, og_some', onr_ret, gval_true, gval_false, pickV_true, pickV_false, apick_true, apick_false, gpick_true, gpick_false, ibin_leq, ibin_geq, ibin_lss, ibin_gtr, ibin_eql, ibin_neq, sbin_eql, sbin_neq, aun_not, Bool.not_true, Bool.not_false, decide_true, decide_false, if_true, if_false, Bool.false_eq_true, fldA_ptr, fldA_rop, anil_ptr, lenStr_str, amm_max, amm_min, Nat.zero_add, Nat.add_zero, List.length_cons, List.length_nil, Nat.reduceAdd]
    refine sto_own (cs := [.own ψ 0 0 ps[i].length]) hφ2 (by simp; omega) (by rw [getD_end (by simpa using hql) (by omega)]; rfl) rfl rfl (by simp [AV.one]) ?_
    simp only [ibin_up hlt (by omega), og_some', onr_ret, gval_true, gval_false, pickV_true, pickV_false, apick_true, apick_false, gpick_true, gpick_false, ibin_leq, ibin_geq, ibin_lss, ibin_gtr, ibin_eql, ibin_neq, sbin_eql, sbin_neq, aun_not, Bool.not_true, Bool.not_false, decide_true, decide_false, if_true, if_false, Bool.false_eq_true, fldA_ptr, fldA_rop, anil_ptr, lenStr_str, amm_max, amm_min, Nat.zero_add, Nat.add_zero, List.length_cons, List.length_nil, Nat.reduceAdd]
    refine hR' hlt _ _ (.refl _) ⟨qs ++ [(.own ψ 0 0 ps[i].length, ps[i])], ?_, ?_, ?_, ?_, ?_⟩
    · rw [List.map_append, hq1, List.take_succ_eq_append_getElem hlt]; rfl
    · rw [AH.set_same]
      rw [set_end (by simpa using hql) (by omega), List.map_append, List.append_assoc]
      rfl
    · exact sub_set (hq3.trans k2) hφ
    · intro x hx
      rw [dif_set (AH.set_same ..)]
      rcases List.mem_append.1 hx with hx | hx
      · exact (hq4 x hx).sub (dif_mono (.refl _) k2)
      · obtain rfl := List.mem_singleton.1 hx
        refine .inr ⟨ψ, 0, by simp, ?_⟩
        rw [dif_at (by rw [AH.set_ne' hne]; exact hq3.none k1)]
        exact k3
    · rw [List.pairwise_append]
      refine ⟨hq5, List.pairwise_singleton _ _, ?_⟩
      intro x hx y hy χ f1 f2
      obtain rfl := List.mem_singleton.1 hy
      obtain ⟨_, _, _, e⟩ := f2
      cases e
      obtain ⟨F, hF⟩ := (hq4 x hx).fam_some f1
      have := (dif_some hF).2
      rw [k1] at this; cases this
  · have : ¬ (i : Int) < ps.length := by omega
    obtain rfl : i = ps.length := by omega
    simp only [this, og_some', onr_ret, gval_true, gval_false, pickV_true, pickV_false, apick_true, apick_false, gpick_true, gpick_false, ibin_leq, ibin_geq, ibin_lss, ibin_gtr, ibin_eql, ibin_neq, sbin_eql, sbin_neq, aun_not, Bool.not_true, Bool.not_false, decide_true, decide_false, if_true, if_false, Bool.false_eq_true, fldA_ptr, fldA_rop, anil_ptr, lenStr_str, amm_max, amm_min, Nat.zero_add, Nat.add_zero, List.length_cons, List.length_nil, Nat.reduceAdd]
    have hsub : AH.Sub (dif (σ.set φ ⟨0, 0, []⟩) σi) (dif σ σi) := dif_mono (sub_set (.refl σ) hφ) (.refl _)
    refine ret_here (h _ _ qs hq3 (by simpa using hq1) ⟨?_, fun q hq => (hq4 q hq).sub hsub, ?_, hq5⟩)
    · refine .inr ⟨φ, 0, by simp [hql], ?_⟩
      rw [dif_at hφ, hq2]; simp
    · intro q hq ψ f1 f2
      obtain ⟨_, _, _, e⟩ := f2
      cases e
      obtain ⟨F, hF⟩ := (hq4 q hq).fam_some f1
      have := (dif_some hF).1
      simp at this
theorem c_laws_toSegs {p : AV} {size : Int} {ps : List (List Int)} (hS : Ps σ p ps) (hl : ps.length ≤ 1099511627776) (hm : ∀ p, p ∈ ps → p.length ≤ 1099511627776)
    (h : ∀ v σ' qs, AH.Sub σ σ' → qs.map Prod.snd = ps → PB (dif σ σ') v qs → R (.ret (.agg [iv size, v])) σ') : acall TP fn_laws_toSegs [.agg [iv size, p]] σ R := by
  refine s_laws_toSegs_ok ?_
  unfold s_laws_toSegs
  simp only [abox_agg, new_eq, og_some', onr_ret, gval_true, gval_false, pickV_true, pickV_false, apick_true, apick_false, gpick_true, gpick_false, ibin_leq, ibin_geq, ibin_lss, ibin_gtr, ibin_eql, ibin_neq, sbin_eql, sbin_neq, aun_not, Bool.not_true, Bool.not_false, decide_true, decide_false, if_true, if_false, Bool.false_eq_true, fldA_ptr, fldA_rop, anil_ptr, lenStr_str, amm_max, amm_min, Nat.zero_add, Nat.add_zero, List.length_cons, List.length_nil, Nat.reduceAdd]
  intro φ1 h1 φ2 h2 φ3 h3
  simp only [AH.set_none] at h2 h3
  obtain ⟨n21, h2⟩ := h2
  obtain ⟨n32, n31, h3⟩ := h3
  have g1 : ((((σ.set φ1 ⟨0, 2, [[iv size, p]]⟩).set φ2 ⟨0, 2, [[iv 0, nilS]]⟩).set φ3 ⟨0, 2, [[iv 0, nilS]]⟩)) φ1 = some ⟨0, 2, [[iv size, p]]⟩ := by
    rw [AH.set_ne' (Ne.symm n31), AH.set_ne' (Ne.symm n21), AH.set_same]
  simp only [lod_at (st := 0) (i := 0) (off := 0) (c := iv size) g1 rfl rfl, og_some', onr_ret, gval_true, gval_false, pickV_true, pickV_false, apick_true, apick_false, gpick_true, gpick_false, ibin_leq, ibin_geq, ibin_lss, ibin_gtr, ibin_eql, ibin_neq, sbin_eql, sbin_neq, aun_not, Bool.not_true, Bool.not_false, decide_true, decide_false, if_true, if_false, Bool.false_eq_true, fldA_ptr, fldA_rop, anil_ptr, lenStr_str, amm_max, amm_min, Nat.zero_add, Nat.add_zero, List.length_cons, List.length_nil, Nat.reduceAdd]
  refine sto_fld (sz := 2) (off := 0) (i := 0) (cs := [iv 0, nilS]) (AH.set_same ..) rfl (by omega) rfl rfl ?_
  simp only [List.set_cons_zero, AH.set_set, og_some', onr_ret, gval_true, gval_false, pickV_true, pickV_false, apick_true, apick_false, gpick_true, gpick_false, ibin_leq, ibin_geq, ibin_lss, ibin_gtr, ibin_eql, ibin_neq, sbin_eql, sbin_neq, aun_not, Bool.not_true, Bool.not_false, decide_true, decide_false, if_true, if_false, Bool.false_eq_true, fldA_ptr, fldA_rop, anil_ptr, lenStr_str, amm_max, amm_min, Nat.zero_add, Nat.add_zero, List.length_cons, List.length_nil, Nat.reduceAdd]
  have hs : AH.Sub σ (((σ.set φ1 ⟨0, 2, [[iv size, p]]⟩).set φ2 ⟨0, 2, [[iv 0, nilS]]⟩).set φ3 ⟨0, 2, [[iv size, nilS]]⟩) := sub_set (sub_set (sub_set (.refl σ) h1) h2) h3
  have g2 : ((((σ.set φ1 ⟨0, 2, [[iv size, p]]⟩).set φ2 ⟨0, 2, [[iv 0, nilS]]⟩).set φ3 ⟨0, 2, [[iv size, nilS]]⟩)) φ1 = some ⟨0, 2, [[iv size, p]]⟩ := by
    rw [AH.set_ne' (Ne.symm n31), AH.set_ne' (Ne.symm n21), AH.set_same]
  have g3 : ((((σ.set φ1 ⟨0, 2, [[iv size, p]]⟩).set φ2 ⟨0, 2, [[iv 0, nilS]]⟩).set φ3 ⟨0, 2, [[iv size, nilS]]⟩)) φ2 = some ⟨0, 2, [[iv 0, nilS]]⟩ := by
    rw [AH.set_ne' (Ne.symm n32), AH.set_same]
  simp only [lod_at (st := 0) (i := 0) (off := 1) (c := p) g2 rfl rfl, og_some', onr_ret, gval_true, gval_false, pickV_true, pickV_false, apick_true, apick_false, gpick_true, gpick_false, ibin_leq, ibin_geq, ibin_lss, ibin_gtr, ibin_eql, ibin_neq, sbin_eql, sbin_neq, aun_not, Bool.not_true, Bool.not_false, decide_true, decide_false, if_true, if_false, Bool.false_eq_true, fldA_ptr, fldA_rop, anil_ptr, lenStr_str, amm_max, amm_min, Nat.zero_add, Nat.add_zero, List.length_cons, List.length_nil, Nat.reduceAdd]
  refine c_laws_toSegPartS (hS.sub hs) hl hm fun v σ' qs k1 kq k2 => ?_
  have m3 : σ' φ3 = some ⟨0, 2, [[iv size, nilS]]⟩ := k1.at (AH.set_same ..)
  have m2 := k1.at g3
  have hone : acells v = some [v] ∧ v.one = true := by
    exact (Buf.cs k2.out).one
  simp only [og_some', onr_ret, gval_true, gval_false, pickV_true, pickV_false, apick_true, apick_false, gpick_true, gpick_false, ibin_leq, ibin_geq, ibin_lss, ibin_gtr, ibin_eql, ibin_neq, sbin_eql, sbin_neq, aun_not, Bool.not_true, Bool.not_false, decide_true, decide_false, if_true, if_false, Bool.false_eq_true, fldA_ptr, fldA_rop, anil_ptr, lenStr_str, amm_max, amm_min, Nat.zero_add, Nat.add_zero, List.length_cons, List.length_nil, Nat.reduceAdd]
  refine sto_fld (sz := 2) (off := 1) (i := 0) (cs := [iv size, nilS]) m3 rfl (by omega) hone.1 hone.2 ?_
  have m3' := lodA_at (σ := σ'.set φ3 ⟨0, 2, [[iv size, nilS].set 1 v]⟩) (φ := φ3) (st := 0) (i := 0) (n := 2) (cs := [iv size, v]) (AH.set_same ..) rfl rfl rfl
  simp only [List.set_cons_zero, m3', og_some', onr_ret, gval_true, gval_false, pickV_true, pickV_false, apick_true, apick_false, gpick_true, gpick_false, ibin_leq, ibin_geq, ibin_lss, ibin_gtr, ibin_eql, ibin_neq, sbin_eql, sbin_neq, aun_not, Bool.not_true, Bool.not_false, decide_true, decide_false, if_true, if_false, Bool.false_eq_true, fldA_ptr, fldA_rop, anil_ptr, lenStr_str, amm_max, amm_min, Nat.zero_add, Nat.add_zero, List.length_cons, List.length_nil, Nat.reduceAdd]
  refine sto_own (es := [[iv 0, nilS]]) (cs := [iv size, v]) (by rw [AH.set_ne' (Ne.symm n32)]; exact m2) (by simp) (by simp) rfl rfl ?_ ?_
  · intro x hx
    simp at hx
    rcases hx with rfl | rfl
    · rfl
    · exact hone.2
  simp [lodA, acellsAt]
  refine ret_here (h v _ qs ?_ kq ?_)
  · exact sub_set (sub_set (hs.trans k1) h3) h2
  · refine k2.sub (dif_keep' hs ?_)
    intro ψ hψ _
    simp only [AH.set_none] at hψ
    rw [AH.set_ne' hψ.2.1, AH.set_ne' hψ.1]
end Go.Proofs.Ytjfdgijgkbojnaa.E
