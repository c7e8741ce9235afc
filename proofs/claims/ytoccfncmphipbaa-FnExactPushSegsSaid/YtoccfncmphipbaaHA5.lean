import Derived.Test.YtoccfncmphipbaaG5
/- ConfigFault. -/
set_option linter.unusedSectionVars false
set_option linter.unusedSimpArgs false
set_option linter.unusedVariables false
namespace Go.Proofs.Ytoccfncmphipbaa.E
open Go Go.RowKit
variable [Lam]
theorem c_impl_in {x lo hi : Int} {σ : AH} {R : AEnd → AH → Prop} (h : R (.ret (bv (decide (lo ≤ x) && decide (x ≤ hi)))) σ) : acall TP fn_impl_in [iv x, iv lo, iv hi] σ R := by
  refine s_impl_in_ok ?_
  unfold s_impl_in
  by_cases h1 : lo ≤ x
  · simp [h1] at h ⊢; exact ret_here h
  · simp [h1] at h ⊢; exact ret_here h
variable {σ : AH} {R : AEnd → AH → Prop}
theorem c_spec_l1In {x lo hi : Int} (h : R (.ret (bv (decide (lo ≤ x) && decide (x ≤ hi)))) σ) : acall TP fn_spec_l1In [iv x, iv lo, iv hi] σ R := by
  refine s_spec_l1In_ok ?_
  unfold s_spec_l1In
  by_cases h1 : lo ≤ x
  · simp [h1] at h ⊢; exact ret_here h
  · simp [h1] at h ⊢; exact ret_here h
theorem c_spec_l12Size {x : Int} (h : R (.ret (bv (decide (1 ≤ x) && decide (x ≤ 64)))) σ) : acall TP fn_spec_l12Size [iv x] σ R := s_spec_l12Size_ok (c_spec_l1In (ret_here h))
theorem c_impl_isSize {x : Int} (h : R (.ret (bv (decide (1 ≤ x) && decide (x ≤ 64)))) σ) : acall TP fn_impl_isSize [iv x] σ R := s_impl_isSize_ok (c_impl_in (ret_here h))
def cfgF (s t : Int) : Int := if (decide (1 ≤ s) && decide (s ≤ 64)) && (decide (0 ≤ t) && decide (t ≤ 15)) then 0 else 3
end Go.Proofs.Ytoccfncmphipbaa.E
/- Lists of texts: copied, compared, measured; FirstApart. -/
set_option linter.unusedSectionVars false
set_option linter.unusedSimpArgs false
set_option linter.unusedVariables false
namespace Go.Proofs.Ytoccfncmphipbaa.E
open Go Go.RowKit
variable [Lam]
variable {σ : AH} {R : AEnd → AH → Prop}
abbrev Ss (σ : AH) (a : AV) (ss : List ByteArray) : Prop := Cs str σ a ss
abbrev roS (ss : List ByteArray) : AV := .ro (ss.map fun s => [str s])
def sizes : List ByteArray → Nat
  | [] => 0
  | s :: ss => s.size + sizes ss
theorem sizes_take (ss : List ByteArray) {i : Nat} (hi : i < ss.length) : sizes (ss.take (i + 1)) = sizes (ss.take i) + ss[i].size := by
  induction ss generalizing i with
  | nil => cases hi
  | cons s ss ih =>
    cases i with
    | zero => simp [sizes]
    | succ i =>
      have := ih (i := i) (by simpa using hi)
      simp only [List.take_succ_cons, sizes, this, List.getElem_cons_succ]; omega
abbrev intR (c v : Int) : AV := .agg [iv c, iv v]
/-- Where two lists are gap first; none. -/
def gap : List ByteArray → List ByteArray → Option Nat
  | [], [] => none
  | a :: xs, b :: ys => if a = b then (gap xs ys).map (· + 1) else some 0
  | _, _ => some 0
theorem gap_self (ss : List ByteArray) : gap ss ss = none := by
  induction ss with
  | nil => rfl
  | cons s ss ih => simp [gap, ih]
theorem gap_at : ∀ (i : Nat) (ss ts : List ByteArray), i ≤ ss.length → i ≤ ts.length → ss.take i = ts.take i → i < ss.length ∨ i < ts.length → (∀ (h1 : i < ss.length) (h2 : i < ts.length), ss[i] ≠ ts[i]) → gap ss ts = some i := by
  intro i
  induction i with
  | zero =>
    intro ss ts _ _ _ h hne
    match ss, ts with
    | [], [] => simp at h
    | [], _ :: _ => rfl
    | _ :: _, [] => rfl
    | s :: ss, t :: ts =>
      have := hne (by simp) (by simp)
      simp only [List.getElem_cons_zero] at this
      simp [gap, this]
  | succ i ih =>
    intro ss ts h1 h2 he h hne
    match ss, ts, h1, h2 with
    | s :: ss, t :: ts, h1, h2 =>
      simp only [List.take_succ_cons, List.cons.injEq] at he
      have := ih ss ts (by simpa using h1) (by simpa using h2) he.2 (by simpa using h) (fun g1 g2 => by have := hne (by simpa using g1) (by simpa using g2); simpa using this)
      simp [gap, he.1, this]
def apI (ss ts : List ByteArray) : Int := match gap ss ts with | none => -1 | some i => i
def apR (ss ts : List ByteArray) : Int × Int := if 12 < ss.length ∨ 12 < ts.length then (2, 0) else match gap ss ts with | none => (4, 0) | some i => (0, i)
theorem bld2_0 (x : Int) : bld [iv 0, iv 0] [(0, 1), (1, 1)] [(0, iv x)] = some (.agg [iv x, iv 0]) := rfl
theorem bld2_1 (x : Int) : bld [iv 0, iv 0] [(0, 1), (1, 1)] [(1, iv x)] = some (.agg [iv 0, iv x]) := rfl
theorem gap_le : ∀ (ss ts : List ByteArray) (i : Nat), gap ss ts = some i → i ≤ ss.length ∧ i ≤ ts.length := by
  intro ss
  induction ss with
  | nil => intro ts i h; cases ts <;> simp [gap] at h; omega
  | cons s ss ih =>
    intro ts i h
    cases ts with
    | nil => simp [gap] at h; omega
    | cons t ts =>
      unfold gap at h
      split at h
      · obtain ⟨j, h1, rfl⟩ := Option.map_eq_some_iff.1 h
        have := ih _ _ h1
        simp; omega
      · obtain rfl := Option.some.inj h; simp
end Go.Proofs.Ytoccfncmphipbaa.E
/- ErrorsIn. -/
set_option linter.unusedSectionVars false
set_option linter.unusedSimpArgs false
set_option linter.unusedVariables false
namespace Go.Proofs.Ytoccfncmphipbaa.E
open Go Go.RowKit
variable [Lam]
variable {σ : AH} {R : AEnd → AH → Prop}
theorem slcStr_to {s : ByteArray} {n : Nat} (h : n ≤ s.size) : slcStr (.val (.string s)) none (some (.val (.int .i64 (n : Int)))) = some (.val (.string (s.extract 0 n))) := by
  simp [slcStr, abd, h]
def hasPre (s p : ByteArray) : Bool := decide (p.size ≤ s.size) && decide (s.extract 0 p.size = p)
def isErr (s : ByteArray) : Bool := hasPre s ⟨#[33, 32]⟩
def errs (ss : List ByteArray) : Nat := (ss.filter isErr).length
theorem errs_take (ss : List ByteArray) {i : Nat} (hi : i < ss.length) : errs (ss.take (i + 1)) = errs (ss.take i) + if isErr ss[i] then 1 else 0 := by
  unfold errs
  rw [List.take_succ_eq_append_getElem hi, List.filter_append, List.length_append]
  by_cases h : isErr ss[i] <;> simp [h]
theorem errs_le (ss : List ByteArray) : errs ss ≤ ss.length := List.length_filter_le ..
def erR (ss : List ByteArray) : Int × Int := if 12 < ss.length then (2, 0) else (0, errs ss)
theorem pre_size : (ByteArray.mk #[33, 32]).size = 2 := rfl
end Go.Proofs.Ytoccfncmphipbaa.E
/- Stacks of pieces: measured, copied, compared. -/
set_option linter.unusedSectionVars false
set_option linter.unusedSimpArgs false
set_option linter.unusedVariables false
namespace Go.Proofs.Ytoccfncmphipbaa.E
open Go Go.RowKit
variable [Lam]
variable {σ : AH} {R : AEnd → AH → Prop}
abbrev Ns (σ : AH) (a : AV) (xs : List Int) : Prop := Cs iv σ a xs
abbrev roN (xs : List Int) : AV := .ro (xs.map fun x => [iv x])
/-- A list of lists of numbers. -/
def Ps (σ : AH) (a : AV) (ps : List (List Int)) : Prop := ∃ qs : List (AV × List Int), qs.map Prod.snd = ps ∧ Cs Prod.fst σ a qs ∧ ∀ q, q ∈ qs → Ns σ q.1 q.2
abbrev roP (ps : List (List Int)) : AV := .ro (ps.map fun p => [roN p])
theorem Ps.sub {σ' : AH} {a : AV} {ps : List (List Int)} (h : Ps σ a ps) (s : AH.Sub σ σ') : Ps σ' a ps := by
  obtain ⟨qs, h1, h2, h3⟩ := h
  exact ⟨qs, h1, h2.sub s, fun q hq => (h3 q hq).sub s⟩
theorem Ps.ro (σ : AH) (ps : List (List Int)) : Ps σ (roP ps) ps := by
  refine ⟨ps.map fun p => (roN p, p), by simp [Function.comp_def], ?_, ?_⟩
  · have := Cs.ro Prod.fst σ (ps.map fun p => (roN p, p))
    simpa [Function.comp_def] using this
  · intro q hq
    obtain ⟨p, _, rfl⟩ := List.mem_map.1 hq
    exact Cs.ro ..
theorem Ps.len {a : AV} {ps : List (List Int)} (h : Ps σ a ps) : lenS a = some (.val (.int .i64 ps.length)) := by
  obtain ⟨qs, rfl, h2, h3⟩ := h
  simpa using h2.len
theorem Ps.at {a : AV} {ps : List (List Int)} (h : Ps σ a ps) {i : Nat} (hi : i < ps.length) :
    ∃ p q p', idx 1 a (.val (.int .i64 (i : Int))) σ = some p ∧ lodA 1 p σ = some (.agg [q]) ∧ fldA 0 p = some p' ∧ lod p' σ = some q ∧ Ns σ q ps[i] := by
  obtain ⟨qs, rfl, h2, h3⟩ := h
  have hi' : i < qs.length := by simpa using hi
  obtain ⟨p, k1, _, k2⟩ := h2.at hi'
  obtain ⟨p', k3, k4⟩ := k2.fld 0 (by simp)
  refine ⟨p, qs[i].1, p', k1, by simpa using k2.lodA (n := 1) (by simp), k3, by simpa using k4, ?_⟩
  simpa using h3 _ (List.getElem_mem hi')
theorem Ps.fz {σ' : AH} {a : AV} {ps : List (List Int)} (h : Ps (dif σ σ') a ps) : Fz σ σ' a (roP ps) := by
  obtain ⟨qs, rfl, h2, h3⟩ := h
  have := Cs.fz (g := fun q : AV × List Int => roN q.2) h2 fun q hq => Cs.fz (g := iv) (h3 q hq) fun x _ => .same _
  simpa [roP, Function.comp_def] using this
/-- A list of lists that may be written into, each of its own. -/
structure PB (σ : AH) (a : AV) (qs : List (AV × List Int)) : Prop where
  out : Buf σ 1 a (qs.map fun q => [q.1])
  ins : ∀ q, q ∈ qs → Buf σ 1 q.1 (q.2.map fun x => [iv x])
  sep : ∀ q, q ∈ qs → ∀ ψ, Buf.fam q.1 ψ → ¬ Buf.fam a ψ
  pair : qs.Pairwise fun q r => ∀ ψ, Buf.fam q.1 ψ → ¬ Buf.fam r.1 ψ
theorem PB.ps {a : AV} {qs : List (AV × List Int)} (h : PB σ a qs) : Ps σ a (qs.map Prod.snd) := ⟨qs, rfl, Buf.cs h.out, fun q hq => Buf.cs (h.ins q hq)⟩
theorem PB.sub {σ' : AH} {a : AV} {qs : List (AV × List Int)} (h : PB σ a qs) (s : AH.Sub σ σ') : PB σ' a qs := ⟨h.out.sub s, fun q hq => (h.ins q hq).sub s, h.sep, h.pair⟩
def tot : List (List Int) → Nat
  | [] => 0
  | p :: ps => p.length + tot ps
theorem tot_take (ps : List (List Int)) {i : Nat} (hi : i < ps.length) : tot (ps.take (i + 1)) = tot (ps.take i) + ps[i].length := by
  induction ps generalizing i with
  | nil => cases hi
  | cons s ps ih =>
    cases i with
    | zero => simp [tot]
    | succ i =>
      have := ih (i := i) (by simpa using hi)
      simp only [List.take_succ_cons, tot, this, List.getElem_cons_succ]; omega
theorem tot_take_le (ps : List (List Int)) (i : Nat) : tot (ps.take i) ≤ tot ps := by
  induction ps generalizing i with
  | nil => simp
  | cons s ps ih =>
    cases i with
    | zero => simp [tot]
    | succ i => have := ih i; simp only [List.take_succ_cons, tot]; omega
theorem tot_at (ps : List (List Int)) {i : Nat} (hi : i < ps.length) : tot (ps.take i) + ps[i].length ≤ tot ps := by
  rw [← tot_take ps hi]; exact tot_take_le ps _
theorem tot_flatten (ps : List (List Int)) : ps.flatten.length = tot ps := by
  induction ps with
  | nil => rfl
  | cons p ps ih => simp [tot] at ih ⊢; omega

/-! ### measured -/
theorem c_laws_szInt64S {a : AV} {xs : List Int} {L : Int} (hS : Ns σ a xs) (h0 : 0 ≤ L) (h1 : L ≤ 1048576) (hl : xs.length ≤ maxLen)
    (h : ∀ r : Int, -1 ≤ r → r ≤ L → (0 ≤ r → r + xs.length = L) → (r < 0 → L < xs.length) → R (.ret (iv r)) σ) : acall TP fn_laws_szInt64S [a, iv L] σ R := by
  have hM : maxLen = 9223372036854775807 := by decide
  refine s_laws_szInt64S_ok ?_
  unfold s_laws_szInt64S
  simp only [hS.len, ibin_sub (a := L) (b := xs.length) (by omega) (by omega), og_some', onr_ret, gval_true, gval_false, pickV_true, pickV_false, apick_true, apick_false, gpick_true, gpick_false, ibin_leq, ibin_geq, ibin_lss, ibin_gtr, ibin_eql, ibin_neq, sbin_eql, sbin_neq, aun_not, Bool.not_true, Bool.not_false, decide_true, decide_false, if_true, if_false, Bool.false_eq_true, fldA_ptr, fldA_rop, anil_ptr, lenStr_str, amm_max, amm_min, Nat.zero_add, Nat.add_zero, List.length_cons, List.length_nil, Nat.reduceAdd]
  by_cases hc : L - xs.length < 0
  · simp only [hc, og_some', onr_ret, gval_true, gval_false, pickV_true, pickV_false, apick_true, apick_false, gpick_true, gpick_false, ibin_leq, ibin_geq, ibin_lss, ibin_gtr, ibin_eql, ibin_neq, sbin_eql, sbin_neq, aun_not, Bool.not_true, Bool.not_false, decide_true, decide_false, if_true, if_false, Bool.false_eq_true, fldA_ptr, fldA_rop, anil_ptr, lenStr_str, amm_max, amm_min, Nat.zero_add, Nat.add_zero, List.length_cons, List.length_nil, Nat.reduceAdd]
    exact ret_here (h (-1) (by omega) (by omega) (by omega) (by omega))
  · simp only [hc, og_some', onr_ret, gval_true, gval_false, pickV_true, pickV_false, apick_true, apick_false, gpick_true, gpick_false, ibin_leq, ibin_geq, ibin_lss, ibin_gtr, ibin_eql, ibin_neq, sbin_eql, sbin_neq, aun_not, Bool.not_true, Bool.not_false, decide_true, decide_false, if_true, if_false, Bool.false_eq_true, fldA_ptr, fldA_rop, anil_ptr, lenStr_str, amm_max, amm_min, Nat.zero_add, Nat.add_zero, List.length_cons, List.length_nil, Nat.reduceAdd]
    exact ret_here (h _ (by omega) (by omega) (by omega) (by omega))
theorem c_laws_szSegPart {q : AV} {xs : List Int} {L : Int} (hS : Ns σ q xs) (h0 : 0 ≤ L) (h1 : L ≤ 1048576) (hl : xs.length ≤ maxLen)
    (h : ∀ r : Int, -1 ≤ r → r ≤ L → (0 ≤ r → r + xs.length = L) → (r < 0 → L < xs.length) → R (.ret (iv r)) σ) : acall TP fn_laws_szSegPart [.agg [q], iv L] σ R := by
  refine s_laws_szSegPart_ok ?_
  unfold s_laws_szSegPart
  simp only [abox_agg, og_some', onr_ret, gval_true, gval_false, pickV_true, pickV_false, apick_true, apick_false, gpick_true, gpick_false, ibin_leq, ibin_geq, ibin_lss, ibin_gtr, ibin_eql, ibin_neq, sbin_eql, sbin_neq, aun_not, Bool.not_true, Bool.not_false, decide_true, decide_false, if_true, if_false, Bool.false_eq_true, fldA_ptr, fldA_rop, anil_ptr, lenStr_str, amm_max, amm_min, Nat.zero_add, Nat.add_zero, List.length_cons, List.length_nil, Nat.reduceAdd]
  intro φ hφ
  have hs : AH.Sub σ (σ.set φ ⟨0, 1, [[q]]⟩) := sub_set (.refl σ) hφ
  have e := lod_at (σ := σ.set φ ⟨0, 1, [[q]]⟩) (φ := φ) (st := 0) (i := 0) (off := 0) (c := q) (AH.set_same ..) rfl rfl
  simp only [e, og_some', onr_ret, gval_true, gval_false, pickV_true, pickV_false, apick_true, apick_false, gpick_true, gpick_false, ibin_leq, ibin_geq, ibin_lss, ibin_gtr, ibin_eql, ibin_neq, sbin_eql, sbin_neq, aun_not, Bool.not_true, Bool.not_false, decide_true, decide_false, if_true, if_false, Bool.false_eq_true, fldA_ptr, fldA_rop, anil_ptr, lenStr_str, amm_max, amm_min, Nat.zero_add, Nat.add_zero, List.length_cons, List.length_nil, Nat.reduceAdd]
  refine c_laws_szInt64S (hS.sub hs) h0 h1 hl fun r r0 r1 r2 r3 => ?_
  simp only [og_some', onr_ret, gval_true, gval_false, pickV_true, pickV_false, apick_true, apick_false, gpick_true, gpick_false, ibin_leq, ibin_geq, ibin_lss, ibin_gtr, ibin_eql, ibin_neq, sbin_eql, sbin_neq, aun_not, Bool.not_true, Bool.not_false, decide_true, decide_false, if_true, if_false, Bool.false_eq_true, fldA_ptr, fldA_rop, anil_ptr, lenStr_str, amm_max, amm_min, Nat.zero_add, Nat.add_zero, List.length_cons, List.length_nil, Nat.reduceAdd]
  by_cases hc : r < 0
  · simp only [hc, og_some', onr_ret, gval_true, gval_false, pickV_true, pickV_false, apick_true, apick_false, gpick_true, gpick_false, ibin_leq, ibin_geq, ibin_lss, ibin_gtr, ibin_eql, ibin_neq, sbin_eql, sbin_neq, aun_not, Bool.not_true, Bool.not_false, decide_true, decide_false, if_true, if_false, Bool.false_eq_true, fldA_ptr, fldA_rop, anil_ptr, lenStr_str, amm_max, amm_min, Nat.zero_add, Nat.add_zero, List.length_cons, List.length_nil, Nat.reduceAdd]
    exact aret_sub hs (h (-1) (by omega) (by omega) (by omega) (fun _ => r3 hc))
  · simp only [hc, og_some', onr_ret, gval_true, gval_false, pickV_true, pickV_false, apick_true, apick_false, gpick_true, gpick_false, ibin_leq, ibin_geq, ibin_lss, ibin_gtr, ibin_eql, ibin_neq, sbin_eql, sbin_neq, aun_not, Bool.not_true, Bool.not_false, decide_true, decide_false, if_true, if_false, Bool.false_eq_true, fldA_ptr, fldA_rop, anil_ptr, lenStr_str, amm_max, amm_min, Nat.zero_add, Nat.add_zero, List.length_cons, List.length_nil, Nat.reduceAdd]
    exact aret_sub hs (h _ r0 r1 r2 r3)
theorem c_laws_szSegPartS {a : AV} {ps : List (List Int)} {L : Int} (hS : Ps σ a ps) (h0 : 0 ≤ L) (h1 : L ≤ 1048576) (hl : ps.length ≤ maxLen) (hm : ∀ p, p ∈ ps → p.length ≤ maxLen)
    (h : ∀ r : Int, -1 ≤ r → r ≤ L → (0 ≤ r → r + ps.length + tot ps = L) → R (.ret (iv r)) σ) : acall TP fn_laws_szSegPartS [a, iv L] σ R := by
  have hM : maxLen = 9223372036854775807 := by decide
  refine s_laws_szSegPartS_ok ?_
  unfold s_laws_szSegPartS
  simp only [hS.len, ibin_sub (a := L) (b := ps.length) (by omega) (by omega), og_some', onr_ret, gval_true, gval_false, pickV_true, pickV_false, apick_true, apick_false, gpick_true, gpick_false, ibin_leq, ibin_geq, ibin_lss, ibin_gtr, ibin_eql, ibin_neq, sbin_eql, sbin_neq, aun_not, Bool.not_true, Bool.not_false, decide_true, decide_false, if_true, if_false, Bool.false_eq_true, fldA_ptr, fldA_rop, anil_ptr, lenStr_str, amm_max, amm_min, Nat.zero_add, Nat.add_zero, List.length_cons, List.length_nil, Nat.reduceAdd]
  by_cases hc : L - ps.length < 0
  · simp only [hc, og_some', onr_ret, gval_true, gval_false, pickV_true, pickV_false, apick_true, apick_false, gpick_true, gpick_false, ibin_leq, ibin_geq, ibin_lss, ibin_gtr, ibin_eql, ibin_neq, sbin_eql, sbin_neq, aun_not, Bool.not_true, Bool.not_false, decide_true, decide_false, if_true, if_false, Bool.false_eq_true, fldA_ptr, fldA_rop, anil_ptr, lenStr_str, amm_max, amm_min, Nat.zero_add, Nat.add_zero, List.length_cons, List.length_nil, Nat.reduceAdd]
    exact ret_here (h (-1) (by omega) (by omega) (by omega))
  simp only [hc, og_some', onr_ret, gval_true, gval_false, pickV_true, pickV_false, apick_true, apick_false, gpick_true, gpick_false, ibin_leq, ibin_geq, ibin_lss, ibin_gtr, ibin_eql, ibin_neq, sbin_eql, sbin_neq, aun_not, Bool.not_true, Bool.not_false, decide_true, decide_false, if_true, if_false, Bool.false_eq_true, fldA_ptr, fldA_rop, anil_ptr, lenStr_str, amm_max, amm_min, Nat.zero_add, Nat.add_zero, List.length_cons, List.length_nil, Nat.reduceAdd]
  refine lp_same ps.length (fun i => (a, iv (L - ps.length - tot (ps.take i)), iv i, ())) (fun i => (tot (ps.take i) : Int) ≤ L - ps.length) (by simp [tot, iv]; rfl) (by simp [tot]; omega) ?_
  intro i hi hle R' hR'
  simp only [hS.len, og_some', onr_ret, gval_true, gval_false, pickV_true, pickV_false, apick_true, apick_false, gpick_true, gpick_false, ibin_leq, ibin_geq, ibin_lss, ibin_gtr, ibin_eql, ibin_neq, sbin_eql, sbin_neq, aun_not, Bool.not_true, Bool.not_false, decide_true, decide_false, if_true, if_false, Bool.false_eq_true, fldA_ptr, fldA_rop, anil_ptr, lenStr_str, amm_max, amm_min, Nat.zero_add, Nat.add_zero, List.length_cons, List.length_nil, Nat.reduceAdd]
  by_cases hlt : i < ps.length
  · have : (i : Int) < ps.length := by omega
    obtain ⟨p, q, p', hp, hq, _, _, hN⟩ := hS.at hlt
    have hb := hm _ (List.getElem_mem hlt)
    have hT := tot_take ps hlt
    simp only [this, hp, hq, og_some', onr_ret, gval_true, gval_false, pickV_true, pickV_false, apick_true, apick_false, gpick_true, gpick_false, ibin_leq, ibin_geq, ibin_lss, ibin_gtr, ibin_eql, ibin_neq, sbin_eql, sbin_neq, aun_not, Bool.not_true, Bool.not_false, decide_true, decide_false, if_true, if_false, Bool.false_eq_true, fldA_ptr, fldA_rop, anil_ptr, lenStr_str, amm_max, amm_min, Nat.zero_add, Nat.add_zero, List.length_cons, List.length_nil, Nat.reduceAdd]
    refine c_laws_szSegPart hN (by omega) (by omega) hb fun r r0 r1 r2 _ => ?_
    simp only [og_some', onr_ret, gval_true, gval_false, pickV_true, pickV_false, apick_true, apick_false, gpick_true, gpick_false, ibin_leq, ibin_geq, ibin_lss, ibin_gtr, ibin_eql, ibin_neq, sbin_eql, sbin_neq, aun_not, Bool.not_true, Bool.not_false, decide_true, decide_false, if_true, if_false, Bool.false_eq_true, fldA_ptr, fldA_rop, anil_ptr, lenStr_str, amm_max, amm_min, Nat.zero_add, Nat.add_zero, List.length_cons, List.length_nil, Nat.reduceAdd]
    by_cases hc : r < 0
    · simp only [hc, og_some', onr_ret, gval_true, gval_false, pickV_true, pickV_false, apick_true, apick_false, gpick_true, gpick_false, ibin_leq, ibin_geq, ibin_lss, ibin_gtr, ibin_eql, ibin_neq, sbin_eql, sbin_neq, aun_not, Bool.not_true, Bool.not_false, decide_true, decide_false, if_true, if_false, Bool.false_eq_true, fldA_ptr, fldA_rop, anil_ptr, lenStr_str, amm_max, amm_min, Nat.zero_add, Nat.add_zero, List.length_cons, List.length_nil, Nat.reduceAdd]
      exact ret_here (h (-1) (by omega) (by omega) (by omega))
    · simp only [hc, ibin_up hlt (by omega), og_some', onr_ret, gval_true, gval_false, pickV_true, pickV_false, apick_true, apick_false, gpick_true, gpick_false, ibin_leq, ibin_geq, ibin_lss, ibin_gtr, ibin_eql, ibin_neq, sbin_eql, sbin_neq, aun_not, Bool.not_true, Bool.not_false, decide_true, decide_false, if_true, if_false, Bool.false_eq_true, fldA_ptr, fldA_rop, anil_ptr, lenStr_str, amm_max, amm_min, Nat.zero_add, Nat.add_zero, List.length_cons, List.length_nil, Nat.reduceAdd]
      have e : r = L - ps.length - tot (ps.take (i + 1)) := by have := r2 (by omega); omega
      rw [e]
      exact hR' hlt (by omega) _ (.refl _)
  · have : ¬ (i : Int) < ps.length := by omega
    obtain rfl : i = ps.length := by omega
    rw [List.take_length] at hle ⊢
    simp only [this, og_some', onr_ret, gval_true, gval_false, pickV_true, pickV_false, apick_true, apick_false, gpick_true, gpick_false, ibin_leq, ibin_geq, ibin_lss, ibin_gtr, ibin_eql, ibin_neq, sbin_eql, sbin_neq, aun_not, Bool.not_true, Bool.not_false, decide_true, decide_false, if_true, if_false, Bool.false_eq_true, fldA_ptr, fldA_rop, anil_ptr, lenStr_str, amm_max, amm_min, Nat.zero_add, Nat.add_zero, List.length_cons, List.length_nil, Nat.reduceAdd]
    exact ret_here (h _ (by omega) (by omega) (by omega))
abbrev Sg (σ : AH) (v : AV) (size : Int) (ps : List (List Int)) : Prop := ∃ p, v = .agg [iv size, p] ∧ Ps σ p ps
abbrev roG (size : Int) (ps : List (List Int)) : AV := .agg [iv size, roP ps]
theorem c_laws_szSegs {p : AV} {size : Int} {ps : List (List Int)} {L : Int} (hS : Ps σ p ps) (h0 : 0 ≤ L) (h1 : L ≤ 1048576) (hl : ps.length ≤ maxLen) (hm : ∀ p, p ∈ ps → p.length ≤ maxLen)
    (h : ∀ r : Int, -1 ≤ r → r ≤ L → (0 ≤ r → r + ps.length + tot ps = L) → R (.ret (iv r)) σ) : acall TP fn_laws_szSegs [.agg [iv size, p], iv L] σ R := by
  refine s_laws_szSegs_ok ?_
  unfold s_laws_szSegs
  simp only [abox_agg, og_some', onr_ret, gval_true, gval_false, pickV_true, pickV_false, apick_true, apick_false, gpick_true, gpick_false, ibin_leq, ibin_geq, ibin_lss, ibin_gtr, ibin_eql, ibin_neq, sbin_eql, sbin_neq, aun_not, Bool.not_true, Bool.not_false, decide_true, decide_false, if_true, if_false, Bool.false_eq_true, fldA_ptr, fldA_rop, anil_ptr, lenStr_str, amm_max, amm_min, Nat.zero_add, Nat.add_zero, List.length_cons, List.length_nil, Nat.reduceAdd]
  intro φ hφ
  have hs : AH.Sub σ (σ.set φ ⟨0, 2, [[iv size, p]]⟩) := sub_set (.refl σ) hφ
  have e := lod_at (σ := σ.set φ ⟨0, 2, [[iv size, p]]⟩) (φ := φ) (st := 0) (i := 0) (off := 1) (c := p) (AH.set_same ..) rfl rfl
  simp only [e, og_some', onr_ret, gval_true, gval_false, pickV_true, pickV_false, apick_true, apick_false, gpick_true, gpick_false, ibin_leq, ibin_geq, ibin_lss, ibin_gtr, ibin_eql, ibin_neq, sbin_eql, sbin_neq, aun_not, Bool.not_true, Bool.not_false, decide_true, decide_false, if_true, if_false, Bool.false_eq_true, fldA_ptr, fldA_rop, anil_ptr, lenStr_str, amm_max, amm_min, Nat.zero_add, Nat.add_zero, List.length_cons, List.length_nil, Nat.reduceAdd]
  refine c_laws_szSegPartS (hS.sub hs) h0 h1 hl hm fun r r0 r1 r2 => ?_
  simp only [og_some', onr_ret, gval_true, gval_false, pickV_true, pickV_false, apick_true, apick_false, gpick_true, gpick_false, ibin_leq, ibin_geq, ibin_lss, ibin_gtr, ibin_eql, ibin_neq, sbin_eql, sbin_neq, aun_not, Bool.not_true, Bool.not_false, decide_true, decide_false, if_true, if_false, Bool.false_eq_true, fldA_ptr, fldA_rop, anil_ptr, lenStr_str, amm_max, amm_min, Nat.zero_add, Nat.add_zero, List.length_cons, List.length_nil, Nat.reduceAdd]
  by_cases hc : r < 0
  · simp only [hc, og_some', onr_ret, gval_true, gval_false, pickV_true, pickV_false, apick_true, apick_false, gpick_true, gpick_false, ibin_leq, ibin_geq, ibin_lss, ibin_gtr, ibin_eql, ibin_neq, sbin_eql, sbin_neq, aun_not, Bool.not_true, Bool.not_false, decide_true, decide_false, if_true, if_false, Bool.false_eq_true, fldA_ptr, fldA_rop, anil_ptr, lenStr_str, amm_max, amm_min, Nat.zero_add, Nat.add_zero, List.length_cons, List.length_nil, Nat.reduceAdd]
    exact aret_sub hs (h (-1) (by omega) (by omega) (by omega))
  · simp only [hc, og_some', onr_ret, gval_true, gval_false, pickV_true, pickV_false, apick_true, apick_false, gpick_true, gpick_false, ibin_leq, ibin_geq, ibin_lss, ibin_gtr, ibin_eql, ibin_neq, sbin_eql, sbin_neq, aun_not, Bool.not_true, Bool.not_false, decide_true, decide_false, if_true, if_false, Bool.false_eq_true, fldA_ptr, fldA_rop, anil_ptr, lenStr_str, amm_max, amm_min, Nat.zero_add, Nat.add_zero, List.length_cons, List.length_nil, Nat.reduceAdd]
    exact aret_sub hs (h _ r0 r1 r2)

/-! ### copied -/
set_option maxRecDepth 100000 in
theorem c_laws_toInt64S {a : AV} {xs : List Int} (hS : Ns σ a xs) (hl : xs.length ≤ 1099511627776)
    (h : ∀ φ, σ φ = none → R (.ret (.own φ 0 0 xs.length)) (σ.set φ ⟨0, 1, xs.map fun x => [iv x]⟩)) : acall TP fn_laws_toInt64S [a] σ R := by
  refine s_laws_toInt64S_ok ?_
  unfold s_laws_toInt64S
  simp only [hS.len, og_some']
  refine mk_Li (by omega) (by omega) (by omega) fun φ hφ => ?_
  simp only [Int.toNat_natCast]
  refine lp_for xs.length (fun i => (a, .own φ 0 0 xs.length, iv i, ())) (fun i σ' => σ' = σ.set φ ⟨0, 1, (xs.map fun x => [iv x]).take i ++ List.replicate (xs.length - i) [iv 0]⟩) rfl (by simp) ?_
  rintro i _ hi rfl R' hR'
  have hs : AH.Sub σ (σ.set φ ⟨0, 1, (xs.map fun x => [iv x]).take i ++ List.replicate (xs.length - i) [iv 0]⟩) := sub_set (.refl σ) hφ
  have hS' := hS.sub hs
  simp only [hS'.len, og_some', onr_ret, gval_true, gval_false, pickV_true, pickV_false, apick_true, apick_false, gpick_true, gpick_false, ibin_leq, ibin_geq, ibin_lss, ibin_gtr, ibin_eql, ibin_neq, sbin_eql, sbin_neq, aun_not, Bool.not_true, Bool.not_false, decide_true, decide_false, if_true, if_false, Bool.false_eq_true, fldA_ptr, fldA_rop, anil_ptr, lenStr_str, amm_max, amm_min, Nat.zero_add, Nat.add_zero, List.length_cons, List.length_nil, Nat.reduceAdd]
  have hml : (xs.map fun x => [iv x]).length = xs.length := by simp
  by_cases hlt : i < xs.length
  · have : (i : Int) < xs.length := by omega
    obtain ⟨p, hp, hq, _⟩ := hS'.at hlt
    simp only [this, hp, hq, idx_own (AH.set_same ..) hlt, og_some', onr_ret, gval_true, gval_false, pickV_true, pickV_false, apick_true, apick_false, gpick_true, gpick_false, ibin_leq, ibin_geq, ibin_lss, ibin_gtr, ibin_eql, ibin_neq, sbin_eql, sbin_neq, aun_not, Bool.not_true, Bool.not_false, decide_true, decide_false, if_true, if_false, Bool.false_eq_true, fldA_ptr, fldA_rop, anil_ptr, lenStr_str, amm_max, amm_min, Nat.zero_add, Nat.add_zero, List.length_cons, List.length_nil, Nat.reduceAdd]
    refine sto_own (cs := [iv xs[i]]) (AH.set_same ..) (by rw [len_rep hml hi]; exact hlt) (by rw [getD_rep hml hlt]; rfl) rfl rfl (by simp [AV.one, Value.oneCell']) ?_
    simp only [ibin_up hlt (by omega), AH.set_set, og_some', onr_ret, gval_true, gval_false, pickV_true, pickV_false, apick_true, apick_false, gpick_true, gpick_false, ibin_leq, ibin_geq, ibin_lss, ibin_gtr, ibin_eql, ibin_neq, sbin_eql, sbin_neq, aun_not, Bool.not_true, Bool.not_false, decide_true, decide_false, if_true, if_false, Bool.false_eq_true, fldA_ptr, fldA_rop, anil_ptr, lenStr_str, amm_max, amm_min, Nat.zero_add, Nat.add_zero, List.length_cons, List.length_nil, Nat.reduceAdd]
    have e := take_rep_set (z := [iv 0]) hml hlt
    simp only [List.getElem_map] at e
    rw [e]
    exact hR' hlt _ _ (.refl _) rfl
  · have : ¬ (i : Int) < xs.length := by omega
    obtain rfl : i = xs.length := by omega
    simp only [this, og_some', onr_ret, gval_true, gval_false, pickV_true, pickV_false, apick_true, apick_false, gpick_true, gpick_false, ibin_leq, ibin_geq, ibin_lss, ibin_gtr, ibin_eql, ibin_neq, sbin_eql, sbin_neq, aun_not, Bool.not_true, Bool.not_false, decide_true, decide_false, if_true, if_false, Bool.false_eq_true, fldA_ptr, fldA_rop, anil_ptr, lenStr_str, amm_max, amm_min, Nat.zero_add, Nat.add_zero, List.length_cons, List.length_nil, Nat.reduceAdd]
    have e : (xs.map fun x => [iv x]).take xs.length ++ List.replicate (xs.length - xs.length) [iv 0] = xs.map fun x => [iv x] := by
      rw [Nat.sub_self, List.replicate_zero, List.append_nil]; exact List.take_of_length_le (by simp)
    rw [e]
    exact ret_here (h φ hφ)
theorem c_laws_toSegPart {q : AV} {xs : List Int} (hS : Ns σ q xs) (hl : xs.length ≤ 1099511627776)
    (h : ∀ φ σ', σ φ = none → AH.Sub σ σ' → σ' φ = some ⟨0, 1, xs.map fun x => [iv x]⟩ → R (.ret (.agg [.own φ 0 0 xs.length])) σ') : acall TP fn_laws_toSegPart [.agg [q]] σ R := by
  refine s_laws_toSegPart_ok ?_
  unfold s_laws_toSegPart
  simp only [abox_agg, new_eq, og_some', onr_ret, gval_true, gval_false, pickV_true, pickV_false, apick_true, apick_false, gpick_true, gpick_false, ibin_leq, ibin_geq, ibin_lss, ibin_gtr, ibin_eql, ibin_neq, sbin_eql, sbin_neq, aun_not, Bool.not_true, Bool.not_false, decide_true, decide_false, if_true, if_false, Bool.false_eq_true, fldA_ptr, fldA_rop, anil_ptr, lenStr_str, amm_max, amm_min, Nat.zero_add, Nat.add_zero, List.length_cons, List.length_nil, Nat.reduceAdd]
  intro φ1 h1 φ2 h2 φ3 h3
  simp only [AH.set_none] at h2 h3
  obtain ⟨n21, h2⟩ := h2
  obtain ⟨n32, n31, h3⟩ := h3
  have e : lod (.ptr φ1 0 0 0) (((σ.set φ1 ⟨0, 1, [[q]]⟩).set φ2 ⟨0, 1, [[nilS]]⟩).set φ3 ⟨0, 1, [[nilS]]⟩) = some q := by
    refine lod_at (F := ⟨0, 1, [[q]]⟩) ?_ rfl rfl
    rw [AH.set_ne' (Ne.symm n31), AH.set_ne' (Ne.symm n21), AH.set_same]
  simp only [e, og_some', onr_ret, gval_true, gval_false, pickV_true, pickV_false, apick_true, apick_false, gpick_true, gpick_false, ibin_leq, ibin_geq, ibin_lss, ibin_gtr, ibin_eql, ibin_neq, sbin_eql, sbin_neq, aun_not, Bool.not_true, Bool.not_false, decide_true, decide_false, if_true, if_false, Bool.false_eq_true, fldA_ptr, fldA_rop, anil_ptr, lenStr_str, amm_max, amm_min, Nat.zero_add, Nat.add_zero, List.length_cons, List.length_nil, Nat.reduceAdd]
  have hs : AH.Sub σ (((σ.set φ1 ⟨0, 1, [[q]]⟩).set φ2 ⟨0, 1, [[nilS]]⟩).set φ3 ⟨0, 1, [[nilS]]⟩) := sub_set (sub_set (sub_set (.refl σ) h1) h2) h3
  refine c_laws_toInt64S (hS.sub hs) hl fun φ hφ => ?_
  simp only [AH.set_none] at hφ
  obtain ⟨m3, m2, m1, m0⟩ := hφ
  simp only [og_some', onr_ret, gval_true, gval_false, pickV_true, pickV_false, apick_true, apick_false, gpick_true, gpick_false, ibin_leq, ibin_geq, ibin_lss, ibin_gtr, ibin_eql, ibin_neq, sbin_eql, sbin_neq, aun_not, Bool.not_true, Bool.not_false, decide_true, decide_false, if_true, if_false, Bool.false_eq_true, fldA_ptr, fldA_rop, anil_ptr, lenStr_str, amm_max, amm_min, Nat.zero_add, Nat.add_zero, List.length_cons, List.length_nil, Nat.reduceAdd]
  refine sto_own (es := [[nilS]]) (by rw [AH.set_ne' (Ne.symm m3), AH.set_same]) (by simp) (by simp) (cs := [.own φ 0 0 xs.length]) rfl rfl (by simp [AV.one]) ?_
  have e2 := lodA_at (σ := ((((σ.set φ1 ⟨0, 1, [[q]]⟩).set φ2 ⟨0, 1, [[nilS]]⟩).set φ3 ⟨0, 1, [[nilS]]⟩).set φ ⟨0, 1, xs.map fun x => [iv x]⟩).set φ3 ⟨0, 1, [[.own φ 0 0 xs.length]]⟩) (φ := φ3) (st := 0) (i := 0) (n := 1) (cs := [.own φ 0 0 xs.length]) (AH.set_same ..) rfl rfl rfl
  simp only [List.set_cons_zero, e2, og_some', onr_ret, gval_true, gval_false, pickV_true, pickV_false, apick_true, apick_false, gpick_true, gpick_false, ibin_leq, ibin_geq, ibin_lss, ibin_gtr, ibin_eql, ibin_neq, sbin_eql, sbin_neq, aun_not, Bool.not_true, Bool.not_false, decide_true, decide_false, if_true, if_false, Bool.false_eq_true, fldA_ptr, fldA_rop, anil_ptr, lenStr_str, amm_max, amm_min, Nat.zero_add, Nat.add_zero, List.length_cons, List.length_nil, Nat.reduceAdd]
  refine sto_own (es := [[nilS]]) (by rw [AH.set_ne' (Ne.symm n32), AH.set_ne' (Ne.symm m2), AH.set_ne' (Ne.symm n32), AH.set_same]) (by simp) (by simp) (cs := [.own φ 0 0 xs.length]) rfl rfl (by simp [AV.one]) ?_
  simp [lodA, acellsAt]
  refine ret_here (h φ _ m0 ?_ ?_)
  · exact sub_set (sub_set (sub_set (sub_set (sub_set (sub_set (.refl σ) h1) h2) h3) m0) h3) h2
  · rw [AH.set_ne' m2, AH.set_ne' m3, AH.set_same]
set_option maxRecDepth 100000 in
theorem c_laws_toSegPartS {a : AV} {ps : List (List Int)} (hS : Ps σ a ps) (hl : ps.length ≤ 1099511627776) (hm : ∀ p, p ∈ ps → p.length ≤ 1099511627776)
    (h : ∀ v σ' qs, AH.Sub σ σ' → qs.map Prod.snd = ps → PB (dif σ σ') v qs → R (.ret v) σ') : acall TP fn_laws_toSegPartS [a] σ R := by
  refine s_laws_toSegPartS_ok ?_
  unfold s_laws_toSegPartS
  simp only [hS.len, og_some']
  refine mk_LRLiE (by omega) (by omega) (by omega) fun φ hφ => ?_
  simp only [Int.toNat_natCast]
  refine lp_for ps.length (fun i => (a, .own φ 0 0 ps.length, iv i, ()))
    (fun i σ' => ∃ qs : List (AV × List Int), qs.map Prod.snd = ps.take i ∧ σ' φ = some ⟨0, 1, qs.map (fun q => [q.1]) ++ List.replicate (ps.length - i) [nilS]⟩ ∧ AH.Sub σ σ' ∧ (∀ q, q ∈ qs → Buf (dif (σ.set φ ⟨0, 0, []⟩) σ') 1 q.1 (q.2.map fun x => [iv x])) ∧ qs.Pairwise fun q r => ∀ ψ, Buf.fam q.1 ψ → ¬ Buf.fam r.1 ψ) rfl
    ⟨[], by simp, by simp, sub_set (.refl σ) hφ, (fun q hq => by cases hq), .nil⟩ ?_
  rintro i σi hi ⟨qs, hq1, hq2, hq3, hq4, hq5⟩ R' hR'
  have hS' := hS.sub hq3
  have hql : qs.length = i := by have := congrArg List.length hq1; simp at this; omega
  simp only [hS'.len, og_some', onr_ret, gval_true, gval_false, pickV_true, pickV_false, apick_true, apick_false, gpick_true, gpick_false, ibin_leq, ibin_geq, ibin_lss, ibin_gtr, ibin_eql, ibin_neq, sbin_eql, sbin_neq, aun_not, Bool.not_true, Bool.not_false, decide_true, decide_false, if_true, if_false, Bool.false_eq_true, fldA_ptr, fldA_rop, anil_ptr, lenStr_str, amm_max, amm_min, Nat.zero_add, Nat.add_zero, List.length_cons, List.length_nil, Nat.reduceAdd]
  by_cases hlt : i < ps.length
  · have : (i : Int) < ps.length := by omega
    obtain ⟨p, q, p', hp, hq, _, _, hN⟩ := hS'.at hlt
    simp only [this, hp, hq, og_some', onr_ret, gval_true, gval_false, pickV_true, pickV_false, apick_true, apick_false, gpick_true, gpick_false, ibin_leq, ibin_geq, ibin_lss, ibin_gtr, ibin_eql, ibin_neq, sbin_eql, sbin_neq, aun_not, Bool.not_true, Bool.not_false, decide_true, decide_false, if_true, if_false, Bool.false_eq_true, fldA_ptr, fldA_rop, anil_ptr, lenStr_str, amm_max, amm_min, Nat.zero_add, Nat.add_zero, List.length_cons, List.length_nil, Nat.reduceAdd]
    refine c_laws_toSegPart hN (hm _ (List.getElem_mem hlt)) fun ψ σ2 k1 k2 k3 => ?_
    have hne : ψ ≠ φ := by rintro rfl; rw [hq2] at k1; cases k1
    have hφ2 := k2.at hq2
    simp only [idx_own hφ2 hlt, og_some', onr_ret, gval_true, gval_false, pickV_true, pickV_false, apick_true, apick_false, gpick_true, gpick_false, ibin_leq, ibin_geq, ibin_lss, ibin_gtr, ibin_eql, ibin_neq, sbin_eql, sbin_neq, aun_not, Bool.not_true, Bool.not_false, decide_true, decide_false, if_true, if_false, Bool.false_eq_true, fldA_ptr, fldA_rop, anil_ptr, lenStr_str, amm_max, amm_min, Nat.zero_add, Nat.add_zero, List.length_cons, List.length_nil, Nat.reduceAdd]
    refine sto_own (cs := [.own ψ 0 0 ps[i].length]) hφ2 (by simp; omega) (by rw [getD_end (by simpa using hql) (by omega)]; rfl) rfl rfl (by simp [AV.one]) ?_
    simp only [ibin_up hlt (by omega), og_some', onr_ret, gval_true, gval_false, pickV_true, pickV_false, apick_true, apick_false, gpick_true, gpick_false, ibin_leq, ibin_geq, ibin_lss, ibin_gtr, ibin_eql, ibin_neq, sbin_eql, sbin_neq, aun_not, Bool.not_true, Bool.not_false, decide_true, decide_false, if_true, if_false, Bool.false_eq_true, fldA_ptr, fldA_rop, anil_ptr, lenStr_str, amm_max, amm_min, Nat.zero_add, Nat.add_zero, List.length_cons, List.length_nil, Nat.reduceAdd]
    refine hR' hlt _ _ (.refl _) ⟨qs ++ [(.own ψ 0 0 ps[i].length, ps[i])], ?_, ?_, ?_, ?_, ?_⟩
    · rw [List.map_append, hq1, List.take_succ_eq_append_getElem hlt]; rfl
    · rw [AH.set_same]
      rw [set_end (by simpa using hql) (by omega), List.map_append, List.append_assoc]
      rfl
    · exact sub_set (hq3.trans k2) hφ
    · intro x hx
      rw [dif_set (AH.set_same ..)]
      rcases List.mem_append.1 hx with hx | hx
      · exact (hq4 x hx).sub (dif_mono (.refl _) k2)
      · obtain rfl := List.mem_singleton.1 hx
        refine .inr ⟨ψ, 0, by simp, ?_⟩
        rw [dif_at (by rw [AH.set_ne' hne]; exact hq3.none k1)]
        exact k3
    · rw [List.pairwise_append]
      refine ⟨hq5, List.pairwise_singleton _ _, ?_⟩
      intro x hx y hy χ f1 f2
      obtain rfl := List.mem_singleton.1 hy
      obtain ⟨_, _, _, e⟩ := f2
      cases e
      obtain ⟨F, hF⟩ := (hq4 x hx).fam_some f1
      have := (dif_some hF).2
      rw [k1] at this; cases this
  · have : ¬ (i : Int) < ps.length := by omega
    obtain rfl : i = ps.length := by omega
    simp only [this, og_some', onr_ret, gval_true, gval_false, pickV_true, pickV_false, apick_true, apick_false, gpick_true, gpick_false, ibin_leq, ibin_geq, ibin_lss, ibin_gtr, ibin_eql, ibin_neq, sbin_eql, sbin_neq, aun_not, Bool.not_true, Bool.not_false, decide_true, decide_false, if_true, if_false, Bool.false_eq_true, fldA_ptr, fldA_rop, anil_ptr, lenStr_str, amm_max, amm_min, Nat.zero_add, Nat.add_zero, List.length_cons, List.length_nil, Nat.reduceAdd]
    have hsub : AH.Sub (dif (σ.set φ ⟨0, 0, []⟩) σi) (dif σ σi) := dif_mono (sub_set (.refl σ) hφ) (.refl _)
    refine ret_here (h _ _ qs hq3 (by simpa using hq1) ⟨?_, fun q hq => (hq4 q hq).sub hsub, ?_, hq5⟩)
    · refine .inr ⟨φ, 0, by simp [hql], ?_⟩
      rw [dif_at hφ, hq2]; simp
    · intro q hq ψ f1 f2
      obtain ⟨_, _, _, e⟩ := f2
      cases e
      obtain ⟨F, hF⟩ := (hq4 q hq).fam_some f1
      have := (dif_some hF).1
      simp at this
theorem c_laws_toSegs {p : AV} {size : Int} {ps : List (List Int)} (hS : Ps σ p ps) (hl : ps.length ≤ 1099511627776) (hm : ∀ p, p ∈ ps → p.length ≤ 1099511627776)
    (h : ∀ v σ' qs, AH.Sub σ σ' → qs.map Prod.snd = ps → PB (dif σ σ') v qs → R (.ret (.agg [iv size, v])) σ') : acall TP fn_laws_toSegs [.agg [iv size, p]] σ R := by
  refine s_laws_toSegs_ok ?_
  unfold s_laws_toSegs
  simp only [abox_agg, new_eq, og_some', onr_ret, gval_true, gval_false, pickV_true, pickV_false, apick_true, apick_false, gpick_true, gpick_false, ibin_leq, ibin_geq, ibin_lss, ibin_gtr, ibin_eql, ibin_neq, sbin_eql, sbin_neq, aun_not, Bool.not_true, Bool.not_false, decide_true, decide_false, if_true, if_false, Bool.false_eq_true, fldA_ptr, fldA_rop, anil_ptr, lenStr_str, amm_max, amm_min, Nat.zero_add, Nat.add_zero, List.length_cons, List.length_nil, Nat.reduceAdd]
  intro φ1 h1 φ2 h2 φ3 h3
  simp only [AH.set_none] at h2 h3
  obtain ⟨n21, h2⟩ := h2
  obtain ⟨n32, n31, h3⟩ := h3
  have g1 : ((((σ.set φ1 ⟨0, 2, [[iv size, p]]⟩).set φ2 ⟨0, 2, [[iv 0, nilS]]⟩).set φ3 ⟨0, 2, [[iv 0, nilS]]⟩)) φ1 = some ⟨0, 2, [[iv size, p]]⟩ := by
    rw [AH.set_ne' (Ne.symm n31), AH.set_ne' (Ne.symm n21), AH.set_same]
  simp only [lod_at (st := 0) (i := 0) (off := 0) (c := iv size) g1 rfl rfl, og_some', onr_ret, gval_true, gval_false, pickV_true, pickV_false, apick_true, apick_false, gpick_true, gpick_false, ibin_leq, ibin_geq, ibin_lss, ibin_gtr, ibin_eql, ibin_neq, sbin_eql, sbin_neq, aun_not, Bool.not_true, Bool.not_false, decide_true, decide_false, if_true, if_false, Bool.false_eq_true, fldA_ptr, fldA_rop, anil_ptr, lenStr_str, amm_max, amm_min, Nat.zero_add, Nat.add_zero, List.length_cons, List.length_nil, Nat.reduceAdd]
  refine sto_fld (sz := 2) (off := 0) (i := 0) (cs := [iv 0, nilS]) (AH.set_same ..) rfl (by omega) rfl rfl ?_
  simp only [List.set_cons_zero, AH.set_set, og_some', onr_ret, gval_true, gval_false, pickV_true, pickV_false, apick_true, apick_false, gpick_true, gpick_false, ibin_leq, ibin_geq, ibin_lss, ibin_gtr, ibin_eql, ibin_neq, sbin_eql, sbin_neq, aun_not, Bool.not_true, Bool.not_false, decide_true, decide_false, if_true, if_false, Bool.false_eq_true, fldA_ptr, fldA_rop, anil_ptr, lenStr_str, amm_max, amm_min, Nat.zero_add, Nat.add_zero, List.length_cons, List.length_nil, Nat.reduceAdd]
  have hs : AH.Sub σ (((σ.set φ1 ⟨0, 2, [[iv size, p]]⟩).set φ2 ⟨0, 2, [[iv 0, nilS]]⟩).set φ3 ⟨0, 2, [[iv size, nilS]]⟩) := sub_set (sub_set (sub_set (.refl σ) h1) h2) h3
  have g2 : ((((σ.set φ1 ⟨0, 2, [[iv size, p]]⟩).set φ2 ⟨0, 2, [[iv 0, nilS]]⟩).set φ3 ⟨0, 2, [[iv size, nilS]]⟩)) φ1 = some ⟨0, 2, [[iv size, p]]⟩ := by
    rw [AH.set_ne' (Ne.symm n31), AH.set_ne' (Ne.symm n21), AH.set_same]
  have g3 : ((((σ.set φ1 ⟨0, 2, [[iv size, p]]⟩).set φ2 ⟨0, 2, [[iv 0, nilS]]⟩).set φ3 ⟨0, 2, [[iv size, nilS]]⟩)) φ2 = some ⟨0, 2, [[iv 0, nilS]]⟩ := by
    rw [AH.set_ne' (Ne.symm n32), AH.set_same]
  simp only [lod_at (st := 0) (i := 0) (off := 1) (c := p) g2 rfl rfl, og_some', onr_ret, gval_true, gval_false, pickV_true, pickV_false, apick_true, apick_false, gpick_true, gpick_false, ibin_leq, ibin_geq, ibin_lss, ibin_gtr, ibin_eql, ibin_neq, sbin_eql, sbin_neq, aun_not, Bool.not_true, Bool.not_false, decide_true, decide_false, if_true, if_false, Bool.false_eq_true, fldA_ptr, fldA_rop, anil_ptr, lenStr_str, amm_max, amm_min, Nat.zero_add, Nat.add_zero, List.length_cons, List.length_nil, Nat.reduceAdd]
  refine c_laws_toSegPartS (hS.sub hs) hl hm fun v σ' qs k1 kq k2 => ?_
  have m3 : σ' φ3 = some ⟨0, 2, [[iv size, nilS]]⟩ := k1.at (AH.set_same ..)
  have m2 := k1.at g3
  have hone : acells v = some [v] ∧ v.one = true := by
    exact (Buf.cs k2.out).one
  simp only [og_some', onr_ret, gval_true, gval_false, pickV_true, pickV_false, apick_true, apick_false, gpick_true, gpick_false, ibin_leq, ibin_geq, ibin_lss, ibin_gtr, ibin_eql, ibin_neq, sbin_eql, sbin_neq, aun_not, Bool.not_true, Bool.not_false, decide_true, decide_false, if_true, if_false, Bool.false_eq_true, fldA_ptr, fldA_rop, anil_ptr, lenStr_str, amm_max, amm_min, Nat.zero_add, Nat.add_zero, List.length_cons, List.length_nil, Nat.reduceAdd]
  refine sto_fld (sz := 2) (off := 1) (i := 0) (cs := [iv size, nilS]) m3 rfl (by omega) hone.1 hone.2 ?_
  have m3' := lodA_at (σ := σ'.set φ3 ⟨0, 2, [[iv size, nilS].set 1 v]⟩) (φ := φ3) (st := 0) (i := 0) (n := 2) (cs := [iv size, v]) (AH.set_same ..) rfl rfl rfl
  simp only [List.set_cons_zero, m3', og_some', onr_ret, gval_true, gval_false, pickV_true, pickV_false, apick_true, apick_false, gpick_true, gpick_false, ibin_leq, ibin_geq, ibin_lss, ibin_gtr, ibin_eql, ibin_neq, sbin_eql, sbin_neq, aun_not, Bool.not_true, Bool.not_false, decide_true, decide_false, if_true, if_false, Bool.false_eq_true, fldA_ptr, fldA_rop, anil_ptr, lenStr_str, amm_max, amm_min, Nat.zero_add, Nat.add_zero, List.length_cons, List.length_nil, Nat.reduceAdd]
  refine sto_own (es := [[iv 0, nilS]]) (cs := [iv size, v]) (by rw [AH.set_ne' (Ne.symm n32)]; exact m2) (by simp) (by simp) rfl rfl ?_ ?_
  · intro x hx
    simp at hx
    rcases hx with rfl | rfl
    · rfl
    · exact hone.2
  simp [lodA, acellsAt]
  refine ret_here (h v _ qs ?_ kq ?_)
  · exact sub_set (sub_set (hs.trans k1) h3) h2
  · refine k2.sub (dif_keep' hs ?_)
    intro ψ hψ _
    simp only [AH.set_none] at hψ
    rw [AH.set_ne' hψ.2.1, AH.set_ne' hψ.1]
end Go.Proofs.Ytoccfncmphipbaa.E
/- Stacks of pieces as arguments of rows. -/
set_option linter.unusedSectionVars false
set_option linter.unusedSimpArgs false
set_option linter.unusedVariables false
namespace Go.Proofs.Ytoccfncmphipbaa.E
open Go Go.RowKit
variable [Lam]
theorem one_of {c : List AV} {x : AV} (hl : c.length = 1) (h : (c.drop 0).take 1 = [x]) : c = [x] := by
  match c, hl with
  | [y], _ => simpa using h
theorem two_of {c : List AV} {x y : AV} (hl : c.length = 2) (h : (c.drop 0).take 1 = [x]) (k : (c.drop 1).take 1 = [y]) : c = [x, y] := by
  match c, hl with
  | [a, b], _ => simp at h k; rw [h, k]
theorem dec_part {P : Program} {m : Nat} {e u : TypeId} {g : Field} {c : List AV} (he : P.underlying e = some (.struct #[g])) (hc : P.cellsOf e = 1) (g0 : g.offset = 0) (gc : P.cellsOf g.type = 1) (hg : P.underlying g.type = some (.slice u))
    (hu : P.underlying u = some (.int .i64)) (h : Sh P (m + 3) e c) : ∃ p : List Int, c = [roN p] ∧ p.length ≤ maxLen := by
  obtain ⟨h1, h2⟩ := dec_struct he h
  have h3 := h2 g (by simp)
  rw [g0, gc] at h3
  obtain ⟨ns, k1, k2, _⟩ := dec_ints hg hu h3
  exact ⟨ns, one_of (by rw [h1, hc]) k1, k2⟩
theorem dec_segs {P : Program} {m : Nat} {t e u : TypeId} {f0 f1 g : Field} {cs : List AV} (ht : P.underlying t = some (.struct #[f0, f1])) (tc : P.cellsOf t = 2) (o0 : f0.offset = 0) (o1 : f1.offset = 1) (c0 : P.cellsOf f0.type = 1) (c1 : P.cellsOf f1.type = 1)
    (hf0 : P.underlying f0.type = some (.int .i64)) (hf1 : P.underlying f1.type = some (.slice e)) (he : P.underlying e = some (.struct #[g])) (hc : P.cellsOf e = 1) (g0 : g.offset = 0) (gc : P.cellsOf g.type = 1) (hg : P.underlying g.type = some (.slice u))
    (hu : P.underlying u = some (.int .i64)) (h : Sh P (m + 5) t cs) : ∃ (size : Int) (ps : List (List Int)), cs = [iv size, roP ps] ∧ (Lit.int .i64 size).wf = true ∧ ps.length ≤ maxLen ∧ ∀ p, p ∈ ps → p.length ≤ maxLen := by
  obtain ⟨h1, h2⟩ := dec_struct ht h
  have h3 := h2 f0 (by simp)
  have h4 := h2 f1 (by simp)
  rw [o0, c0] at h3
  rw [o1, c1] at h4
  obtain ⟨n, k1, k2⟩ := dec_int hf0 h3
  obtain ⟨es, k3, k4, k5⟩ := dec_slice hf1 h4
  obtain ⟨ps, rfl, k6⟩ := exists_map (f := fun p : List Int => [roN p]) (Q := fun p => p.length ≤ maxLen) es fun c hcm => dec_part he hc g0 gc hg hu (k5 c hcm)
  exact ⟨n, ps, two_of (by rw [h1, tc]) k1 k3, k2, by simpa using k4, k6⟩
end Go.Proofs.Ytoccfncmphipbaa.E
/- Stacks of pieces: compared, at fault, their depth. -/
set_option linter.unusedSectionVars false
set_option linter.unusedSimpArgs false
set_option linter.unusedVariables false
namespace Go.Proofs.Ytoccfncmphipbaa.E
open Go Go.RowKit
variable [Lam]
variable {σ : AH} {R : AEnd → AH → Prop}
theorem c_laws_eqInt64S {a b : AV} {ss ts : List Int} (hS : Ns σ a ss) (hT : Ns σ b ts) (hl : ss.length ≤ 1099511627776) (h : R (.ret (bv (decide (ss = ts)))) σ) : acall TP fn_laws_eqInt64S [a, b] σ R := by
  refine s_laws_eqInt64S_ok ?_
  unfold s_laws_eqInt64S
  simp only [hS.len, hT.len, og_some', onr_ret, gval_true, gval_false, pickV_true, pickV_false, apick_true, apick_false, gpick_true, gpick_false, ibin_leq, ibin_geq, ibin_lss, ibin_gtr, ibin_eql, ibin_neq, sbin_eql, sbin_neq, aun_not, Bool.not_true, Bool.not_false, decide_true, decide_false, if_true, if_false, Bool.false_eq_true, fldA_ptr, fldA_rop, anil_ptr, lenStr_str, amm_max, amm_min, Nat.zero_add, Nat.add_zero, List.length_cons, List.length_nil, Nat.reduceAdd]
  by_cases hc : ss.length = ts.length
  · have : ((ss.length : Int) = ts.length) := by omega
    simp only [this, og_some', onr_ret, gval_true, gval_false, pickV_true, pickV_false, apick_true, apick_false, gpick_true, gpick_false, ibin_leq, ibin_geq, ibin_lss, ibin_gtr, ibin_eql, ibin_neq, sbin_eql, sbin_neq, aun_not, Bool.not_true, Bool.not_false, decide_true, decide_false, if_true, if_false, Bool.false_eq_true, fldA_ptr, fldA_rop, anil_ptr, lenStr_str, amm_max, amm_min, Nat.zero_add, Nat.add_zero, List.length_cons, List.length_nil, Nat.reduceAdd]
    refine lp_same ss.length (fun i => (a, b, iv i, ())) (fun i => ss.take i = ts.take i) rfl (by simp) ?_
    intro i hi he R' hR'
    simp only [hS.len, og_some', onr_ret, gval_true, gval_false, pickV_true, pickV_false, apick_true, apick_false, gpick_true, gpick_false, ibin_leq, ibin_geq, ibin_lss, ibin_gtr, ibin_eql, ibin_neq, sbin_eql, sbin_neq, aun_not, Bool.not_true, Bool.not_false, decide_true, decide_false, if_true, if_false, Bool.false_eq_true, fldA_ptr, fldA_rop, anil_ptr, lenStr_str, amm_max, amm_min, Nat.zero_add, Nat.add_zero, List.length_cons, List.length_nil, Nat.reduceAdd]
    by_cases hlt : i < ss.length
    · have : (i : Int) < ss.length := by omega
      obtain ⟨p, hp, hq, _⟩ := hS.at hlt
      obtain ⟨p', hp', hq', _⟩ := hT.at (hc ▸ hlt)
      simp only [this, hp, hq, hp', hq', og_some', onr_ret, gval_true, gval_false, pickV_true, pickV_false, apick_true, apick_false, gpick_true, gpick_false, ibin_leq, ibin_geq, ibin_lss, ibin_gtr, ibin_eql, ibin_neq, sbin_eql, sbin_neq, aun_not, Bool.not_true, Bool.not_false, decide_true, decide_false, if_true, if_false, Bool.false_eq_true, fldA_ptr, fldA_rop, anil_ptr, lenStr_str, amm_max, amm_min, Nat.zero_add, Nat.add_zero, List.length_cons, List.length_nil, Nat.reduceAdd]
      by_cases hx : ss[i] = ts[i]'(hc ▸ hlt)
      · simp only [hx, ibin_up hlt (by omega), og_some', onr_ret, gval_true, gval_false, pickV_true, pickV_false, apick_true, apick_false, gpick_true, gpick_false, ibin_leq, ibin_geq, ibin_lss, ibin_gtr, ibin_eql, ibin_neq, sbin_eql, sbin_neq, aun_not, Bool.not_true, Bool.not_false, decide_true, decide_false, if_true, if_false, Bool.false_eq_true, fldA_ptr, fldA_rop, anil_ptr, lenStr_str, amm_max, amm_min, Nat.zero_add, Nat.add_zero, List.length_cons, List.length_nil, Nat.reduceAdd]
        refine hR' hlt ?_ _ (.refl _)
        rw [List.take_succ_eq_append_getElem hlt, List.take_succ_eq_append_getElem (hc ▸ hlt), he, hx]
      · simp only [hx, og_some', onr_ret, gval_true, gval_false, pickV_true, pickV_false, apick_true, apick_false, gpick_true, gpick_false, ibin_leq, ibin_geq, ibin_lss, ibin_gtr, ibin_eql, ibin_neq, sbin_eql, sbin_neq, aun_not, Bool.not_true, Bool.not_false, decide_true, decide_false, if_true, if_false, Bool.false_eq_true, fldA_ptr, fldA_rop, anil_ptr, lenStr_str, amm_max, amm_min, Nat.zero_add, Nat.add_zero, List.length_cons, List.length_nil, Nat.reduceAdd]
        have : ¬ ss = ts := by rintro rfl; exact hx rfl
        refine ret_here ?_
        simpa [this] using h
    · have : ¬ (i : Int) < ss.length := by omega
      simp only [this, og_some', onr_ret, gval_true, gval_false, pickV_true, pickV_false, apick_true, apick_false, gpick_true, gpick_false, ibin_leq, ibin_geq, ibin_lss, ibin_gtr, ibin_eql, ibin_neq, sbin_eql, sbin_neq, aun_not, Bool.not_true, Bool.not_false, decide_true, decide_false, if_true, if_false, Bool.false_eq_true, fldA_ptr, fldA_rop, anil_ptr, lenStr_str, amm_max, amm_min, Nat.zero_add, Nat.add_zero, List.length_cons, List.length_nil, Nat.reduceAdd]
      obtain rfl : i = ss.length := by omega
      have : ss = ts := by rw [List.take_length, hc, List.take_length] at he; exact he
      refine ret_here ?_
      simpa [this] using h
  · have : ¬ ((ss.length : Int) = ts.length) := by omega
    simp only [this, og_some', onr_ret, gval_true, gval_false, pickV_true, pickV_false, apick_true, apick_false, gpick_true, gpick_false, ibin_leq, ibin_geq, ibin_lss, ibin_gtr, ibin_eql, ibin_neq, sbin_eql, sbin_neq, aun_not, Bool.not_true, Bool.not_false, decide_true, decide_false, if_true, if_false, Bool.false_eq_true, fldA_ptr, fldA_rop, anil_ptr, lenStr_str, amm_max, amm_min, Nat.zero_add, Nat.add_zero, List.length_cons, List.length_nil, Nat.reduceAdd]
    have : ¬ ss = ts := by rintro rfl; exact hc rfl
    refine ret_here ?_
    simpa [this] using h
theorem c_laws_eqSegPart {p q : AV} {xs ys : List Int} (hS : Ns σ p xs) (hT : Ns σ q ys) (hl : xs.length ≤ 1099511627776) (h : R (.ret (bv (decide (xs = ys)))) σ) : acall TP fn_laws_eqSegPart [.agg [p], .agg [q]] σ R := by
  refine s_laws_eqSegPart_ok ?_
  unfold s_laws_eqSegPart
  simp only [abox_agg, og_some', onr_ret, gval_true, gval_false, pickV_true, pickV_false, apick_true, apick_false, gpick_true, gpick_false, ibin_leq, ibin_geq, ibin_lss, ibin_gtr, ibin_eql, ibin_neq, sbin_eql, sbin_neq, aun_not, Bool.not_true, Bool.not_false, decide_true, decide_false, if_true, if_false, Bool.false_eq_true, fldA_ptr, fldA_rop, anil_ptr, lenStr_str, amm_max, amm_min, Nat.zero_add, Nat.add_zero, List.length_cons, List.length_nil, Nat.reduceAdd]
  intro φ hφ ψ hψ
  simp only [AH.set_none] at hψ
  obtain ⟨hne, hψ⟩ := hψ
  have hs : AH.Sub σ ((σ.set φ ⟨0, 1, [[p]]⟩).set ψ ⟨0, 1, [[q]]⟩) := sub_set (sub_set (.refl σ) hφ) hψ
  have e1 : lod (.ptr φ 0 0 0) ((σ.set φ ⟨0, 1, [[p]]⟩).set ψ ⟨0, 1, [[q]]⟩) = some p := lod_at (F := ⟨0, 1, [[p]]⟩) (by rw [AH.set_ne' (Ne.symm hne), AH.set_same]) rfl rfl
  have e2 : lod (.ptr ψ 0 0 0) ((σ.set φ ⟨0, 1, [[p]]⟩).set ψ ⟨0, 1, [[q]]⟩) = some q := lod_at (F := ⟨0, 1, [[q]]⟩) (AH.set_same ..) rfl rfl
  simp only [e1, e2, og_some', onr_ret, gval_true, gval_false, pickV_true, pickV_false, apick_true, apick_false, gpick_true, gpick_false, ibin_leq, ibin_geq, ibin_lss, ibin_gtr, ibin_eql, ibin_neq, sbin_eql, sbin_neq, aun_not, Bool.not_true, Bool.not_false, decide_true, decide_false, if_true, if_false, Bool.false_eq_true, fldA_ptr, fldA_rop, anil_ptr, lenStr_str, amm_max, amm_min, Nat.zero_add, Nat.add_zero, List.length_cons, List.length_nil, Nat.reduceAdd]
  refine c_laws_eqInt64S (hS.sub hs) (hT.sub hs) hl ?_
  simp only [og_some', onr_ret, gval_true, gval_false, pickV_true, pickV_false, apick_true, apick_false, gpick_true, gpick_false, ibin_leq, ibin_geq, ibin_lss, ibin_gtr, ibin_eql, ibin_neq, sbin_eql, sbin_neq, aun_not, Bool.not_true, Bool.not_false, decide_true, decide_false, if_true, if_false, Bool.false_eq_true, fldA_ptr, fldA_rop, anil_ptr, lenStr_str, amm_max, amm_min, Nat.zero_add, Nat.add_zero, List.length_cons, List.length_nil, Nat.reduceAdd]
  by_cases hx : xs = ys
  · simp only [hx, og_some', onr_ret, gval_true, gval_false, pickV_true, pickV_false, apick_true, apick_false, gpick_true, gpick_false, ibin_leq, ibin_geq, ibin_lss, ibin_gtr, ibin_eql, ibin_neq, sbin_eql, sbin_neq, aun_not, Bool.not_true, Bool.not_false, decide_true, decide_false, if_true, if_false, Bool.false_eq_true, fldA_ptr, fldA_rop, anil_ptr, lenStr_str, amm_max, amm_min, Nat.zero_add, Nat.add_zero, List.length_cons, List.length_nil, Nat.reduceAdd] at h ⊢; exact aret_sub hs h
  · simp only [hx, og_some', onr_ret, gval_true, gval_false, pickV_true, pickV_false, apick_true, apick_false, gpick_true, gpick_false, ibin_leq, ibin_geq, ibin_lss, ibin_gtr, ibin_eql, ibin_neq, sbin_eql, sbin_neq, aun_not, Bool.not_true, Bool.not_false, decide_true, decide_false, if_true, if_false, Bool.false_eq_true, fldA_ptr, fldA_rop, anil_ptr, lenStr_str, amm_max, amm_min, Nat.zero_add, Nat.add_zero, List.length_cons, List.length_nil, Nat.reduceAdd] at h ⊢; exact aret_sub hs h
theorem c_laws_eqSegPartS {a b : AV} {ss ts : List (List Int)} (hS : Ps σ a ss) (hT : Ps σ b ts) (hl : ss.length ≤ 1099511627776) (hm : ∀ p, p ∈ ss → p.length ≤ 1099511627776) (h : R (.ret (bv (decide (ss = ts)))) σ) : acall TP fn_laws_eqSegPartS [a, b] σ R := by
  refine s_laws_eqSegPartS_ok ?_
  unfold s_laws_eqSegPartS
  simp only [hS.len, hT.len, og_some', onr_ret, gval_true, gval_false, pickV_true, pickV_false, apick_true, apick_false, gpick_true, gpick_false, ibin_leq, ibin_geq, ibin_lss, ibin_gtr, ibin_eql, ibin_neq, sbin_eql, sbin_neq, aun_not, Bool.not_true, Bool.not_false, decide_true, decide_false, if_true, if_false, Bool.false_eq_true, fldA_ptr, fldA_rop, anil_ptr, lenStr_str, amm_max, amm_min, Nat.zero_add, Nat.add_zero, List.length_cons, List.length_nil, Nat.reduceAdd]
  by_cases hc : ss.length = ts.length
  · have : ((ss.length : Int) = ts.length) := by omega
    simp only [this, og_some', onr_ret, gval_true, gval_false, pickV_true, pickV_false, apick_true, apick_false, gpick_true, gpick_false, ibin_leq, ibin_geq, ibin_lss, ibin_gtr, ibin_eql, ibin_neq, sbin_eql, sbin_neq, aun_not, Bool.not_true, Bool.not_false, decide_true, decide_false, if_true, if_false, Bool.false_eq_true, fldA_ptr, fldA_rop, anil_ptr, lenStr_str, amm_max, amm_min, Nat.zero_add, Nat.add_zero, List.length_cons, List.length_nil, Nat.reduceAdd]
    refine lp_same ss.length (fun i => (a, b, iv i, ())) (fun i => ss.take i = ts.take i) rfl (by simp) ?_
    intro i hi he R' hR'
    simp only [hS.len, og_some', onr_ret, gval_true, gval_false, pickV_true, pickV_false, apick_true, apick_false, gpick_true, gpick_false, ibin_leq, ibin_geq, ibin_lss, ibin_gtr, ibin_eql, ibin_neq, sbin_eql, sbin_neq, aun_not, Bool.not_true, Bool.not_false, decide_true, decide_false, if_true, if_false, Bool.false_eq_true, fldA_ptr, fldA_rop, anil_ptr, lenStr_str, amm_max, amm_min, Nat.zero_add, Nat.add_zero, List.length_cons, List.length_nil, Nat.reduceAdd]
    by_cases hlt : i < ss.length
    · have : (i : Int) < ss.length := by omega
      obtain ⟨p, q, _, hp, hq, _, _, hN⟩ := hS.at hlt
      obtain ⟨p', q', _, hp', hq', _, _, hN'⟩ := hT.at (hc ▸ hlt)
      simp only [this, hp, hq, hp', hq', og_some', onr_ret, gval_true, gval_false, pickV_true, pickV_false, apick_true, apick_false, gpick_true, gpick_false, ibin_leq, ibin_geq, ibin_lss, ibin_gtr, ibin_eql, ibin_neq, sbin_eql, sbin_neq, aun_not, Bool.not_true, Bool.not_false, decide_true, decide_false, if_true, if_false, Bool.false_eq_true, fldA_ptr, fldA_rop, anil_ptr, lenStr_str, amm_max, amm_min, Nat.zero_add, Nat.add_zero, List.length_cons, List.length_nil, Nat.reduceAdd]
      refine c_laws_eqSegPart hN hN' (hm _ (List.getElem_mem hlt)) ?_
      simp only [true_and, og_some', onr_ret, gval_true, gval_false, pickV_true, pickV_false, apick_true, apick_false, gpick_true, gpick_false, ibin_leq, ibin_geq, ibin_lss, ibin_gtr, ibin_eql, ibin_neq, sbin_eql, sbin_neq, aun_not, Bool.not_true, Bool.not_false, decide_true, decide_false, if_true, if_false, Bool.false_eq_true, fldA_ptr, fldA_rop, anil_ptr, lenStr_str, amm_max, amm_min, Nat.zero_add, Nat.add_zero, List.length_cons, List.length_nil, Nat.reduceAdd]
      by_cases hx : ss[i] = ts[i]'(hc ▸ hlt)
      · simp only [hx, ibin_up hlt (by omega), og_some', onr_ret, gval_true, gval_false, pickV_true, pickV_false, apick_true, apick_false, gpick_true, gpick_false, ibin_leq, ibin_geq, ibin_lss, ibin_gtr, ibin_eql, ibin_neq, sbin_eql, sbin_neq, aun_not, Bool.not_true, Bool.not_false, decide_true, decide_false, if_true, if_false, Bool.false_eq_true, fldA_ptr, fldA_rop, anil_ptr, lenStr_str, amm_max, amm_min, Nat.zero_add, Nat.add_zero, List.length_cons, List.length_nil, Nat.reduceAdd]
        refine hR' hlt ?_ _ (.refl _)
        rw [List.take_succ_eq_append_getElem hlt, List.take_succ_eq_append_getElem (hc ▸ hlt), he, hx]
      · simp only [hx, og_some', onr_ret, gval_true, gval_false, pickV_true, pickV_false, apick_true, apick_false, gpick_true, gpick_false, ibin_leq, ibin_geq, ibin_lss, ibin_gtr, ibin_eql, ibin_neq, sbin_eql, sbin_neq, aun_not, Bool.not_true, Bool.not_false, decide_true, decide_false, if_true, if_false, Bool.false_eq_true, fldA_ptr, fldA_rop, anil_ptr, lenStr_str, amm_max, amm_min, Nat.zero_add, Nat.add_zero, List.length_cons, List.length_nil, Nat.reduceAdd]
        have : ¬ ss = ts := by rintro rfl; exact hx rfl
        refine ret_here ?_
        simpa [this] using h
    · have : ¬ (i : Int) < ss.length := by omega
      simp only [this, og_some', onr_ret, gval_true, gval_false, pickV_true, pickV_false, apick_true, apick_false, gpick_true, gpick_false, ibin_leq, ibin_geq, ibin_lss, ibin_gtr, ibin_eql, ibin_neq, sbin_eql, sbin_neq, aun_not, Bool.not_true, Bool.not_false, decide_true, decide_false, if_true, if_false, Bool.false_eq_true, fldA_ptr, fldA_rop, anil_ptr, lenStr_str, amm_max, amm_min, Nat.zero_add, Nat.add_zero, List.length_cons, List.length_nil, Nat.reduceAdd]
      obtain rfl : i = ss.length := by omega
      have : ss = ts := by rw [List.take_length, hc, List.take_length] at he; exact he
      refine ret_here ?_
      simpa [this] using h
  · have : ¬ ((ss.length : Int) = ts.length) := by omega
    simp only [this, og_some', onr_ret, gval_true, gval_false, pickV_true, pickV_false, apick_true, apick_false, gpick_true, gpick_false, ibin_leq, ibin_geq, ibin_lss, ibin_gtr, ibin_eql, ibin_neq, sbin_eql, sbin_neq, aun_not, Bool.not_true, Bool.not_false, decide_true, decide_false, if_true, if_false, Bool.false_eq_true, fldA_ptr, fldA_rop, anil_ptr, lenStr_str, amm_max, amm_min, Nat.zero_add, Nat.add_zero, List.length_cons, List.length_nil, Nat.reduceAdd]
    have : ¬ ss = ts := by rintro rfl; exact hc rfl
    refine ret_here ?_
    simpa [this] using h
theorem c_laws_eqSegs {p q : AV} {n m : Int} {ss ts : List (List Int)} (hS : Ps σ p ss) (hT : Ps σ q ts) (hl : ss.length ≤ 1099511627776) (hm : ∀ p, p ∈ ss → p.length ≤ 1099511627776) (h : R (.ret (bv (decide (n = m) && decide (ss = ts)))) σ) :
    acall TP fn_laws_eqSegs [.agg [iv n, p], .agg [iv m, q]] σ R := by
  refine s_laws_eqSegs_ok ?_
  unfold s_laws_eqSegs
  simp only [abox_agg, og_some', onr_ret, gval_true, gval_false, pickV_true, pickV_false, apick_true, apick_false, gpick_true, gpick_false, ibin_leq, ibin_geq, ibin_lss, ibin_gtr, ibin_eql, ibin_neq, sbin_eql, sbin_neq, aun_not, Bool.not_true, Bool.not_false, decide_true, decide_false, if_true, if_false, Bool.false_eq_true, fldA_ptr, fldA_rop, anil_ptr, lenStr_str, amm_max, amm_min, Nat.zero_add, Nat.add_zero, List.length_cons, List.length_nil, Nat.reduceAdd]
  intro φ hφ ψ hψ
  simp only [AH.set_none] at hψ
  obtain ⟨hne, hψ⟩ := hψ
  have hs : AH.Sub σ ((σ.set φ ⟨0, 2, [[iv n, p]]⟩).set ψ ⟨0, 2, [[iv m, q]]⟩) := sub_set (sub_set (.refl σ) hφ) hψ
  have g1 : ((σ.set φ ⟨0, 2, [[iv n, p]]⟩).set ψ ⟨0, 2, [[iv m, q]]⟩) φ = some ⟨0, 2, [[iv n, p]]⟩ := by rw [AH.set_ne' (Ne.symm hne), AH.set_same]
  have g2 : ((σ.set φ ⟨0, 2, [[iv n, p]]⟩).set ψ ⟨0, 2, [[iv m, q]]⟩) ψ = some ⟨0, 2, [[iv m, q]]⟩ := AH.set_same ..
  simp only [lod_at (st := 0) (i := 0) (off := 0) (c := iv n) g1 rfl rfl, lod_at (st := 0) (i := 0) (off := 1) (c := p) g1 rfl rfl, lod_at (st := 0) (i := 0) (off := 0) (c := iv m) g2 rfl rfl, lod_at (st := 0) (i := 0) (off := 1) (c := q) g2 rfl rfl, og_some', onr_ret, gval_true, gval_false, pickV_true, pickV_false, apick_true, apick_false, gpick_true, gpick_false, ibin_leq, ibin_geq, ibin_lss, ibin_gtr, ibin_eql, ibin_neq, sbin_eql, sbin_neq, aun_not, Bool.not_true, Bool.not_false, decide_true, decide_false, if_true, if_false, Bool.false_eq_true, fldA_ptr, fldA_rop, anil_ptr, lenStr_str, amm_max, amm_min, Nat.zero_add, Nat.add_zero, List.length_cons, List.length_nil, Nat.reduceAdd]
  by_cases hn : n = m
  · simp only [hn, Bool.true_and, og_some', onr_ret, gval_true, gval_false, pickV_true, pickV_false, apick_true, apick_false, gpick_true, gpick_false, ibin_leq, ibin_geq, ibin_lss, ibin_gtr, ibin_eql, ibin_neq, sbin_eql, sbin_neq, aun_not, Bool.not_true, Bool.not_false, decide_true, decide_false, if_true, if_false, Bool.false_eq_true, fldA_ptr, fldA_rop, anil_ptr, lenStr_str, amm_max, amm_min, Nat.zero_add, Nat.add_zero, List.length_cons, List.length_nil, Nat.reduceAdd] at h ⊢
    refine c_laws_eqSegPartS (hS.sub (hn ▸ hs)) (hT.sub (hn ▸ hs)) hl hm ?_
    simp only [og_some', onr_ret, gval_true, gval_false, pickV_true, pickV_false, apick_true, apick_false, gpick_true, gpick_false, ibin_leq, ibin_geq, ibin_lss, ibin_gtr, ibin_eql, ibin_neq, sbin_eql, sbin_neq, aun_not, Bool.not_true, Bool.not_false, decide_true, decide_false, if_true, if_false, Bool.false_eq_true, fldA_ptr, fldA_rop, anil_ptr, lenStr_str, amm_max, amm_min, Nat.zero_add, Nat.add_zero, List.length_cons, List.length_nil, Nat.reduceAdd]
    by_cases hx : ss = ts
    · simp only [hx, og_some', onr_ret, gval_true, gval_false, pickV_true, pickV_false, apick_true, apick_false, gpick_true, gpick_false, ibin_leq, ibin_geq, ibin_lss, ibin_gtr, ibin_eql, ibin_neq, sbin_eql, sbin_neq, aun_not, Bool.not_true, Bool.not_false, decide_true, decide_false, if_true, if_false, Bool.false_eq_true, fldA_ptr, fldA_rop, anil_ptr, lenStr_str, amm_max, amm_min, Nat.zero_add, Nat.add_zero, List.length_cons, List.length_nil, Nat.reduceAdd] at h ⊢; exact aret_sub (hn ▸ hs) h
    · simp only [hx, og_some', onr_ret, gval_true, gval_false, pickV_true, pickV_false, apick_true, apick_false, gpick_true, gpick_false, ibin_leq, ibin_geq, ibin_lss, ibin_gtr, ibin_eql, ibin_neq, sbin_eql, sbin_neq, aun_not, Bool.not_true, Bool.not_false, decide_true, decide_false, if_true, if_false, Bool.false_eq_true, fldA_ptr, fldA_rop, anil_ptr, lenStr_str, amm_max, amm_min, Nat.zero_add, Nat.add_zero, List.length_cons, List.length_nil, Nat.reduceAdd] at h ⊢; exact aret_sub (hn ▸ hs) h
  · simp only [hn, Bool.false_and, og_some', onr_ret, gval_true, gval_false, pickV_true, pickV_false, apick_true, apick_false, gpick_true, gpick_false, ibin_leq, ibin_geq, ibin_lss, ibin_gtr, ibin_eql, ibin_neq, sbin_eql, sbin_neq, aun_not, Bool.not_true, Bool.not_false, decide_true, decide_false, if_true, if_false, Bool.false_eq_true, fldA_ptr, fldA_rop, anil_ptr, lenStr_str, amm_max, amm_min, Nat.zero_add, Nat.add_zero, List.length_cons, List.length_nil, Nat.reduceAdd] at h ⊢
    exact aret_sub hs h

/-! ### at fault -/
/-- What a piece of a stack has to be. -/
def okAt (size : Int) (ps : List (List Int)) (i : Nat) : Prop := ∀ h : i < ps.length, 1 ≤ (ps[i].length : Int) ∧ (ps[i].length : Int) ≤ size ∧ (i + 1 < ps.length → (ps[i].length : Int) = size)
def OkP (size : Int) (ps : List (List Int)) : Prop := ∀ i, okAt size ps i
open Classical in
noncomputable def segF (size : Int) (ps : List (List Int)) : Int := if 1 ≤ size ∧ size ≤ 64 then if OkP size ps then if tot ps > 4000 then 2 else 0 else 1 else 3
theorem c_spec_l12Fault {φ : Nat} {size : Int} {p : AV} {ps : List (List Int)} (hF : σ φ = some ⟨0, 2, [[iv size, p]]⟩) (hP : Ps σ p ps) (hb : ps.length + tot ps ≤ 1099511627776)
    (h : R (.ret (iv (segF size ps))) σ) : acall TP fn_spec_l12Fault [.ptr φ 0 0 0] σ R := by
  refine s_spec_l12Fault_ok ?_
  unfold s_spec_l12Fault
  have e0 := lod_at (st := 0) (i := 0) (off := 0) (c := iv size) hF rfl rfl
  have e1 := lod_at (st := 0) (i := 0) (off := 1) (c := p) hF rfl rfl
  simp only [e0, og_some', onr_ret, gval_true, gval_false, pickV_true, pickV_false, apick_true, apick_false, gpick_true, gpick_false, ibin_leq, ibin_geq, ibin_lss, ibin_gtr, ibin_eql, ibin_neq, sbin_eql, sbin_neq, aun_not, Bool.not_true, Bool.not_false, decide_true, decide_false, if_true, if_false, Bool.false_eq_true, fldA_ptr, fldA_rop, anil_ptr, lenStr_str, amm_max, amm_min, Nat.zero_add, Nat.add_zero, List.length_cons, List.length_nil, Nat.reduceAdd]
  refine c_spec_l12Size ?_
  simp only [og_some', onr_ret, gval_true, gval_false, pickV_true, pickV_false, apick_true, apick_false, gpick_true, gpick_false, ibin_leq, ibin_geq, ibin_lss, ibin_gtr, ibin_eql, ibin_neq, sbin_eql, sbin_neq, aun_not, Bool.not_true, Bool.not_false, decide_true, decide_false, if_true, if_false, Bool.false_eq_true, fldA_ptr, fldA_rop, anil_ptr, lenStr_str, amm_max, amm_min, Nat.zero_add, Nat.add_zero, List.length_cons, List.length_nil, Nat.reduceAdd]
  unfold segF at h
  by_cases hsz : 1 ≤ size ∧ size ≤ 64
  case neg =>
    have : (decide (1 ≤ size) && decide (size ≤ 64)) = false := by simpa using hsz
    simp only [this, og_some', onr_ret, gval_true, gval_false, pickV_true, pickV_false, apick_true, apick_false, gpick_true, gpick_false, ibin_leq, ibin_geq, ibin_lss, ibin_gtr, ibin_eql, ibin_neq, sbin_eql, sbin_neq, aun_not, Bool.not_true, Bool.not_false, decide_true, decide_false, if_true, if_false, Bool.false_eq_true, fldA_ptr, fldA_rop, anil_ptr, lenStr_str, amm_max, amm_min, Nat.zero_add, Nat.add_zero, List.length_cons, List.length_nil, Nat.reduceAdd]
    rw [if_neg hsz] at h
    exact ret_here h
  have : (decide (1 ≤ size) && decide (size ≤ 64)) = true := by simpa using hsz
  simp only [this, og_some', onr_ret, gval_true, gval_false, pickV_true, pickV_false, apick_true, apick_false, gpick_true, gpick_false, ibin_leq, ibin_geq, ibin_lss, ibin_gtr, ibin_eql, ibin_neq, sbin_eql, sbin_neq, aun_not, Bool.not_true, Bool.not_false, decide_true, decide_false, if_true, if_false, Bool.false_eq_true, fldA_ptr, fldA_rop, anil_ptr, lenStr_str, amm_max, amm_min, Nat.zero_add, Nat.add_zero, List.length_cons, List.length_nil, Nat.reduceAdd]
  rw [if_pos hsz] at h
  refine lp_same ps.length (fun i => (.ptr φ 0 0 0, iv (tot (ps.take i)), iv i, ())) (fun i => ∀ j, j < i → okAt size ps j) rfl (fun j hj => by omega) ?_
  intro i hi hok R' hR'
  simp only [e0, e1, hP.len, og_some', onr_ret, gval_true, gval_false, pickV_true, pickV_false, apick_true, apick_false, gpick_true, gpick_false, ibin_leq, ibin_geq, ibin_lss, ibin_gtr, ibin_eql, ibin_neq, sbin_eql, sbin_neq, aun_not, Bool.not_true, Bool.not_false, decide_true, decide_false, if_true, if_false, Bool.false_eq_true, fldA_ptr, fldA_rop, anil_ptr, lenStr_str, amm_max, amm_min, Nat.zero_add, Nat.add_zero, List.length_cons, List.length_nil, Nat.reduceAdd]
  by_cases hlt : i < ps.length
  · have g0 : (i : Int) < ps.length := by omega
    obtain ⟨v, q, v', hp, hq, hf, hl, hN⟩ := hP.at hlt
    have hT := tot_take ps hlt
    have hT2 := tot_at ps hlt
    have hu := ibin_up hlt (by omega : ps.length ≤ 9223372036854775807)
    have ha : ibin .add (.val (.int .i64 (tot (ps.take i) : Nat))) (.val (.int .i64 (ps[i].length : Nat))) = some (.val (.int .i64 (tot (ps.take (i + 1)) : Nat))) := by rw [ibin_add (by omega) (by omega), hT]; rfl
    simp only [g0, hp, hf, hl, hN.len, og_some', onr_ret, gval_true, gval_false, pickV_true, pickV_false, apick_true, apick_false, gpick_true, gpick_false, ibin_leq, ibin_geq, ibin_lss, ibin_gtr, ibin_eql, ibin_neq, sbin_eql, sbin_neq, aun_not, Bool.not_true, Bool.not_false, decide_true, decide_false, if_true, if_false, Bool.false_eq_true, fldA_ptr, fldA_rop, anil_ptr, lenStr_str, amm_max, amm_min, Nat.zero_add, Nat.add_zero, List.length_cons, List.length_nil, Nat.reduceAdd]
    have bad : ¬ okAt size ps i → aret (iv 1) σ R := by
      intro hb
      rw [if_neg (fun hO => hb (hO i))] at h
      exact ret_here h
    by_cases c1 : (ps[i].length : Int) < 1
    · simp only [c1, og_some', onr_ret, gval_true, gval_false, pickV_true, pickV_false, apick_true, apick_false, gpick_true, gpick_false, ibin_leq, ibin_geq, ibin_lss, ibin_gtr, ibin_eql, ibin_neq, sbin_eql, sbin_neq, aun_not, Bool.not_true, Bool.not_false, decide_true, decide_false, if_true, if_false, Bool.false_eq_true, fldA_ptr, fldA_rop, anil_ptr, lenStr_str, amm_max, amm_min, Nat.zero_add, Nat.add_zero, List.length_cons, List.length_nil, Nat.reduceAdd]
      exact bad (fun hO => by have := (hO hlt).1; omega)
    by_cases c2 : size < (ps[i].length : Int)
    · simp only [c1, c2, e0, og_some', onr_ret, gval_true, gval_false, pickV_true, pickV_false, apick_true, apick_false, gpick_true, gpick_false, ibin_leq, ibin_geq, ibin_lss, ibin_gtr, ibin_eql, ibin_neq, sbin_eql, sbin_neq, aun_not, Bool.not_true, Bool.not_false, decide_true, decide_false, if_true, if_false, Bool.false_eq_true, fldA_ptr, fldA_rop, anil_ptr, lenStr_str, amm_max, amm_min, Nat.zero_add, Nat.add_zero, List.length_cons, List.length_nil, Nat.reduceAdd]
      exact bad (fun hO => by have := (hO hlt).2.1; omega)
    have good : okAt size ps i → R' (.ptr φ 0 0 0, .val (.int .i64 (tot (ps.take (i + 1)) : Nat)), .val (.int .i64 ((i + 1 : Nat) : Int)), ()) σ := by
      intro hO
      refine hR' hlt (fun j hj => ?_) _ (.refl _)
      by_cases h : j < i
      · exact hok j h
      · have e : j = i := Nat.le_antisymm (Nat.le_of_lt_succ hj) (Nat.le_of_not_lt h)
        rw [e]; exact hO
    by_cases c3 : i + 1 < ps.length
    · have c3' : ((i + 1 : Nat) : Int) < (ps.length : Int) := by omega
      by_cases c4 : (ps[i].length : Int) = size
      · simp only [c1, c2, c3', decide_eq_true c4, hu, ha, e0, e1, hP.len, hp, hf, hl, hN.len, og_some', onr_ret, gval_true, gval_false, pickV_true, pickV_false, apick_true, apick_false, gpick_true, gpick_false, ibin_leq, ibin_geq, ibin_lss, ibin_gtr, ibin_eql, ibin_neq, sbin_eql, sbin_neq, aun_not, Bool.not_true, Bool.not_false, decide_true, decide_false, if_true, if_false, Bool.false_eq_true, fldA_ptr, fldA_rop, anil_ptr, lenStr_str, amm_max, amm_min, Nat.zero_add, Nat.add_zero, List.length_cons, List.length_nil, Nat.reduceAdd]
        exact good (fun _ => ⟨by omega, by omega, fun _ => c4⟩)
      · simp only [c1, c2, c3', decide_eq_false c4, hu, ha, e0, e1, hP.len, hp, hf, hl, hN.len, og_some', onr_ret, gval_true, gval_false, pickV_true, pickV_false, apick_true, apick_false, gpick_true, gpick_false, ibin_leq, ibin_geq, ibin_lss, ibin_gtr, ibin_eql, ibin_neq, sbin_eql, sbin_neq, aun_not, Bool.not_true, Bool.not_false, decide_true, decide_false, if_true, if_false, Bool.false_eq_true, fldA_ptr, fldA_rop, anil_ptr, lenStr_str, amm_max, amm_min, Nat.zero_add, Nat.add_zero, List.length_cons, List.length_nil, Nat.reduceAdd]
        exact bad (fun hO => c4 ((hO hlt).2.2 c3))
    · have c3' : ¬ ((i + 1 : Nat) : Int) < (ps.length : Int) := by omega
      simp only [c1, c2, c3', hu, ha, e0, e1, hP.len, hp, hf, hl, hN.len, og_some', onr_ret, gval_true, gval_false, pickV_true, pickV_false, apick_true, apick_false, gpick_true, gpick_false, ibin_leq, ibin_geq, ibin_lss, ibin_gtr, ibin_eql, ibin_neq, sbin_eql, sbin_neq, aun_not, Bool.not_true, Bool.not_false, decide_true, decide_false, if_true, if_false, Bool.false_eq_true, fldA_ptr, fldA_rop, anil_ptr, lenStr_str, amm_max, amm_min, Nat.zero_add, Nat.add_zero, List.length_cons, List.length_nil, Nat.reduceAdd]
      exact good (fun _ => ⟨by omega, by omega, fun h => absurd h c3⟩)
  · have g0 : ¬ (i : Int) < ps.length := by omega
    obtain rfl : i = ps.length := by omega
    simp only [g0, og_some', onr_ret, gval_true, gval_false, pickV_true, pickV_false, apick_true, apick_false, gpick_true, gpick_false, ibin_leq, ibin_geq, ibin_lss, ibin_gtr, ibin_eql, ibin_neq, sbin_eql, sbin_neq, aun_not, Bool.not_true, Bool.not_false, decide_true, decide_false, if_true, if_false, Bool.false_eq_true, fldA_ptr, fldA_rop, anil_ptr, lenStr_str, amm_max, amm_min, Nat.zero_add, Nat.add_zero, List.length_cons, List.length_nil, Nat.reduceAdd]
    have hO : OkP size ps := fun j hj => hok j hj hj
    rw [if_pos hO] at h
    rw [List.take_length]
    by_cases c : 4000 < tot ps
    · have c' : (4000 : Int) < tot ps := by omega
      simp only [c', og_some', onr_ret, gval_true, gval_false, pickV_true, pickV_false, apick_true, apick_false, gpick_true, gpick_false, ibin_leq, ibin_geq, ibin_lss, ibin_gtr, ibin_eql, ibin_neq, sbin_eql, sbin_neq, aun_not, Bool.not_true, Bool.not_false, decide_true, decide_false, if_true, if_false, Bool.false_eq_true, fldA_ptr, fldA_rop, anil_ptr, lenStr_str, amm_max, amm_min, Nat.zero_add, Nat.add_zero, List.length_cons, List.length_nil, Nat.reduceAdd]
      rw [if_pos (by omega)] at h; exact ret_here h
    · have c' : ¬ (4000 : Int) < tot ps := by omega
      simp only [c', og_some', onr_ret, gval_true, gval_false, pickV_true, pickV_false, apick_true, apick_false, gpick_true, gpick_false, ibin_leq, ibin_geq, ibin_lss, ibin_gtr, ibin_eql, ibin_neq, sbin_eql, sbin_neq, aun_not, Bool.not_true, Bool.not_false, decide_true, decide_false, if_true, if_false, Bool.false_eq_true, fldA_ptr, fldA_rop, anil_ptr, lenStr_str, amm_max, amm_min, Nat.zero_add, Nat.add_zero, List.length_cons, List.length_nil, Nat.reduceAdd]
      rw [if_neg (by omega)] at h; exact ret_here h
theorem c_impl_SegsFault {size : Int} {p : AV} {ps : List (List Int)} (hP : Ps σ p ps) (hb : ps.length + tot ps ≤ 1099511627776)
    (h : R (.ret (iv (segF size ps))) σ) : acall TP fn_impl_SegsFault [.agg [iv size, p]] σ R := by
  refine s_impl_SegsFault_ok ?_
  unfold s_impl_SegsFault
  simp only [abox_agg, og_some', onr_ret, gval_true, gval_false, pickV_true, pickV_false, apick_true, apick_false, gpick_true, gpick_false, ibin_leq, ibin_geq, ibin_lss, ibin_gtr, ibin_eql, ibin_neq, sbin_eql, sbin_neq, aun_not, Bool.not_true, Bool.not_false, decide_true, decide_false, if_true, if_false, Bool.false_eq_true, fldA_ptr, fldA_rop, anil_ptr, lenStr_str, amm_max, amm_min, Nat.zero_add, Nat.add_zero, List.length_cons, List.length_nil, Nat.reduceAdd]
  intro φ hφ
  have hs : AH.Sub σ (σ.set φ ⟨0, 2, [[iv size, p]]⟩) := sub_set (.refl σ) hφ
  have hF : (σ.set φ ⟨0, 2, [[iv size, p]]⟩) φ = some ⟨0, 2, [[iv size, p]]⟩ := AH.set_same ..
  generalize hσ1 : σ.set φ ⟨0, 2, [[iv size, p]]⟩ = σ1 at hs hF ⊢
  have hP1 := hP.sub hs
  have e0 := lod_at (st := 0) (i := 0) (off := 0) (c := iv size) hF rfl rfl
  have e1 := lod_at (st := 0) (i := 0) (off := 1) (c := p) hF rfl rfl
  simp only [e0, og_some', onr_ret, gval_true, gval_false, pickV_true, pickV_false, apick_true, apick_false, gpick_true, gpick_false, ibin_leq, ibin_geq, ibin_lss, ibin_gtr, ibin_eql, ibin_neq, sbin_eql, sbin_neq, aun_not, Bool.not_true, Bool.not_false, decide_true, decide_false, if_true, if_false, Bool.false_eq_true, fldA_ptr, fldA_rop, anil_ptr, lenStr_str, amm_max, amm_min, Nat.zero_add, Nat.add_zero, List.length_cons, List.length_nil, Nat.reduceAdd]
  refine c_impl_isSize ?_
  simp only [og_some', onr_ret, gval_true, gval_false, pickV_true, pickV_false, apick_true, apick_false, gpick_true, gpick_false, ibin_leq, ibin_geq, ibin_lss, ibin_gtr, ibin_eql, ibin_neq, sbin_eql, sbin_neq, aun_not, Bool.not_true, Bool.not_false, decide_true, decide_false, if_true, if_false, Bool.false_eq_true, fldA_ptr, fldA_rop, anil_ptr, lenStr_str, amm_max, amm_min, Nat.zero_add, Nat.add_zero, List.length_cons, List.length_nil, Nat.reduceAdd]
  unfold segF at h
  by_cases hsz : 1 ≤ size ∧ size ≤ 64
  case neg =>
    have : (decide (1 ≤ size) && decide (size ≤ 64)) = false := by simpa using hsz
    simp only [this, og_some', onr_ret, gval_true, gval_false, pickV_true, pickV_false, apick_true, apick_false, gpick_true, gpick_false, ibin_leq, ibin_geq, ibin_lss, ibin_gtr, ibin_eql, ibin_neq, sbin_eql, sbin_neq, aun_not, Bool.not_true, Bool.not_false, decide_true, decide_false, if_true, if_false, Bool.false_eq_true, fldA_ptr, fldA_rop, anil_ptr, lenStr_str, amm_max, amm_min, Nat.zero_add, Nat.add_zero, List.length_cons, List.length_nil, Nat.reduceAdd]
    rw [if_neg hsz] at h
    exact aret_sub hs h
  have : (decide (1 ≤ size) && decide (size ≤ 64)) = true := by simpa using hsz
  simp only [this, og_some', onr_ret, gval_true, gval_false, pickV_true, pickV_false, apick_true, apick_false, gpick_true, gpick_false, ibin_leq, ibin_geq, ibin_lss, ibin_gtr, ibin_eql, ibin_neq, sbin_eql, sbin_neq, aun_not, Bool.not_true, Bool.not_false, decide_true, decide_false, if_true, if_false, Bool.false_eq_true, fldA_ptr, fldA_rop, anil_ptr, lenStr_str, amm_max, amm_min, Nat.zero_add, Nat.add_zero, List.length_cons, List.length_nil, Nat.reduceAdd]
  rw [if_pos hsz] at h
  simp only [e1, hP.len, ibin_sub (a := ps.length) (b := 1) (by omega) (by omega), og_some', onr_ret, gval_true, gval_false, pickV_true, pickV_false, apick_true, apick_false, gpick_true, gpick_false, ibin_leq, ibin_geq, ibin_lss, ibin_gtr, ibin_eql, ibin_neq, sbin_eql, sbin_neq, aun_not, Bool.not_true, Bool.not_false, decide_true, decide_false, if_true, if_false, Bool.false_eq_true, fldA_ptr, fldA_rop, anil_ptr, lenStr_str, amm_max, amm_min, Nat.zero_add, Nat.add_zero, List.length_cons, List.length_nil, Nat.reduceAdd]
  refine lp_same ps.length (fun i => (.ptr φ 0 0 0, iv (tot (ps.take i)), iv (ps.length - 1), p, iv ps.length, iv i, ())) (fun i => ∀ j, j < i → okAt size ps j) rfl (fun j hj => by omega) ?_
  intro i hi hok R' hR'
  by_cases hlt : i < ps.length
  · have g0 : (i : Int) < ps.length := by omega
    obtain ⟨v, q, v', hp, hq, hf, hl, hN⟩ := hP1.at hlt
    have hT := tot_take ps hlt
    have hT2 := tot_at ps hlt
    have hu := ibin_up hlt (by omega : ps.length ≤ 9223372036854775807)
    have ha : ibin .add (.val (.int .i64 (tot (ps.take i) : Nat))) (.val (.int .i64 (ps[i].length : Nat))) = some (.val (.int .i64 (tot (ps.take (i + 1)) : Nat))) := by rw [ibin_add (by omega) (by omega), hT]; rfl
    simp only [g0, hp, hq, new_eq, og_some', onr_ret, gval_true, gval_false, pickV_true, pickV_false, apick_true, apick_false, gpick_true, gpick_false, ibin_leq, ibin_geq, ibin_lss, ibin_gtr, ibin_eql, ibin_neq, sbin_eql, sbin_neq, aun_not, Bool.not_true, Bool.not_false, decide_true, decide_false, if_true, if_false, Bool.false_eq_true, fldA_ptr, fldA_rop, anil_ptr, lenStr_str, amm_max, amm_min, Nat.zero_add, Nat.add_zero, List.length_cons, List.length_nil, Nat.reduceAdd]
    intro ψ hψ
    have hne : ψ ≠ φ := by rintro rfl; rw [hF] at hψ; cases hψ
    have hN1 := hN.one
    refine sto_own (es := [[nilS]]) (cs := [q]) (AH.set_same ..) (by simp) (by simp) rfl rfl (by simpa using hN1.2) ?_
    simp only [List.set_cons_zero, AH.set_set]
    have hs2 : AH.Sub σ1 (σ1.set ψ ⟨0, 1, [[q]]⟩) := sub_set (.refl σ1) hψ
    have hF2 := hs2.at hF
    have e0' := lod_at (st := 0) (i := 0) (off := 0) (c := iv size) hF2 rfl rfl
    have eq := lod_at (σ := σ1.set ψ ⟨0, 1, [[q]]⟩) (φ := ψ) (st := 0) (i := 0) (off := 0) (c := q) (AH.set_same ..) rfl rfl
    simp only [e0', eq, hN.len, og_some', onr_ret, gval_true, gval_false, pickV_true, pickV_false, apick_true, apick_false, gpick_true, gpick_false, ibin_leq, ibin_geq, ibin_lss, ibin_gtr, ibin_eql, ibin_neq, sbin_eql, sbin_neq, aun_not, Bool.not_true, Bool.not_false, decide_true, decide_false, if_true, if_false, Bool.false_eq_true, fldA_ptr, fldA_rop, anil_ptr, lenStr_str, amm_max, amm_min, Nat.zero_add, Nat.add_zero, List.length_cons, List.length_nil, Nat.reduceAdd]
    have bad : ¬ okAt size ps i → aret (iv 1) (σ1.set ψ ⟨0, 1, [[q]]⟩) R := by
      intro hb
      rw [if_neg (fun hO => hb (hO i))] at h
      exact aret_sub (hs.trans hs2) h
    have good : okAt size ps i → R' (.ptr φ 0 0 0, .val (.int .i64 (tot (ps.take (i + 1)) : Nat)), iv (ps.length - 1), p, iv ps.length, .val (.int .i64 ((i + 1 : Nat) : Int)), ()) (σ1.set ψ ⟨0, 1, [[q]]⟩) := by
      intro hO
      refine hR' hlt (fun j hj => ?_) _ hs2
      by_cases h : j < i
      · exact hok j h
      · have e : j = i := Nat.le_antisymm (Nat.le_of_lt_succ hj) (Nat.le_of_not_lt h)
        rw [e]; exact hO
    refine c_impl_in ?_
    simp only [og_some', onr_ret, gval_true, gval_false, pickV_true, pickV_false, apick_true, apick_false, gpick_true, gpick_false, ibin_leq, ibin_geq, ibin_lss, ibin_gtr, ibin_eql, ibin_neq, sbin_eql, sbin_neq, aun_not, Bool.not_true, Bool.not_false, decide_true, decide_false, if_true, if_false, Bool.false_eq_true, fldA_ptr, fldA_rop, anil_ptr, lenStr_str, amm_max, amm_min, Nat.zero_add, Nat.add_zero, List.length_cons, List.length_nil, Nat.reduceAdd]
    by_cases c1 : 1 ≤ (ps[i].length : Int) ∧ (ps[i].length : Int) ≤ size
    · have c1' : (decide (1 ≤ (ps[i].length : Int)) && decide ((ps[i].length : Int) ≤ size)) = true := by simpa using c1
      by_cases c3 : i + 1 < ps.length
      · have c3' : (i : Int) < (ps.length : Int) - 1 := by clear bad good; omega
        by_cases c4 : (ps[i].length : Int) = size
        · simp only [c1', c3', decide_eq_true c4, hu, ha, e0', eq, hN.len, og_some', onr_ret, gval_true, gval_false, pickV_true, pickV_false, apick_true, apick_false, gpick_true, gpick_false, ibin_leq, ibin_geq, ibin_lss, ibin_gtr, ibin_eql, ibin_neq, sbin_eql, sbin_neq, aun_not, Bool.not_true, Bool.not_false, decide_true, decide_false, if_true, if_false, Bool.false_eq_true, fldA_ptr, fldA_rop, anil_ptr, lenStr_str, amm_max, amm_min, Nat.zero_add, Nat.add_zero, List.length_cons, List.length_nil, Nat.reduceAdd]
          exact good (fun _ => ⟨c1.1, c1.2, fun _ => c4⟩)
        · simp only [c1', c3', decide_eq_false c4, hu, ha, e0', eq, hN.len, og_some', onr_ret, gval_true, gval_false, pickV_true, pickV_false, apick_true, apick_false, gpick_true, gpick_false, ibin_leq, ibin_geq, ibin_lss, ibin_gtr, ibin_eql, ibin_neq, sbin_eql, sbin_neq, aun_not, Bool.not_true, Bool.not_false, decide_true, decide_false, if_true, if_false, Bool.false_eq_true, fldA_ptr, fldA_rop, anil_ptr, lenStr_str, amm_max, amm_min, Nat.zero_add, Nat.add_zero, List.length_cons, List.length_nil, Nat.reduceAdd]
          exact bad (fun hO => c4 ((hO hlt).2.2 c3))
      · have c3' : ¬ (i : Int) < (ps.length : Int) - 1 := by clear bad good; omega
        simp only [c1', c3', hu, ha, e0', eq, hN.len, og_some', onr_ret, gval_true, gval_false, pickV_true, pickV_false, apick_true, apick_false, gpick_true, gpick_false, ibin_leq, ibin_geq, ibin_lss, ibin_gtr, ibin_eql, ibin_neq, sbin_eql, sbin_neq, aun_not, Bool.not_true, Bool.not_false, decide_true, decide_false, if_true, if_false, Bool.false_eq_true, fldA_ptr, fldA_rop, anil_ptr, lenStr_str, amm_max, amm_min, Nat.zero_add, Nat.add_zero, List.length_cons, List.length_nil, Nat.reduceAdd]
        exact good (fun _ => ⟨c1.1, c1.2, fun h => absurd h c3⟩)
    · have c1' : (decide (1 ≤ (ps[i].length : Int)) && decide ((ps[i].length : Int) ≤ size)) = false := by simpa using c1
      simp only [c1', og_some', onr_ret, gval_true, gval_false, pickV_true, pickV_false, apick_true, apick_false, gpick_true, gpick_false, ibin_leq, ibin_geq, ibin_lss, ibin_gtr, ibin_eql, ibin_neq, sbin_eql, sbin_neq, aun_not, Bool.not_true, Bool.not_false, decide_true, decide_false, if_true, if_false, Bool.false_eq_true, fldA_ptr, fldA_rop, anil_ptr, lenStr_str, amm_max, amm_min, Nat.zero_add, Nat.add_zero, List.length_cons, List.length_nil, Nat.reduceAdd]
      exact bad (fun hO => c1 ⟨(hO hlt).1, (hO hlt).2.1⟩)
  · have g0 : ¬ (i : Int) < ps.length := by omega
    obtain rfl : i = ps.length := by omega
    simp only [g0, og_some', onr_ret, gval_true, gval_false, pickV_true, pickV_false, apick_true, apick_false, gpick_true, gpick_false, ibin_leq, ibin_geq, ibin_lss, ibin_gtr, ibin_eql, ibin_neq, sbin_eql, sbin_neq, aun_not, Bool.not_true, Bool.not_false, decide_true, decide_false, if_true, if_false, Bool.false_eq_true, fldA_ptr, fldA_rop, anil_ptr, lenStr_str, amm_max, amm_min, Nat.zero_add, Nat.add_zero, List.length_cons, List.length_nil, Nat.reduceAdd]
    have hO : OkP size ps := fun j hj => hok j hj hj
    rw [if_pos hO] at h
    rw [List.take_length]
    by_cases c : 4000 < tot ps
    · have c' : (4000 : Int) < tot ps := by omega
      simp only [c', og_some', onr_ret, gval_true, gval_false, pickV_true, pickV_false, apick_true, apick_false, gpick_true, gpick_false, ibin_leq, ibin_geq, ibin_lss, ibin_gtr, ibin_eql, ibin_neq, sbin_eql, sbin_neq, aun_not, Bool.not_true, Bool.not_false, decide_true, decide_false, if_true, if_false, Bool.false_eq_true, fldA_ptr, fldA_rop, anil_ptr, lenStr_str, amm_max, amm_min, Nat.zero_add, Nat.add_zero, List.length_cons, List.length_nil, Nat.reduceAdd]
      rw [if_pos (by omega)] at h; exact aret_sub hs h
    · have c' : ¬ (4000 : Int) < tot ps := by omega
      simp only [c', og_some', onr_ret, gval_true, gval_false, pickV_true, pickV_false, apick_true, apick_false, gpick_true, gpick_false, ibin_leq, ibin_geq, ibin_lss, ibin_gtr, ibin_eql, ibin_neq, sbin_eql, sbin_neq, aun_not, Bool.not_true, Bool.not_false, decide_true, decide_false, if_true, if_false, Bool.false_eq_true, fldA_ptr, fldA_rop, anil_ptr, lenStr_str, amm_max, amm_min, Nat.zero_add, Nat.add_zero, List.length_cons, List.length_nil, Nat.reduceAdd]
      rw [if_neg (by omega)] at h; exact aret_sub hs h
end Go.Proofs.Ytoccfncmphipbaa.E
/- SegsFault, DepthSegs. -/
set_option linter.unusedSectionVars false
set_option linter.unusedSimpArgs false
set_option linter.unusedVariables false
namespace Go.Proofs.Ytoccfncmphipbaa.E
open Go Go.RowKit
variable [Lam]
variable {σ : AH} {R : AEnd → AH → Prop}
theorem c_laws_toSegs_ro {p : AV} {size : Int} {ps : List (List Int)} (hS : Ps σ p ps) (hl : ps.length ≤ 1099511627776) (hm : ∀ p, p ∈ ps → p.length ≤ 1099511627776)
    (h : R (.ret (roG size ps)) σ) : acall TP fn_laws_toSegs [.agg [iv size, p]] σ R := by
  refine acall_imp (Q := fun e σ' => ∃ v, e = .ret (.agg [iv size, v]) ∧ AH.Sub σ σ' ∧ Ps (dif σ σ') v ps) (c_laws_toSegs hS hl hm fun v σ' qs h1 hq h2 => ⟨v, rfl, h1, hq ▸ h2.ps⟩) ?_
  rintro e σ' ⟨v, rfl, h1, h2⟩
  exact ⟨_, rfl, _, σ, imp_freeze h1 (.agg2 (.same _) h2.fz), h⟩
theorem tot_mem {ps : List (List Int)} {n : Nat} (h : tot ps ≤ n) : ∀ p, p ∈ ps → p.length ≤ n := by
  intro p hp
  obtain ⟨i, hi, rfl⟩ := List.getElem_of_mem hp
  have := tot_at ps hi; omega
/-! ### depth -/
def lastLen : List (List Int) → Nat
  | [] => 0
  | [p] => p.length
  | _ :: ps => lastLen ps
theorem okAt_tail {size : Int} {p : List Int} {ps : List (List Int)} (h : OkP size (p :: ps)) : OkP size ps := by
  intro i hi
  have := h (i + 1) (by simpa using hi)
  simpa using this
theorem tot_ok {size : Int} : ∀ {ps : List (List Int)}, OkP size ps → ps ≠ [] → (tot ps : Int) = ((ps.length : Int) - 1) * size + lastLen ps := by
  intro ps
  induction ps with
  | nil => intro _ h; exact absurd rfl h
  | cons p ps ih =>
    intro h _
    cases ps with
    | nil => simp [tot, lastLen]
    | cons q ps =>
      have h1 := ih (okAt_tail h) (by simp)
      have h2 := (h 0 (by simp)).2.2 (by simp)
      simp only [List.getElem_cons_zero] at h2
      have e1 : (((p :: q :: ps).length : Int) - 1) * size = (((q :: ps).length : Int) - 1) * size + size := by
        have : ((p :: q :: ps).length : Int) - 1 = (((q :: ps).length : Int) - 1) + 1 := by simp
        rw [this, Int.add_mul, Int.one_mul]
      have e2 : (tot (p :: q :: ps) : Int) = p.length + tot (q :: ps) := by simp [tot]
      rw [e1, e2, h1, h2]
      simp only [lastLen]
      omega
theorem lastLen_eq : ∀ {ps : List (List Int)} (h : ps.length - 1 < ps.length), lastLen ps = (ps[ps.length - 1]).length := by
  intro ps
  induction ps with
  | nil => intro h; simp at h
  | cons p ps ih =>
    intro h
    cases ps with
    | nil => rfl
    | cons q ps =>
      have := ih (by simp)
      simp only [lastLen, this]
      congr 1
theorem seg_ok {size : Int} {ps : List (List Int)} (h : segF size ps = 0) : (1 ≤ size ∧ size ≤ 64) ∧ OkP size ps ∧ tot ps ≤ 4000 := by
  unfold segF at h
  split at h
  · split at h
    · split at h
      · cases h
      · exact ⟨‹_›, ‹_›, by omega⟩
    · cases h
  · cases h
theorem c_spec_l12Depth {φ : Nat} {size : Int} {p : AV} {ps : List (List Int)} (hF : σ φ = some ⟨0, 2, [[iv size, p]]⟩) (hP : Ps σ p ps) (hsz : 1 ≤ size ∧ size ≤ 64) (hO : OkP size ps) (hb : ps.length + tot ps ≤ 1099511627776)
    (h : R (.ret (iv (tot ps))) σ) : acall TP fn_spec_l12Depth [.ptr φ 0 0 0] σ R := by
  refine s_spec_l12Depth_ok ?_
  unfold s_spec_l12Depth
  have e0 := lod_at (st := 0) (i := 0) (off := 0) (c := iv size) hF rfl rfl
  have e1 := lod_at (st := 0) (i := 0) (off := 1) (c := p) hF rfl rfl
  simp only [e0, e1, hP.len, og_some', onr_ret, gval_true, gval_false, pickV_true, pickV_false, apick_true, apick_false, gpick_true, gpick_false, ibin_leq, ibin_geq, ibin_lss, ibin_gtr, ibin_eql, ibin_neq, sbin_eql, sbin_neq, aun_not, Bool.not_true, Bool.not_false, decide_true, decide_false, if_true, if_false, Bool.false_eq_true, fldA_ptr, fldA_rop, anil_ptr, lenStr_str, amm_max, amm_min, Nat.zero_add, Nat.add_zero, List.length_cons, List.length_nil, Nat.reduceAdd]
  by_cases c : ps = []
  · subst c
    have : (([] : List (List Int)).length : Int) = 0 := rfl
    simp only [this, og_some', onr_ret, gval_true, gval_false, pickV_true, pickV_false, apick_true, apick_false, gpick_true, gpick_false, ibin_leq, ibin_geq, ibin_lss, ibin_gtr, ibin_eql, ibin_neq, sbin_eql, sbin_neq, aun_not, Bool.not_true, Bool.not_false, decide_true, decide_false, if_true, if_false, Bool.false_eq_true, fldA_ptr, fldA_rop, anil_ptr, lenStr_str, amm_max, amm_min, Nat.zero_add, Nat.add_zero, List.length_cons, List.length_nil, Nat.reduceAdd]
    exact ret_here h
  · have hpos : 0 < ps.length := List.length_pos_iff.2 c
    have c' : ¬ ((ps.length : Int) = 0) := by omega
    have hT := tot_ok hO c
    have hlt : ps.length - 1 < ps.length := by omega
    have hi : ((ps.length - 1 : Nat) : Int) = (ps.length : Int) - 1 := by omega
    obtain ⟨v, q, v', hp, hq, hf, hl, hN⟩ := hP.at hlt
    rw [hi] at hp
    have hL := lastLen_eq hlt
    have hmul : 0 ≤ ((ps.length : Int) - 1) * size := Int.mul_nonneg (by omega) (by omega)
    have s1 := ibin_sub (a := ps.length) (b := 1) (by omega) (by omega)
    have s2 := ibin_mul (a := (ps.length : Int) - 1) (b := size) (by omega) (by omega)
    have s3 : ibin .add (.val (.int .i64 (((ps.length : Int) - 1) * size))) (.val (.int .i64 ((ps[ps.length - 1]).length : Nat))) = some (.val (.int .i64 (tot ps : Nat))) := by
      rw [ibin_add (by omega) (by omega), hT, hL]
    simp only [c', s1, s2, hp, hf, hl, hN.len, s3, og_some', onr_ret, gval_true, gval_false, pickV_true, pickV_false, apick_true, apick_false, gpick_true, gpick_false, ibin_leq, ibin_geq, ibin_lss, ibin_gtr, ibin_eql, ibin_neq, sbin_eql, sbin_neq, aun_not, Bool.not_true, Bool.not_false, decide_true, decide_false, if_true, if_false, Bool.false_eq_true, fldA_ptr, fldA_rop, anil_ptr, lenStr_str, amm_max, amm_min, Nat.zero_add, Nat.add_zero, List.length_cons, List.length_nil, Nat.reduceAdd]
    exact ret_here h
theorem flat_take (ps : List (List Int)) {i : Nat} (hi : i < ps.length) : (ps.take (i + 1)).flatten = (ps.take i).flatten ++ ps[i] := by
  rw [List.take_succ_eq_append_getElem hi, List.flatten_append]; simp
theorem c_impl_Segs_items {size : Int} {p : AV} {ps : List (List Int)} (hP : Ps σ p ps) (hb : ps.length + tot ps ≤ 1099511627776) (hb2 : tot ps ≤ 4294967296)
    (h : ∀ v σ', AH.Sub σ σ' → Buf (dif σ σ') 1 v (ps.flatten.map fun x => [iv x]) → R (.ret v) σ') : acall TP fn_impl_Segs_items [.agg [iv size, p]] σ R := by
  refine s_impl_Segs_items_ok ?_
  unfold s_impl_Segs_items
  simp only [abox_agg, og_some', onr_ret, gval_true, gval_false, pickV_true, pickV_false, apick_true, apick_false, gpick_true, gpick_false, ibin_leq, ibin_geq, ibin_lss, ibin_gtr, ibin_eql, ibin_neq, sbin_eql, sbin_neq, aun_not, Bool.not_true, Bool.not_false, decide_true, decide_false, if_true, if_false, Bool.false_eq_true, fldA_ptr, fldA_rop, anil_ptr, lenStr_str, amm_max, amm_min, Nat.zero_add, Nat.add_zero, List.length_cons, List.length_nil, Nat.reduceAdd]
  intro φ1 h1
  have hs : AH.Sub σ (σ.set φ1 ⟨0, 2, [[iv size, p]]⟩) := sub_set (.refl σ) h1
  have hF : (σ.set φ1 ⟨0, 2, [[iv size, p]]⟩) φ1 = some ⟨0, 2, [[iv size, p]]⟩ := AH.set_same ..
  generalize hσ1 : σ.set φ1 ⟨0, 2, [[iv size, p]]⟩ = σ1 at hs hF ⊢
  refine ⟨by decide, fun φ hφ => ?_⟩
  have hs2 : AH.Sub σ1 (σ1.set φ ⟨0, 1, []⟩) := sub_set (.refl _) hφ
  have e1 := lod_at (st := 0) (i := 0) (off := 1) (c := p) (hs2.at hF) rfl rfl
  have hP2 := (hP.sub hs).sub hs2
  simp only [List.replicate_zero, e1, hP2.len, og_some', onr_ret, gval_true, gval_false, pickV_true, pickV_false, apick_true, apick_false, gpick_true, gpick_false, ibin_leq, ibin_geq, ibin_lss, ibin_gtr, ibin_eql, ibin_neq, sbin_eql, sbin_neq, aun_not, Bool.not_true, Bool.not_false, decide_true, decide_false, if_true, if_false, Bool.false_eq_true, fldA_ptr, fldA_rop, anil_ptr, lenStr_str, amm_max, amm_min, Nat.zero_add, Nat.add_zero, List.length_cons, List.length_nil, Nat.reduceAdd]
  refine lp_rel ps.length (fun i x σi => ∃ a, x = (a, p, iv ps.length, iv i, ()) ∧ AH.Sub σ1 σi ∧ Buf σi 1 a ((ps.take i).flatten.map fun x => [iv x]) ∧ ∀ ψ, Buf.fam a ψ → σ1 ψ = none) ?_ ?_
  · refine ⟨_, rfl, hs2, .inr ⟨φ, 0, by simp, by simp⟩, ?_⟩
    rintro ψ ⟨_, _, _, e⟩
    cases e; exact hφ
  rintro i x σi hi ⟨a, rfl, k1, k2, k3⟩ R' hR'
  have hPi := (hP.sub hs).sub k1
  by_cases hlt : i < ps.length
  · have g0 : (i : Int) < ps.length := by omega
    obtain ⟨v, q, v', hp, hq, hf, hl, hN⟩ := hPi.at hlt
    have hT2 := tot_at ps hlt
    simp only [g0, hp, hq, new_eq, og_some', onr_ret, gval_true, gval_false, pickV_true, pickV_false, apick_true, apick_false, gpick_true, gpick_false, ibin_leq, ibin_geq, ibin_lss, ibin_gtr, ibin_eql, ibin_neq, sbin_eql, sbin_neq, aun_not, Bool.not_true, Bool.not_false, decide_true, decide_false, if_true, if_false, Bool.false_eq_true, fldA_ptr, fldA_rop, anil_ptr, lenStr_str, amm_max, amm_min, Nat.zero_add, Nat.add_zero, List.length_cons, List.length_nil, Nat.reduceAdd]
    intro ψ hψ
    have hN1 := hN.one
    refine sto_own (es := [[nilS]]) (cs := [q]) (AH.set_same ..) (by simp) (by simp) rfl rfl (by simpa using hN1.2) ?_
    simp only [List.set_cons_zero, AH.set_set]
    have hs3 : AH.Sub σi (σi.set ψ ⟨0, 1, [[q]]⟩) := sub_set (.refl _) hψ
    have eq := lod_at (σ := σi.set ψ ⟨0, 1, [[q]]⟩) (φ := ψ) (st := 0) (i := 0) (off := 0) (c := q) (AH.set_same ..) rfl rfl
    simp only [eq, og_some', onr_ret, gval_true, gval_false, pickV_true, pickV_false, apick_true, apick_false, gpick_true, gpick_false, ibin_leq, ibin_geq, ibin_lss, ibin_gtr, ibin_eql, ibin_neq, sbin_eql, sbin_neq, aun_not, Bool.not_true, Bool.not_false, decide_true, decide_false, if_true, if_false, Bool.false_eq_true, fldA_ptr, fldA_rop, anil_ptr, lenStr_str, amm_max, amm_min, Nat.zero_add, Nat.add_zero, List.length_cons, List.length_nil, Nat.reduceAdd]
    generalize hσ5 : σi.set ψ ⟨0, 1, [[q]]⟩ = σ5 at hs3 ⊢
    have hfl : ((ps.take i).flatten.map fun x => [iv x]).length + (ps[i].map fun x => [iv x]).length ≤ 4294967296 := by
      simp only [List.length_map, tot_flatten]; omega
    refine Buf.app (k2.sub hs3) (Sl.elems (hN.sub hs3)) (by intro c hc; obtain ⟨x, _, rfl⟩ := List.mem_map.1 hc; rfl) (by intro c hc; obtain ⟨x, _, rfl⟩ := List.mem_map.1 hc; intro y hy; simp at hy; subst hy; rfl) hfl ?_
    intro a' σ' b1 b2 b3 b4
    rw [← List.map_append, ← flat_take ps hlt] at b1
    simp only [ibin_up hlt (by omega), og_some', onr_ret, gval_true, gval_false, pickV_true, pickV_false, apick_true, apick_false, gpick_true, gpick_false, ibin_leq, ibin_geq, ibin_lss, ibin_gtr, ibin_eql, ibin_neq, sbin_eql, sbin_neq, aun_not, Bool.not_true, Bool.not_false, decide_true, decide_false, if_true, if_false, Bool.false_eq_true, fldA_ptr, fldA_rop, anil_ptr, lenStr_str, amm_max, amm_min, Nat.zero_add, Nat.add_zero, List.length_cons, List.length_nil, Nat.reduceAdd]
    refine hR' _ _ _ hlt (.refl _) ⟨a', rfl, ?_, b1, ?_⟩
    · intro χ F hχ
      have hn : ¬ Buf.fam a χ := fun hf => by rw [k3 χ hf] at hχ; cases hχ
      have hx := (k1.trans hs3) χ F hχ
      rw [b2 χ hn (by rw [hx]; simp)]; exact hx
    · intro χ hχ
      rcases b3 χ hχ with hf | hn
      · exact k3 χ hf
      · exact (k1.trans hs3).none hn
  · have g0 : ¬ (i : Int) < ps.length := by omega
    obtain rfl : i = ps.length := by omega
    simp only [g0, og_some', onr_ret, gval_true, gval_false, pickV_true, pickV_false, apick_true, apick_false, gpick_true, gpick_false, ibin_leq, ibin_geq, ibin_lss, ibin_gtr, ibin_eql, ibin_neq, sbin_eql, sbin_neq, aun_not, Bool.not_true, Bool.not_false, decide_true, decide_false, if_true, if_false, Bool.false_eq_true, fldA_ptr, fldA_rop, anil_ptr, lenStr_str, amm_max, amm_min, Nat.zero_add, Nat.add_zero, List.length_cons, List.length_nil, Nat.reduceAdd]
    rw [List.take_length] at k2
    exact ret_here (h a σi (hs.trans k1) (k2.dif fun ψ hψ => hs.none (k3 ψ hψ)))
noncomputable def depR (size : Int) (ps : List (List Int)) : Int × Int := if segF size ps = 0 then (0, tot ps) else (segF size ps, 0)
end Go.Proofs.Ytoccfncmphipbaa.E
/- ListSegs: lists that are marked, and held. -/
set_option linter.unusedSectionVars false
set_option linter.unusedSimpArgs false
set_option linter.unusedVariables false
namespace Go.Proofs.Ytoccfncmphipbaa.E
open Go Go.RowKit
variable [Lam]
variable {σ : AH} {R : AEnd → AH → Prop}
/-- What is written into a list of n. -/
def mk (k : Int) (n : Nat) : List Int := (List.range n).map fun i => k + (i : Nat)
@[simp] theorem mk_length (k : Int) (n : Nat) : (mk k n).length = n := by simp [mk]
theorem mk_succ (k : Int) (n : Nat) : mk k (n + 1) = mk k n ++ [k + n] := by simp [mk, List.range_succ]
theorem mk_get (k : Int) (n i : Nat) (h : i < (mk k n).length) : (mk k n)[i] = k + i := by simp [mk]
theorem set_mid {α : Type} {l r : List α} {x y : α} {i : Nat} (hl : l.length = i) : (l ++ x :: r).set i y = l ++ y :: r := by
  rw [List.set_append_right _ _ (by omega), show i - l.length = 0 from by omega]; rfl
theorem c_laws_markInt64S {a : AV} {xs : List Int} {k : Int} (hB : Buf σ 1 a (xs.map fun x => [iv x])) (h0 : 0 ≤ k) (hb : k + xs.length ≤ 1099511627776)
    (h : ∀ σ', Buf σ' 1 a ((mk k xs.length).map fun x => [iv x]) → (∀ ψ, ¬ Buf.fam a ψ → σ' ψ = σ ψ) → R (.ret (iv (k + xs.length))) σ') : acall TP fn_laws_markInt64S [a, iv k] σ R := by
  refine s_laws_markInt64S_ok ?_
  unfold s_laws_markInt64S
  refine lp_for xs.length (fun i => (a, iv (k + i), iv i, ())) (fun i σi => Buf σi 1 a ((mk k i).map (fun x => [iv x]) ++ (xs.drop i).map fun x => [iv x]) ∧ ∀ ψ, ¬ Buf.fam a ψ → σi ψ = σ ψ) (by simp [iv]; rfl) ⟨by simpa [mk] using hB, fun _ _ => rfl⟩ ?_
  rintro i σi hi ⟨k1, k2⟩ R' hR'
  have hlen := (k1.sl (by
    intro c hc
    rcases List.mem_append.1 hc with hc | hc <;> (obtain ⟨x, _, rfl⟩ := List.mem_map.1 hc; rfl))).len
  have hn : ((mk k i).map (fun x => [iv x]) ++ (xs.drop i).map fun x => [iv x]).length = xs.length := by simp; omega
  rw [hn] at hlen
  simp only [hlen, og_some', onr_ret, gval_true, gval_false, pickV_true, pickV_false, apick_true, apick_false, gpick_true, gpick_false, ibin_leq, ibin_geq, ibin_lss, ibin_gtr, ibin_eql, ibin_neq, sbin_eql, sbin_neq, aun_not, Bool.not_true, Bool.not_false, decide_true, decide_false, if_true, if_false, Bool.false_eq_true, fldA_ptr, fldA_rop, anil_ptr, lenStr_str, amm_max, amm_min, Nat.zero_add, Nat.add_zero, List.length_cons, List.length_nil, Nat.reduceAdd]
  by_cases hlt : i < xs.length
  · have g0 : (i : Int) < xs.length := by omega
    simp only [g0, og_some', onr_ret, gval_true, gval_false, pickV_true, pickV_false, apick_true, apick_false, gpick_true, gpick_false, ibin_leq, ibin_geq, ibin_lss, ibin_gtr, ibin_eql, ibin_neq, sbin_eql, sbin_neq, aun_not, Bool.not_true, Bool.not_false, decide_true, decide_false, if_true, if_false, Bool.false_eq_true, fldA_ptr, fldA_rop, anil_ptr, lenStr_str, amm_max, amm_min, Nat.zero_add, Nat.add_zero, List.length_cons, List.length_nil, Nat.reduceAdd]
    rcases k1 with ⟨_, e⟩ | ⟨φ, st, rfl, hF⟩
    · have := congrArg List.length e
      rw [hn] at this; simp only [List.length_nil] at this; omega
    rw [hn]
    rw [List.drop_eq_getElem_cons hlt, List.map_cons] at hF
    simp only [idx_own hF hlt, og_some', onr_ret, gval_true, gval_false, pickV_true, pickV_false, apick_true, apick_false, gpick_true, gpick_false, ibin_leq, ibin_geq, ibin_lss, ibin_gtr, ibin_eql, ibin_neq, sbin_eql, sbin_neq, aun_not, Bool.not_true, Bool.not_false, decide_true, decide_false, if_true, if_false, Bool.false_eq_true, fldA_ptr, fldA_rop, anil_ptr, lenStr_str, amm_max, amm_min, Nat.zero_add, Nat.add_zero, List.length_cons, List.length_nil, Nat.reduceAdd]
    refine sto_own (cs := [iv (k + i)]) hF (by simp) ?_ rfl rfl (by simp [AV.one, Value.oneCell']) ?_
    · simp only [List.getD]
      rw [List.getElem?_append_right (by simp)]
      simp
    · simp only [ibin_up hlt (by omega), ibin_add (a := k + i) (b := 1) (by omega) (by omega), og_some', onr_ret, gval_true, gval_false, pickV_true, pickV_false, apick_true, apick_false, gpick_true, gpick_false, ibin_leq, ibin_geq, ibin_lss, ibin_gtr, ibin_eql, ibin_neq, sbin_eql, sbin_neq, aun_not, Bool.not_true, Bool.not_false, decide_true, decide_false, if_true, if_false, Bool.false_eq_true, fldA_ptr, fldA_rop, anil_ptr, lenStr_str, amm_max, amm_min, Nat.zero_add, Nat.add_zero, List.length_cons, List.length_nil, Nat.reduceAdd]
      have e : k + (i : Int) + 1 = k + ((i + 1 : Nat) : Int) := by omega
      rw [e, set_mid (by simp)]
      rw [hn] at hR'
      refine hR' hlt _ _ (.refl _) ⟨.inr ⟨φ, st, ?_, ?_⟩, ?_⟩
      · congr 1; simp; omega
      · rw [AH.set_same, mk_succ]; simp
      · intro ψ hψ
        rw [AH.set_ne' (by rintro rfl; exact hψ ⟨_, _, _, rfl⟩)]
        exact k2 ψ (fun f => hψ (by obtain ⟨a1, a2, a3, e⟩ := f; cases e; exact ⟨_, _, _, rfl⟩))
  · have g0 : ¬ (i : Int) < xs.length := by omega
    obtain rfl : i = xs.length := by omega
    simp only [g0, og_some', onr_ret, gval_true, gval_false, pickV_true, pickV_false, apick_true, apick_false, gpick_true, gpick_false, ibin_leq, ibin_geq, ibin_lss, ibin_gtr, ibin_eql, ibin_neq, sbin_eql, sbin_neq, aun_not, Bool.not_true, Bool.not_false, decide_true, decide_false, if_true, if_false, Bool.false_eq_true, fldA_ptr, fldA_rop, anil_ptr, lenStr_str, amm_max, amm_min, Nat.zero_add, Nat.add_zero, List.length_cons, List.length_nil, Nat.reduceAdd]
    rw [List.drop_length, List.map_nil, List.append_nil] at k1
    exact ret_here (h σi k1 k2)
theorem c_laws_heldInt64S {a : AV} {n : Nat} {k : Int} (hS : Ns σ a (mk k n)) (h0 : 0 ≤ k) (hb : k + n ≤ 1099511627776)
    (h : R (.ret (iv (k + n))) σ) : acall TP fn_laws_heldInt64S [a, iv k] σ R := by
  refine s_laws_heldInt64S_ok ?_
  unfold s_laws_heldInt64S
  refine lp_read n (fun i => (a, iv (k + i), iv i, ())) (by simp [iv]; rfl) ?_
  intro i hi R' hR'
  have hl := hS.len
  rw [mk_length] at hl
  simp only [hl, og_some', onr_ret, gval_true, gval_false, pickV_true, pickV_false, apick_true, apick_false, gpick_true, gpick_false, ibin_leq, ibin_geq, ibin_lss, ibin_gtr, ibin_eql, ibin_neq, sbin_eql, sbin_neq, aun_not, Bool.not_true, Bool.not_false, decide_true, decide_false, if_true, if_false, Bool.false_eq_true, fldA_ptr, fldA_rop, anil_ptr, lenStr_str, amm_max, amm_min, Nat.zero_add, Nat.add_zero, List.length_cons, List.length_nil, Nat.reduceAdd]
  by_cases hlt : i < n
  · have g0 : (i : Int) < n := by omega
    have hlt' : i < (mk k n).length := by simpa using hlt
    obtain ⟨p, hp, hq, _⟩ := hS.at hlt'
    rw [mk_get] at hq
    simp only [g0, hp, hq, ibin_up hlt (by omega), ibin_add (a := k + i) (b := 1) (by omega) (by omega), og_some', onr_ret, gval_true, gval_false, pickV_true, pickV_false, apick_true, apick_false, gpick_true, gpick_false, ibin_leq, ibin_geq, ibin_lss, ibin_gtr, ibin_eql, ibin_neq, sbin_eql, sbin_neq, aun_not, Bool.not_true, Bool.not_false, decide_true, decide_false, if_true, if_false, Bool.false_eq_true, fldA_ptr, fldA_rop, anil_ptr, lenStr_str, amm_max, amm_min, Nat.zero_add, Nat.add_zero, List.length_cons, List.length_nil, Nat.reduceAdd]
    have e : k + (i : Int) + 1 = k + ((i + 1 : Nat) : Int) := by omega
    rw [e]
    exact hR' hlt _ (.refl _)
  · have g0 : ¬ (i : Int) < n := by omega
    obtain rfl : i = n := by omega
    simp only [g0, og_some', onr_ret, gval_true, gval_false, pickV_true, pickV_false, apick_true, apick_false, gpick_true, gpick_false, ibin_leq, ibin_geq, ibin_lss, ibin_gtr, ibin_eql, ibin_neq, sbin_eql, sbin_neq, aun_not, Bool.not_true, Bool.not_false, decide_true, decide_false, if_true, if_false, Bool.false_eq_true, fldA_ptr, fldA_rop, anil_ptr, lenStr_str, amm_max, amm_min, Nat.zero_add, Nat.add_zero, List.length_cons, List.length_nil, Nat.reduceAdd]
    exact ret_here h
/-! ### stacks are marked -/
def marks : Int → List (AV × List Int) → List (AV × List Int)
  | _, [] => []
  | k, q :: qs => (q.1, mk k q.2.length) :: marks (k + q.2.length) qs
theorem marks_append : ∀ (xs ys : List (AV × List Int)) (k : Int), marks k (xs ++ ys) = marks k xs ++ marks (k + tot (xs.map Prod.snd)) ys := by
  intro xs
  induction xs with
  | nil => intro ys k; simp [marks, tot]
  | cons x xs ih =>
    intro ys k
    simp only [List.cons_append, marks, ih, List.map_cons, tot]
    have e : k + (x.2.length : Int) + (tot (xs.map Prod.snd) : Int) = k + ((x.2.length + tot (xs.map Prod.snd) : Nat) : Int) := by omega
    rw [e]
theorem marks_fst : ∀ (xs : List (AV × List Int)) (k : Int), (marks k xs).map Prod.fst = xs.map Prod.fst := by
  intro xs
  induction xs with
  | nil => intro k; rfl
  | cons x xs ih => intro k; simp [marks, ih]
theorem marks_length (xs : List (AV × List Int)) (k : Int) : (marks k xs).length = xs.length := by
  have := congrArg List.length (marks_fst xs k); simpa using this
theorem PB.turn {σ' : AH} {a : AV} {pre rest : List (AV × List Int)} {q : AV × List Int} {ys : List Int} (h : PB σ a (pre ++ q :: rest)) (hB : Buf σ' 1 q.1 (ys.map fun x => [iv x])) (hk : ∀ ψ, ¬ Buf.fam q.1 ψ → σ' ψ = σ ψ) : PB σ' a (pre ++ (q.1, ys) :: rest) := by
  have hq : q ∈ pre ++ q :: rest := by simp
  have hp := List.pairwise_append.1 h.pair
  have hp2 := List.pairwise_cons.1 hp.2.1
  refine ⟨?_, ?_, ?_, ?_⟩
  · have e : ((pre ++ (q.1, ys) :: rest).map fun q => [q.1]) = (pre ++ q :: rest).map fun q => [q.1] := by simp
    rw [e]
    exact h.out.keep fun ψ f => hk ψ fun g => h.sep q hq ψ g f
  · intro r hr
    rcases List.mem_append.1 hr with hr | hr
    · exact (h.ins r (by simp [hr])).keep fun ψ f => hk ψ fun g => hp.2.2 r hr q (by simp) ψ f g
    · rcases List.mem_cons.1 hr with rfl | hr
      · exact hB
      · exact (h.ins r (by simp [hr])).keep fun ψ f => hk ψ fun g => hp2.1 r hr ψ g f
  · intro r hr
    rcases List.mem_append.1 hr with hr | hr
    · exact h.sep r (by simp [hr])
    · rcases List.mem_cons.1 hr with rfl | hr
      · exact h.sep q hq
      · exact h.sep r (by simp [hr])
  · rw [List.pairwise_append]
    refine ⟨hp.1, List.pairwise_cons.2 ⟨fun r hr => hp2.1 r hr, hp2.2⟩, ?_⟩
    intro r hr x hx
    rcases List.mem_cons.1 hx with rfl | hx
    · exact hp.2.2 r hr q (by simp)
    · exact hp.2.2 r hr x (by simp [hx])
theorem c_laws_markSegPartS {a : AV} {qs : List (AV × List Int)} {k : Int} (hB : PB σ a qs) (h0 : 0 ≤ k) (hl : qs.length ≤ 1099511627776) (hb : k + tot (qs.map Prod.snd) ≤ 1099511627776)
    (h : ∀ σ', PB σ' a (marks k qs) → (∀ ψ, (∀ q, q ∈ qs → ¬ Buf.fam q.1 ψ) → σ' ψ = σ ψ) → R (.ret (iv (k + tot (qs.map Prod.snd)))) σ') : acall TP fn_laws_markSegPartS [a, iv k] σ R := by
  refine s_laws_markSegPartS_ok ?_
  unfold s_laws_markSegPartS
  refine lp_for qs.length (fun i => (a, iv (k + tot ((qs.take i).map Prod.snd)), iv i, ())) (fun i σi => PB σi a (marks k (qs.take i) ++ qs.drop i) ∧ ∀ ψ, (∀ q, q ∈ qs → ¬ Buf.fam q.1 ψ) → σi ψ = σ ψ)
    (by simp [iv, tot]; rfl) ⟨by simpa [marks] using hB, fun _ _ => rfl⟩ ?_
  rintro i σi hi ⟨k1, k2⟩ R' hR'
  have hlen := k1.ps.len
  have hn : ((marks k (qs.take i) ++ qs.drop i).map Prod.snd).length = qs.length := by simp [marks_length]; omega
  rw [hn] at hlen
  simp only [hlen, og_some', onr_ret, gval_true, gval_false, pickV_true, pickV_false, apick_true, apick_false, gpick_true, gpick_false, ibin_leq, ibin_geq, ibin_lss, ibin_gtr, ibin_eql, ibin_neq, sbin_eql, sbin_neq, aun_not, Bool.not_true, Bool.not_false, decide_true, decide_false, if_true, if_false, Bool.false_eq_true, fldA_ptr, fldA_rop, anil_ptr, lenStr_str, amm_max, amm_min, Nat.zero_add, Nat.add_zero, List.length_cons, List.length_nil, Nat.reduceAdd]
  by_cases hlt : i < qs.length
  · have g0 : (i : Int) < qs.length := by omega
    have hsn : ∀ j, (qs.take j).map Prod.snd = (qs.map Prod.snd).take j := fun j => List.map_take
    have hT := tot_take (qs.map Prod.snd) (i := i) (by simpa using hlt)
    have hT2 := tot_at (qs.map Prod.snd) (i := i) (by simpa using hlt)
    simp only [List.getElem_map, ← hsn] at hT hT2
    obtain ⟨p, hp, _, hat⟩ := (Buf.cs k1.out).at (i := i) (by rw [← List.length_map (f := Prod.snd), hn]; exact hlt)
    have hml : (marks k (qs.take i)).length = i := by rw [marks_length]; simp; omega
    have hget : (marks k (qs.take i) ++ qs.drop i)[i]'(by rw [← List.length_map (f := Prod.snd), hn]; exact hlt) = qs[i] := by
      rw [List.getElem_append_right (by omega)]
      simp [hml]
    rw [hget] at hat
    obtain ⟨p', hf, hl'⟩ := hat.fld 0 (by simp)
    simp only [List.getD_cons_zero] at hl'
    simp only [g0, hp, hf, hl', og_some', onr_ret, gval_true, gval_false, pickV_true, pickV_false, apick_true, apick_false, gpick_true, gpick_false, ibin_leq, ibin_geq, ibin_lss, ibin_gtr, ibin_eql, ibin_neq, sbin_eql, sbin_neq, aun_not, Bool.not_true, Bool.not_false, decide_true, decide_false, if_true, if_false, Bool.false_eq_true, fldA_ptr, fldA_rop, anil_ptr, lenStr_str, amm_max, amm_min, Nat.zero_add, Nat.add_zero, List.length_cons, List.length_nil, Nat.reduceAdd]
    rw [List.drop_eq_getElem_cons hlt] at k1
    refine c_laws_markInt64S (k1.ins qs[i] (List.mem_append_right _ (List.mem_cons_self ..))) (by omega) (by omega) fun σ' m1 m2 => ?_
    simp only [ibin_up hlt (by omega), og_some', onr_ret, gval_true, gval_false, pickV_true, pickV_false, apick_true, apick_false, gpick_true, gpick_false, ibin_leq, ibin_geq, ibin_lss, ibin_gtr, ibin_eql, ibin_neq, sbin_eql, sbin_neq, aun_not, Bool.not_true, Bool.not_false, decide_true, decide_false, if_true, if_false, Bool.false_eq_true, fldA_ptr, fldA_rop, anil_ptr, lenStr_str, amm_max, amm_min, Nat.zero_add, Nat.add_zero, List.length_cons, List.length_nil, Nat.reduceAdd]
    have e : k + (tot ((qs.take i).map Prod.snd) : Int) + (qs[i].2.length : Int) = k + (tot ((qs.take (i + 1)).map Prod.snd) : Int) := by rw [hT]; omega
    rw [e]
    refine hR' hlt _ _ (.refl _) ⟨?_, ?_⟩
    · have := k1.turn m1 m2
      rw [List.take_succ_eq_append_getElem hlt, marks_append]
      simpa [marks] using this
    · intro ψ hψ
      rw [m2 ψ (hψ _ (List.getElem_mem hlt))]
      exact k2 ψ hψ
  · have g0 : ¬ (i : Int) < qs.length := by omega
    obtain rfl : i = qs.length := by omega
    simp only [g0, og_some', onr_ret, gval_true, gval_false, pickV_true, pickV_false, apick_true, apick_false, gpick_true, gpick_false, ibin_leq, ibin_geq, ibin_lss, ibin_gtr, ibin_eql, ibin_neq, sbin_eql, sbin_neq, aun_not, Bool.not_true, Bool.not_false, decide_true, decide_false, if_true, if_false, Bool.false_eq_true, fldA_ptr, fldA_rop, anil_ptr, lenStr_str, amm_max, amm_min, Nat.zero_add, Nat.add_zero, List.length_cons, List.length_nil, Nat.reduceAdd]
    rw [List.take_length, List.drop_length, List.append_nil] at k1
    rw [List.take_length]
    exact ret_here (h σi k1 k2)
theorem c_laws_markSegs {a : AV} {size : Int} {qs : List (AV × List Int)} {k : Int} (hB : PB σ a qs) (h0 : 0 ≤ k) (hl : qs.length ≤ 1099511627776) (hb : k + tot (qs.map Prod.snd) ≤ 1099511627776)
    (h : ∀ σ', PB σ' a (marks k qs) → (∀ ψ, (∀ q, q ∈ qs → ¬ Buf.fam q.1 ψ) → σ ψ ≠ none → σ' ψ = σ ψ) → R (.ret (iv (k + tot (qs.map Prod.snd)))) σ') : acall TP fn_laws_markSegs [.agg [iv size, a], iv k] σ R := by
  refine s_laws_markSegs_ok ?_
  unfold s_laws_markSegs
  simp only [abox_agg, og_some', onr_ret, gval_true, gval_false, pickV_true, pickV_false, apick_true, apick_false, gpick_true, gpick_false, ibin_leq, ibin_geq, ibin_lss, ibin_gtr, ibin_eql, ibin_neq, sbin_eql, sbin_neq, aun_not, Bool.not_true, Bool.not_false, decide_true, decide_false, if_true, if_false, Bool.false_eq_true, fldA_ptr, fldA_rop, anil_ptr, lenStr_str, amm_max, amm_min, Nat.zero_add, Nat.add_zero, List.length_cons, List.length_nil, Nat.reduceAdd]
  intro φ hφ
  have hs : AH.Sub σ (σ.set φ ⟨0, 2, [[iv size, a]]⟩) := sub_set (.refl σ) hφ
  have e := lod_at (σ := σ.set φ ⟨0, 2, [[iv size, a]]⟩) (φ := φ) (st := 0) (i := 0) (off := 1) (c := a) (AH.set_same ..) rfl rfl
  simp only [e, og_some', onr_ret, gval_true, gval_false, pickV_true, pickV_false, apick_true, apick_false, gpick_true, gpick_false, ibin_leq, ibin_geq, ibin_lss, ibin_gtr, ibin_eql, ibin_neq, sbin_eql, sbin_neq, aun_not, Bool.not_true, Bool.not_false, decide_true, decide_false, if_true, if_false, Bool.false_eq_true, fldA_ptr, fldA_rop, anil_ptr, lenStr_str, amm_max, amm_min, Nat.zero_add, Nat.add_zero, List.length_cons, List.length_nil, Nat.reduceAdd]
  refine c_laws_markSegPartS (hB.sub hs) h0 hl hb fun σ' k1 k2 => ?_
  simp only [og_some', onr_ret, gval_true, gval_false, pickV_true, pickV_false, apick_true, apick_false, gpick_true, gpick_false, ibin_leq, ibin_geq, ibin_lss, ibin_gtr, ibin_eql, ibin_neq, sbin_eql, sbin_neq, aun_not, Bool.not_true, Bool.not_false, decide_true, decide_false, if_true, if_false, Bool.false_eq_true, fldA_ptr, fldA_rop, anil_ptr, lenStr_str, amm_max, amm_min, Nat.zero_add, Nat.add_zero, List.length_cons, List.length_nil, Nat.reduceAdd]
  refine ret_here (h σ' k1 fun ψ h1 h2 => ?_)
  rw [k2 ψ h1, AH.set_ne' (by rintro rfl; exact h2 hφ)]

/-! ### ListSegs -/
theorem c_spec_l12List {φ1 : Nat} {size : Int} {p : AV} {ps : List (List Int)} (hF : σ φ1 = some ⟨0, 2, [[iv size, p]]⟩) (hP : Ps σ p ps) (hb : ps.length + tot ps ≤ 1099511627776) (hb2 : tot ps ≤ 4294967296)
    (h : ∀ v σ', AH.Sub σ σ' → Buf (dif σ σ') 1 v (ps.flatten.map fun x => [iv x]) → R (.ret v) σ') : acall TP fn_spec_l12List [.ptr φ1 0 0 0] σ R := by
  refine s_spec_l12List_ok ?_
  unfold s_spec_l12List
  refine ⟨by decide, fun φ hφ => ?_⟩
  have hs2 : AH.Sub σ (σ.set φ ⟨0, 1, []⟩) := sub_set (.refl _) hφ
  simp only [List.replicate_zero]
  refine lp_rel ps.length (fun i x σi => ∃ a, x = (.ptr φ1 0 0 0, a, iv i, ()) ∧ AH.Sub σ σi ∧ Buf σi 1 a ((ps.take i).flatten.map fun x => [iv x]) ∧ ∀ ψ, Buf.fam a ψ → σ ψ = none) ?_ ?_
  · refine ⟨_, rfl, hs2, .inr ⟨φ, 0, by simp, by simp⟩, ?_⟩
    rintro ψ ⟨_, _, _, e⟩
    cases e; exact hφ
  rintro i x σi hi ⟨a, rfl, k1, k2, k3⟩ R' hR'
  have hPi := hP.sub k1
  have e1 := lod_at (st := 0) (i := 0) (off := 1) (c := p) (k1.at hF) rfl rfl
  simp only [e1, hPi.len, og_some', onr_ret, gval_true, gval_false, pickV_true, pickV_false, apick_true, apick_false, gpick_true, gpick_false, ibin_leq, ibin_geq, ibin_lss, ibin_gtr, ibin_eql, ibin_neq, sbin_eql, sbin_neq, aun_not, Bool.not_true, Bool.not_false, decide_true, decide_false, if_true, if_false, Bool.false_eq_true, fldA_ptr, fldA_rop, anil_ptr, lenStr_str, amm_max, amm_min, Nat.zero_add, Nat.add_zero, List.length_cons, List.length_nil, Nat.reduceAdd]
  by_cases hlt : i < ps.length
  · have g0 : (i : Int) < ps.length := by omega
    obtain ⟨v, q, v', hp, hq, hf, hl, hN⟩ := hPi.at hlt
    have hT2 := tot_at ps hlt
    simp only [g0, e1, hp, hf, hl, og_some', onr_ret, gval_true, gval_false, pickV_true, pickV_false, apick_true, apick_false, gpick_true, gpick_false, ibin_leq, ibin_geq, ibin_lss, ibin_gtr, ibin_eql, ibin_neq, sbin_eql, sbin_neq, aun_not, Bool.not_true, Bool.not_false, decide_true, decide_false, if_true, if_false, Bool.false_eq_true, fldA_ptr, fldA_rop, anil_ptr, lenStr_str, amm_max, amm_min, Nat.zero_add, Nat.add_zero, List.length_cons, List.length_nil, Nat.reduceAdd]
    have hfl : ((ps.take i).flatten.map fun x => [iv x]).length + (ps[i].map fun x => [iv x]).length ≤ 4294967296 := by
      simp only [List.length_map, tot_flatten]; omega
    refine Buf.app k2 (Sl.elems hN) (by intro c hc; obtain ⟨x, _, rfl⟩ := List.mem_map.1 hc; rfl) (by intro c hc; obtain ⟨x, _, rfl⟩ := List.mem_map.1 hc; intro y hy; simp at hy; subst hy; rfl) hfl ?_
    intro a' σ' b1 b2 b3 b4
    rw [← List.map_append, ← flat_take ps hlt] at b1
    simp only [ibin_up hlt (by omega), og_some', onr_ret, gval_true, gval_false, pickV_true, pickV_false, apick_true, apick_false, gpick_true, gpick_false, ibin_leq, ibin_geq, ibin_lss, ibin_gtr, ibin_eql, ibin_neq, sbin_eql, sbin_neq, aun_not, Bool.not_true, Bool.not_false, decide_true, decide_false, if_true, if_false, Bool.false_eq_true, fldA_ptr, fldA_rop, anil_ptr, lenStr_str, amm_max, amm_min, Nat.zero_add, Nat.add_zero, List.length_cons, List.length_nil, Nat.reduceAdd]
    refine hR' _ _ _ hlt (.refl _) ⟨a', rfl, ?_, b1, ?_⟩
    · intro χ F hχ
      have hn : ¬ Buf.fam a χ := fun hf => by rw [k3 χ hf] at hχ; cases hχ
      have hx := k1 χ F hχ
      rw [b2 χ hn (by rw [hx]; simp)]; exact hx
    · intro χ hχ
      rcases b3 χ hχ with hf | hn
      · exact k3 χ hf
      · exact k1.none hn
  · have g0 : ¬ (i : Int) < ps.length := by omega
    obtain rfl : i = ps.length := by omega
    simp only [g0, og_some', onr_ret, gval_true, gval_false, pickV_true, pickV_false, apick_true, apick_false, gpick_true, gpick_false, ibin_leq, ibin_geq, ibin_lss, ibin_gtr, ibin_eql, ibin_neq, sbin_eql, sbin_neq, aun_not, Bool.not_true, Bool.not_false, decide_true, decide_false, if_true, if_false, Bool.false_eq_true, fldA_ptr, fldA_rop, anil_ptr, lenStr_str, amm_max, amm_min, Nat.zero_add, Nat.add_zero, List.length_cons, List.length_nil, Nat.reduceAdd]
    rw [List.take_length] at k2
    exact ret_here (h a σi k1 (k2.dif k3))
noncomputable def lisR (size : Int) (ps : List (List Int)) : Int × List Int := if segF size ps = 0 then (0, ps.flatten) else (segF size ps, [])
theorem bldI_0 (x : Int) : bld [iv 0, nilS] [(0, 1), (1, 1)] [(0, iv x)] = some (.agg [iv x, nilS]) := rfl
theorem bldI_1 {v : AV} (hv : acells v = some [v]) : bld [iv 0, nilS] [(0, 1), (1, 1)] [(1, v)] = some (.agg [iv 0, v]) := by
  simp [bld, afill, hv, spl]
theorem lisR_len (size : Int) (ps : List (List Int)) : (lisR size ps).2.length ≤ tot ps := by
  unfold lisR
  split
  · rw [tot_flatten]; exact Nat.le_refl _
  · simp
end Go.Proofs.Ytoccfncmphipbaa.E
/- The law on ListSegs. -/
set_option linter.unusedSectionVars false
set_option linter.unusedSimpArgs false
set_option linter.unusedVariables false
namespace Go.Proofs.Ytoccfncmphipbaa.E
open Go Go.RowKit
variable [Lam]
variable {σ : AH} {R : AEnd → AH → Prop}
/-- A struct laid into a new cell: what is known behind it. -/
theorem put_new {σ : AH} {ψ : Nat} {n : Nat} {zs cs : List AV} {k : AH → Prop} (hψ : σ ψ = none) (hz : zs.length = n) (hc : cs.length = n) (h1 : ∀ x, x ∈ cs → x.one = true)
    (h : ∀ σ', AH.Sub σ σ' → σ' ψ = some ⟨0, n, [cs]⟩ → (∀ χ, χ ≠ ψ → σ' χ = σ χ) → k σ') : sto n (.ptr ψ 0 0 0) (.agg cs) (σ.set ψ ⟨0, n, [zs]⟩) k := by
  refine sto_own (es := [zs]) (cs := cs) (AH.set_same ..) (by simp) (by simpa using hz) rfl hc h1 ?_
  simp only [List.set_cons_zero, AH.set_set]
  exact h _ (sub_set (.refl σ) hψ) (AH.set_same ..) fun χ hχ => AH.set_ne' hχ
theorem one2 {n : Int} {v : AV} (hv : v.one = true) : ∀ x, x ∈ [iv n, v] → x.one = true := by
  intro x hx
  rcases List.mem_cons.1 hx with rfl | hx
  · rfl
  · obtain rfl := List.mem_singleton.1 hx; exact hv
end Go.Proofs.Ytoccfncmphipbaa.E
/- Stacks of pieces, built. -/
set_option linter.unusedSectionVars false
set_option linter.unusedSimpArgs false
set_option linter.unusedVariables false
namespace Go.Proofs.Ytoccfncmphipbaa.E
open Go Go.RowKit
variable [Lam]
variable {σ : AH} {R : AEnd → AH → Prop}
/-! ### pieces -/
def pcs (n : Nat) (xs : List Int) (k : Nat) : List (List Int) := (List.range k).map fun i => (xs.drop (i * n)).take n
@[simp] theorem pcs_length (n : Nat) (xs : List Int) (k : Nat) : (pcs n xs k).length = k := by simp [pcs]
theorem pcs_succ (n : Nat) (xs : List Int) (k : Nat) : pcs n xs (k + 1) = pcs n xs k ++ [(xs.drop (k * n)).take n] := by simp [pcs, List.range_succ]
theorem pcs_flat (n : Nat) (xs : List Int) (k : Nat) : (pcs n xs k).flatten = xs.take (k * n) := by
  induction k with
  | zero => simp [pcs]
  | succ k ih => rw [pcs_succ, List.flatten_append, ih, Nat.succ_mul, List.take_add]; simp
theorem pcs_ok {n : Nat} {xs : List Int} {k : Nat} (hn : 0 < n) (hk : ∀ j, j < k → j * n < xs.length) : OkP (n : Int) (pcs n xs k) := by
  intro i hi
  have hi' : i < k := by simpa using hi
  have e : (pcs n xs k)[i] = (xs.drop (i * n)).take n := by simp [pcs]
  have h1 := hk i hi'
  rw [e, List.length_take, List.length_drop]
  refine ⟨by omega, by omega, fun h => ?_⟩
  have h2 := hk (i + 1) (by simpa using h)
  rw [Nat.succ_mul] at h2
  omega
theorem okp_unique {size : Int} : ∀ {ps qs : List (List Int)}, OkP size ps → OkP size qs → ps.flatten = qs.flatten → ps = qs := by
  intro ps
  induction ps with
  | nil =>
    intro qs _ hq e
    cases qs with
    | nil => rfl
    | cons q qs =>
      have h1 := (hq 0 (by simp)).1
      have := congrArg List.length e
      simp at this h1
      omega
  | cons p ps ih =>
    intro qs hp hq e
    cases qs with
    | nil =>
      have h1 := (hp 0 (by simp)).1
      have := congrArg List.length e
      simp only [List.flatten_cons, List.length_append, List.flatten_nil, List.length_nil] at this
      simp only [List.getElem_cons_zero] at h1
      omega
    | cons q qs =>
      have hl : p.length = q.length := by
        obtain ⟨a1, a2, a3⟩ := hp 0 (by simp)
        obtain ⟨b1, b2, b3⟩ := hq 0 (by simp)
        simp only [List.getElem_cons_zero, List.length_cons] at a1 a2 a3 b1 b2 b3
        have el := congrArg List.length e
        simp only [List.flatten_cons, List.length_append] at el
        cases ps with
        | nil =>
          cases qs with
          | nil => simpa using el
          | cons r rs =>
            have c := (okAt_tail hq 0 (by simp)).1
            have b3 := b3 (by simp)
            simp only [List.getElem_cons_zero, List.flatten_nil, List.flatten_cons, List.length_nil, List.length_append] at c el
            omega
        | cons r rs =>
          have a3 := a3 (by simp)
          cases qs with
          | nil =>
            have c := (okAt_tail hp 0 (by simp)).1
            simp only [List.getElem_cons_zero, List.flatten_nil, List.flatten_cons, List.length_nil, List.length_append] at c el
            omega
          | cons s ss =>
            have b3 := b3 (by simp)
            omega
      have e' : p ++ ps.flatten = q ++ qs.flatten := by simpa using e
      obtain ⟨e1, e2⟩ := List.append_inj e' hl
      rw [e1, ih (okAt_tail hp) (okAt_tail hq) e2]

/-! ### a slice looked at for nil, and copied -/
def isSl (T : Tab) (t : TypeId) : Bool := match T t with
  | some ti => match ti.under with | .slice _ => true | _ => false
  | none => false
theorem eql_nil {T : Tab} {t : TypeId} {a : AV} {sz : Nat} {es : List (List AV)} {k : AV → Prop} (hu : isSl T t = true) (hS : Sl σ sz a es) (h : ∀ b : Bool, (es ≠ [] → b = false) → k (bv b)) : abin T .eql t a (.val (.slice none 0 0)) k := by
  unfold isSl at hu
  split at hu
  case h_2 => cases hu
  rename_i ti ht
  split at hu
  case h_2 => cases hu
  rename_i e he
  have key : aeql T t a (.val (.slice none 0 0)) (fun b => k (.val (.bool b))) := by
    unfold aeql
    simp only [ht, he]
    cases hS with
    | ro _ _ => exact fun b hb => h b hb
    | own _ _ _ _ _ _ _ _ _ _ => exact h false (fun _ => rfl)
    | emp => exact fun b => h b (fun h => absurd rfl h)
    | nil => exact h true (fun h => absurd rfl h)
  unfold abin
  cases hS <;> exact key
/-- What may be copied. -/
structure Src (σ : AH) (a : AV) (es : List (List AV)) : Prop where
  el : ∀ σ', AH.Sub σ σ' → aelems σ' a = some es
  nl : ∀ {T : Tab} {t : TypeId} {k : AV → Prop}, isSl T t = true → (∀ b : Bool, (es ≠ [] → b = false) → k (bv b)) → abin T .eql t a (.val (.slice none 0 0)) k
theorem Sl.src {sz : Nat} {a : AV} {es : List (List AV)} (h : Sl σ sz a es) : Src σ a es := ⟨fun σ' hs => (h.sub hs).elems, fun hu hk => eql_nil hu h hk⟩
theorem Src.sub {σ' : AH} {a : AV} {es : List (List AV)} (h : Src σ a es) (hs : AH.Sub σ σ') : Src σ' a es := ⟨fun σ2 h2 => h.el σ2 (hs.trans h2), h.nl⟩
theorem Src.vw {φ st off n : Nat} {F : Fam} (hF : σ φ = some F) (hst : F.st = st) (hl : off + n ≤ F.es.length) (hn : 0 < n) : Src σ (.vw φ st off n) ((F.es.drop off).take n) := by
  refine ⟨fun σ' hs => by simp [aelems, hs.at hF, hst, hl], ?_⟩
  intro T t k hu hk
  unfold isSl at hu
  split at hu
  case h_2 => cases hu
  rename_i ti ht
  split at hu
  case h_2 => cases hu
  rename_i e he
  unfold abin
  simp only
  unfold aeql
  simp only [ht, he]
  exact hk false fun _ => rfl
theorem Sl.slc3 {sz : Nat} {a : AV} {es : List (List AV)} (h : Sl σ sz a es) {l k : Nat} (h1 : l < k) (h2 : k ≤ es.length) :
    ∃ b, E.slc sz a (some (iv (l : Nat))) (some (iv (k : Nat))) (some (iv (k : Nat))) σ = some b ∧ Src σ b ((es.take k).drop l) := by
  have b0 : ∀ (i d : Nat), abd (some (iv (i : Nat))) d = some i := fun i d => by simp [abd]
  cases h with
  | ro _ h =>
    refine ⟨.ro ((es.take k).drop l), ?_, (Sl.ro _ fun c hc => h c (List.mem_of_mem_take (List.mem_of_mem_drop hc))).src⟩
    simp only [E.slc, b0]
    rw [if_pos]
    refine ⟨by omega, Nat.le_refl _, h2, by simp, ?_⟩
    rw [List.all_eq_true]; intro c hc; simpa using h c hc
  | own φ st off n F hF hst hs hl h =>
    have hlen : ((F.es.drop off).take n).length = n := by simp; omega
    rw [hlen] at h2
    refine ⟨.vw φ st (off + l) (k - l), ?_, ?_⟩
    · simp only [E.slc, hF, b0]
      rw [if_pos]
      exact ⟨h1, Nat.le_refl _, h2, rfl, hst, hs⟩
    · have e : (((F.es.drop off).take n).take k).drop l = (F.es.drop (off + l)).take (k - l) := by
        rw [List.take_take, Nat.min_eq_left (by omega), List.drop_take, List.drop_drop]
      rw [e]
      exact .vw hF hst (by omega) (by omega)
  | emp => simp at h2; omega
  | nil => simp at h2; omega
theorem iv_size (xs : List Int) : ∀ c, c ∈ (xs.map fun x => [iv x]) → c.length = 1 := by intro c hc; obtain ⟨x, _, rfl⟩ := List.mem_map.1 hc; rfl
theorem iv_one (xs : List Int) : ∀ c, c ∈ (xs.map fun x => [iv x]) → ∀ y, y ∈ c → y.one = true := by intro c hc; obtain ⟨x, _, rfl⟩ := List.mem_map.1 hc; intro y hy; simp at hy; subst hy; rfl
set_option maxRecDepth 100000 in
theorem li_sl : isSl TT ty_Li = true := by kernel_rfl
theorem Buf.new {σ : AH} {φ : Nat} {sz : Nat} : Buf (σ.set φ ⟨0, sz, []⟩) sz (.own φ 0 0 0) [] := .inr ⟨φ, 0, rfl, AH.set_same ..⟩
theorem c_slices_Clone {a : AV} {xs : List Int} (hS : Src σ a (xs.map fun x => [iv x])) (hl : xs.length ≤ 4294967296)
    (h : ∀ v σ', AH.Sub σ σ' → Buf (dif σ σ') 1 v (xs.map fun x => [iv x]) → R (.ret v) σ') : acall TP fn_slices_Clone [a] σ R := by
  refine s_slices_Clone_ok ?_
  unfold s_slices_Clone
  refine hS.nl li_sl fun b hb => ?_
  cases b with
  | true =>
    simp only [og_some', onr_ret, gval_true, gval_false, pickV_true, pickV_false, apick_true, apick_false, gpick_true, gpick_false, ibin_leq, ibin_geq, ibin_lss, ibin_gtr, ibin_eql, ibin_neq, sbin_eql, sbin_neq, aun_not, Bool.not_true, Bool.not_false, decide_true, decide_false, if_true, if_false, Bool.false_eq_true, fldA_ptr, fldA_rop, anil_ptr, lenStr_str, amm_max, amm_min, Nat.zero_add, Nat.add_zero, List.length_cons, List.length_nil, Nat.reduceAdd]
    have : xs = [] := by
      by_cases c : xs = []
      · exact c
      · have := hb (by simpa using c); cases this
    subst this
    exact ret_here (h _ σ (.refl σ) (.inl ⟨.inl rfl, rfl⟩))
  | false =>
    simp only [og_some', onr_ret, gval_true, gval_false, pickV_true, pickV_false, apick_true, apick_false, gpick_true, gpick_false, ibin_leq, ibin_geq, ibin_lss, ibin_gtr, ibin_eql, ibin_neq, sbin_eql, sbin_neq, aun_not, Bool.not_true, Bool.not_false, decide_true, decide_false, if_true, if_false, Bool.false_eq_true, fldA_ptr, fldA_rop, anil_ptr, lenStr_str, amm_max, amm_min, Nat.zero_add, Nat.add_zero, List.length_cons, List.length_nil, Nat.reduceAdd]
    refine ⟨by decide, fun φ hφ => ?_⟩
    have hs : AH.Sub σ (σ.set φ ⟨0, 1, []⟩) := sub_set (.refl σ) hφ
    simp only [List.replicate_zero]
    refine Buf.app (Buf.new (σ := σ) (φ := φ) (sz := 1)) (hS.el _ hs) (iv_size xs) (iv_one xs) (by simpa using hl) ?_
    intro a' σ' b1 b2 b3 b4
    rw [List.nil_append] at b1
    have own : ∀ ψ, Buf.fam (.own φ 0 0 0) ψ → ψ = φ := by rintro ψ ⟨_, _, _, e⟩; cases e; rfl
    refine ret_here (h a' σ' ?_ (b1.dif fun ψ hψ => ?_))
    · intro ψ F hF
      have hne : ψ ≠ φ := by rintro rfl; rw [hφ] at hF; cases hF
      rw [b2 ψ (fun hf => hne (own ψ hf)) (by rw [hs.at hF]; simp)]; exact hs.at hF
    · rcases b3 ψ hψ with hf | hn
      · rw [own ψ hf]; exact hφ
      · exact hs.none hn

/-! ### in pieces of a size -/
theorem abd_nat (i d : Nat) : abd (some (iv (i : Nat))) d = some i := by simp [abd]
theorem abox_one {v : AV} {k : AV → AH → Prop} (hc : acells v = some [v]) : abox v σ k = ∀ φ, σ φ = none → k (.ptr φ 0 0 0) (σ.set φ ⟨0, 1, [[v]]⟩) := by unfold abox; rw [hc]; rfl
theorem c_slices_Chunk {a : AV} {n : Int} (hc : acells a = some [a]) (hn : 1 ≤ n)
    (h : ∀ φ ψ, σ φ = none → σ ψ = none → ψ ≠ φ → R (.ret (.clo (.func fn_slices_Chunk_1) [] [.ptr φ 0 0 0, .ptr ψ 0 0 0])) ((σ.set φ ⟨0, 1, [[a]]⟩).set ψ ⟨0, 1, [[iv n]]⟩)) : acall TP fn_slices_Chunk [a, iv n] σ R := by
  refine s_slices_Chunk_ok ?_
  unfold s_slices_Chunk
  rw [abox_one hc]
  intro φ hφ
  rw [abox_one rfl]
  intro ψ hψ
  simp only [AH.set_none] at hψ
  have e := lod_at (σ := (σ.set φ ⟨0, 1, [[a]]⟩).set ψ ⟨0, 1, [[iv n]]⟩) (φ := ψ) (st := 0) (i := 0) (off := 0) (c := iv n) (AH.set_same ..) rfl rfl
  have hc1 : ¬ n < 1 := by omega
  simp only [jn, e, hc1, og_some', onr_ret, gval_true, gval_false, pickV_true, pickV_false, apick_true, apick_false, gpick_true, gpick_false, ibin_leq, ibin_geq, ibin_lss, ibin_gtr, ibin_eql, ibin_neq, sbin_eql, sbin_neq, aun_not, Bool.not_true, Bool.not_false, decide_true, decide_false, if_true, if_false, Bool.false_eq_true, fldA_ptr, fldA_rop, anil_ptr, lenStr_str, amm_max, amm_min, Nat.zero_add, Nat.add_zero, List.length_cons, List.length_nil, Nat.reduceAdd]
  exact ret_here (h φ ψ hφ hψ.2 hψ.1)
set_option maxRecDepth 100000 in
theorem c_slices_Chunk_1 {y a : AV} {φ ψ n : Nat} {xs : List Int} (I : Nat → AH → Prop) (hn : 1 ≤ n) (hn2 : n ≤ 1099511627776) (hl : xs.length ≤ 1099511627776)
    (hI : ∀ k σ, I k σ → σ φ = some ⟨0, 1, [[a]]⟩ ∧ σ ψ = some ⟨0, 1, [[iv n]]⟩ ∧ Ns σ a xs) (h0 : I 0 σ)
    (step : ∀ k σ, k * n < xs.length → I k σ → ∀ v, Src σ v (((xs.drop (k * n)).take n).map fun x => [iv x]) → acallv TP y [v] σ (onr (fun v σ' => v = .val (.bool true) ∧ I (k + 1) σ') fun _ _ => False))
    (h : ∀ k σ, (∀ j, j < k → j * n < xs.length) → xs.length ≤ k * n → I k σ → R (.ret (.tup [])) σ) : acall TP fn_slices_Chunk_1 [y, .ptr φ 0 0 0, .ptr ψ 0 0 0] σ R := by
  refine s_slices_Chunk_1_ok ?_
  unfold s_slices_Chunk_1
  refine lp_rel (xs.length + 1) (fun k x σi => x = (y, .ptr φ 0 0 0, .ptr ψ 0 0 0, iv ((k * n : Nat) : Int), ()) ∧ I k σi ∧ ∀ j, j < k → j * n < xs.length) ⟨by simp [iv]; rfl, h0, fun j hj => absurd hj (Nat.not_lt_zero j)⟩ ?_
  rintro k x σi hk ⟨rfl, hi, hj⟩ R' hR'
  obtain ⟨f1, f2, hS⟩ := hI k σi hi
  have e1 := lod_at (st := 0) (i := 0) (off := 0) (c := a) f1 rfl rfl
  have e2 := lod_at (st := 0) (i := 0) (off := 0) (c := iv n) f2 rfl rfl
  simp only [e1, e2, hS.len, og_some', onr_ret, gval_true, gval_false, pickV_true, pickV_false, apick_true, apick_false, gpick_true, gpick_false, ibin_leq, ibin_geq, ibin_lss, ibin_gtr, ibin_eql, ibin_neq, sbin_eql, sbin_neq, aun_not, Bool.not_true, Bool.not_false, decide_true, decide_false, if_true, if_false, Bool.false_eq_true, fldA_ptr, fldA_rop, anil_ptr, lenStr_str, amm_max, amm_min, Nat.zero_add, Nat.add_zero, List.length_cons, List.length_nil, Nat.reduceAdd]
  by_cases c : k * n < xs.length
  · have c' : ((k * n : Nat) : Int) < (xs.length : Int) := by omega
    obtain ⟨b1, g1, g2⟩ := hS.slc (lo := some (iv ((k * n : Nat) : Int))) (hi := none) (l := k * n) (k := xs.length) (abd_nat _ _) rfl (by omega) (Nat.le_refl _)
    have hm : (if (((xs.take xs.length).drop (k * n)).length : Int) < (n : Int) then (((xs.take xs.length).drop (k * n)).length : Int) else (n : Int)) = ((min n (xs.length - k * n) : Nat) : Int) := by
      rw [List.length_drop, List.length_take]; split <;> omega
    have ha := ibin_add (a := ((k * n : Nat) : Int)) (b := ((min n (xs.length - k * n) : Nat) : Int)) (by omega) (by omega)
    have hb : ((k * n : Nat) : Int) + ((min n (xs.length - k * n) : Nat) : Int) = ((k * n + min n (xs.length - k * n) : Nat) : Int) := by omega
    rw [hb] at ha
    obtain ⟨b2, g3, g4⟩ := Sl.slc3 hS (l := k * n) (k := k * n + min n (xs.length - k * n)) (by omega) (by simp; omega)
    have hcut : (xs.take (k * n + min n (xs.length - k * n))).drop (k * n) = (xs.drop (k * n)).take n := by
      rw [List.drop_take, Nat.add_sub_cancel_left]
      by_cases c2 : n ≤ xs.length - k * n
      · rw [Nat.min_eq_left c2]
      · rw [Nat.min_eq_right (by omega), List.take_of_length_le (by simp), List.take_of_length_le (by simp; omega)]
    rw [← List.map_take, ← List.map_drop, hcut] at g4
    simp only [c', g1, g2.len, hm, ha, g3, og_some', onr_ret, gval_true, gval_false, pickV_true, pickV_false, apick_true, apick_false, gpick_true, gpick_false, ibin_leq, ibin_geq, ibin_lss, ibin_gtr, ibin_eql, ibin_neq, sbin_eql, sbin_neq, aun_not, Bool.not_true, Bool.not_false, decide_true, decide_false, if_true, if_false, Bool.false_eq_true, fldA_ptr, fldA_rop, anil_ptr, lenStr_str, amm_max, amm_min, Nat.zero_add, Nat.add_zero, List.length_cons, List.length_nil, Nat.reduceAdd]
    refine acallv_mono (step k σi c hi b2 g4) ?_
    rintro e σ2 he
    cases e with
    | pan v => exact he.elim
    | ret v =>
      obtain ⟨rfl, hi2⟩ := he
      obtain ⟨f1, f2, _⟩ := hI _ _ hi2
      have e2 := lod_at (st := 0) (i := 0) (off := 0) (c := iv n) f2 rfl rfl
      have ha2 := ibin_add (a := ((k * n : Nat) : Int)) (b := (n : Int)) (by omega) (by omega)
      rw [show ((k * n : Nat) : Int) + (n : Int) = (((k + 1) * n : Nat) : Int) by rw [Nat.succ_mul]; omega] at ha2
      simp only [e2, ha2, og_some', onr_ret, gval_true, gval_false, pickV_true, pickV_false, apick_true, apick_false, gpick_true, gpick_false, ibin_leq, ibin_geq, ibin_lss, ibin_gtr, ibin_eql, ibin_neq, sbin_eql, sbin_neq, aun_not, Bool.not_true, Bool.not_false, decide_true, decide_false, if_true, if_false, Bool.false_eq_true, fldA_ptr, fldA_rop, anil_ptr, lenStr_str, amm_max, amm_min, Nat.zero_add, Nat.add_zero, List.length_cons, List.length_nil, Nat.reduceAdd]
      refine hR' _ _ _ ?_ (.refl _) ⟨rfl, hi2, fun j hjk => ?_⟩
      · have : k ≤ k * n := Nat.le_mul_of_pos_right k (by omega)
        omega
      · by_cases c3 : j < k
        · exact hj j c3
        · obtain rfl : j = k := by omega
          exact c
  · have c' : ¬ ((k * n : Nat) : Int) < (xs.length : Int) := by omega
    simp only [c', og_some', onr_ret, gval_true, gval_false, pickV_true, pickV_false, apick_true, apick_false, gpick_true, gpick_false, ibin_leq, ibin_geq, ibin_lss, ibin_gtr, ibin_eql, ibin_neq, sbin_eql, sbin_neq, aun_not, Bool.not_true, Bool.not_false, decide_true, decide_false, if_true, if_false, Bool.false_eq_true, fldA_ptr, fldA_rop, anil_ptr, lenStr_str, amm_max, amm_min, Nat.zero_add, Nat.add_zero, List.length_cons, List.length_nil, Nat.reduceAdd]
    exact ret_here (h k σi hj (by omega) hi)
end Go.Proofs.Ytoccfncmphipbaa.E
/- Stacks of pieces, built: segsOf, l12Push, l12Open. -/
set_option linter.unusedSectionVars false
set_option linter.unusedSimpArgs false
set_option linter.unusedVariables false
namespace Go.Proofs.Ytoccfncmphipbaa.E
open Go Go.RowKit
variable [L : Lam]
variable {σ : AH} {R : AEnd → AH → Prop}
/-- Nothing of it lay in σ. -/
structure Fresh (σ : AH) (a : AV) (qs : List (AV × List Int)) : Prop where
  out : ∀ ψ, Buf.fam a ψ → σ ψ = none
  ins : ∀ q, q ∈ qs → ∀ ψ, Buf.fam q.1 ψ → σ ψ = none
theorem PB.dif {σ' : AH} {a : AV} {qs : List (AV × List Int)} (h : PB σ' a qs) (hf : Fresh σ a qs) : PB (dif σ σ') a qs := ⟨h.out.dif hf.out, fun q hq => (h.ins q hq).dif (hf.ins q hq), h.sep, h.pair⟩
theorem nofam_nil (ψ : Nat) : ¬ Buf.fam nilS ψ := by rintro ⟨_, _, _, e⟩; cases e
theorem PB.nil : PB σ nilS [] := ⟨.inl ⟨.inl rfl, rfl⟩, (fun q hq => by cases hq), (fun q hq => by cases hq), .nil⟩
theorem Fresh.nil : Fresh σ nilS [] := ⟨fun ψ h => absurd h (nofam_nil ψ), fun q hq => by cases hq⟩
theorem Buf.one {sz : Nat} {a : AV} {es : List (List AV)} (h : Buf σ sz a es) : acells a = some [a] ∧ a.one = true := by
  rcases h with ⟨rfl | rfl, _⟩ | ⟨φ, st, rfl, hF⟩ <;> exact ⟨rfl, rfl⟩
/-- A list put behind the others. -/
theorem PB.push {a w x : AV} {qs : List (AV × List Int)} {xs : List Int} {k : AV → AH → Prop} (h : PB σ a qs) (hx : aelems σ x = some [[w]]) (hw : Buf σ 1 w (xs.map fun x => [iv x]))
    (s1 : ∀ ψ, Buf.fam w ψ → ¬ Buf.fam a ψ) (s2 : ∀ q, q ∈ qs → ∀ ψ, Buf.fam q.1 ψ → ¬ Buf.fam w ψ) (hn : qs.length + 1 ≤ 4294967296)
    (hk : ∀ a' σ', PB σ' a' (qs ++ [(w, xs)]) → (∀ ψ, ¬ Buf.fam a ψ → σ ψ ≠ none → σ' ψ = σ ψ) → (∀ ψ, Buf.fam a' ψ → Buf.fam a ψ ∨ σ ψ = none) → k a' σ') : app 1 a x σ k := by
  refine Buf.app h.out hx (fun c hc => by obtain rfl := List.mem_singleton.1 hc; rfl) (fun c hc y hy => ?_) (by simpa using hn) ?_
  · obtain rfl := List.mem_singleton.1 hc
    obtain rfl := List.mem_singleton.1 hy
    exact hw.one.2
  intro a' σ' b1 b2 b3 b4
  have stay : ∀ q, q ∈ qs → Buf σ' 1 q.1 (q.2.map fun x => [iv x]) := fun q hq => (h.ins q hq).keep fun ψ hψ => b2 ψ (h.sep q hq ψ hψ) (by obtain ⟨F, hF⟩ := (h.ins q hq).fam_some hψ; rw [hF]; simp)
  have stayw : Buf σ' 1 w (xs.map fun x => [iv x]) := hw.keep fun ψ hψ => b2 ψ (s1 ψ hψ) (by obtain ⟨F, hF⟩ := hw.fam_some hψ; rw [hF]; simp)
  refine hk a' σ' ⟨by simpa using b1, fun q hq => ?_, fun q hq ψ hψ hψ' => ?_, ?_⟩ b2 b3
  · rcases List.mem_append.1 hq with hq | hq
    · exact stay q hq
    · obtain rfl := List.mem_singleton.1 hq; exact stayw
  · have hold : Buf.fam a ψ → False := by
      rcases List.mem_append.1 hq with hq | hq
      · exact h.sep q hq ψ hψ
      · obtain rfl := List.mem_singleton.1 hq; exact s1 ψ hψ
    rcases b3 ψ hψ' with hf | hf
    · exact hold hf
    · rcases List.mem_append.1 hq with hq | hq
      · obtain ⟨F, hF⟩ := (h.ins q hq).fam_some hψ; rw [hF] at hf; cases hf
      · obtain rfl := List.mem_singleton.1 hq
        obtain ⟨F, hF⟩ := hw.fam_some hψ; rw [hF] at hf; cases hf
  · rw [List.pairwise_append]
    exact ⟨h.pair, List.pairwise_singleton _ _, fun q hq r hr => by obtain rfl := List.mem_singleton.1 hr; exact s2 q hq⟩
theorem arange_in {P : Program} {gf : FuncId} {cap : List AV} {Y : AV → AH → (AH → Prop) → Prop} {K : AH → Prop} {Kp : AV → AH → Prop}
    (h : ∀ (L' : Lam) (l : Nat), (∀ x σ1 N, Y x σ1 N → @ayield L' P l [x] σ1 (onr (fun v σ' => v = .val (.bool true) ∧ N σ') (fun _ _ => False))) → @acall L' P gf (.yld l :: cap) σ (onr (fun _ σ' => K σ') Kp)) :
    arange P (.clo (.func gf) [] cap) Y σ K Kp := h
theorem toNat_pos {n : Int} (h : 1 ≤ n) : ((n.toNat : Nat) : Int) = n ∧ 1 ≤ n.toNat := by omega
theorem c_impl_segsOf {size : Int} {a : AV} {xs : List Int} (hS : Ns σ a xs) (h1 : 1 ≤ size) (h2 : size ≤ 64) (hl : xs.length ≤ 4000)
    (h : ∀ p σ' qs, AH.Sub σ σ' → PB (dif σ σ') p qs → OkP size (qs.map Prod.snd) → (qs.map Prod.snd).flatten = xs → R (.ret (.agg [iv size, p])) σ') : acall TP fn_impl_segsOf [iv size, a] σ R := by
  obtain ⟨n, rfl, hn⟩ : ∃ n : Nat, size = n ∧ 1 ≤ n := ⟨size.toNat, (toNat_pos h1).1.symm, (toNat_pos h1).2⟩
  refine s_impl_segsOf_ok ?_
  unfold s_impl_segsOf
  simp only [new_eq, bldI_0, og_some', onr_ret, gval_true, gval_false, pickV_true, pickV_false, apick_true, apick_false, gpick_true, gpick_false, ibin_leq, ibin_geq, ibin_lss, ibin_gtr, ibin_eql, ibin_neq, sbin_eql, sbin_neq, aun_not, Bool.not_true, Bool.not_false, decide_true, decide_false, if_true, if_false, Bool.false_eq_true, fldA_ptr, fldA_rop, anil_ptr, lenStr_str, amm_max, amm_min, Nat.zero_add, Nat.add_zero, List.length_cons, List.length_nil, Nat.reduceAdd]
  intro φ4 h4 φ5 h5
  simp only [AH.set_none] at h5
  obtain ⟨n54, h5⟩ := h5
  have hs4 : AH.Sub σ (σ.set φ4 ⟨0, 2, [[iv 0, nilS]]⟩) := sub_set (.refl σ) h4
  refine put_new (by rw [AH.set_ne' n54]; exact h5) rfl rfl (by simp [AV.one, Value.oneCell']) fun σ1 s1 f5 k1 => ?_
  have f4 : σ1 φ4 = some ⟨0, 2, [[iv 0, nilS]]⟩ := by rw [k1 φ4 (Ne.symm n54)]; exact AH.set_same ..
  have hs1 := hs4.trans s1
  have hone := hS.one
  refine c_slices_Chunk hone.1 (by omega) fun φa φb ha hb hab => ?_
  simp only [og_some', onr_ret, gval_true, gval_false, pickV_true, pickV_false, apick_true, apick_false, gpick_true, gpick_false, ibin_leq, ibin_geq, ibin_lss, ibin_gtr, ibin_eql, ibin_neq, sbin_eql, sbin_neq, aun_not, Bool.not_true, Bool.not_false, decide_true, decide_false, if_true, if_false, Bool.false_eq_true, fldA_ptr, fldA_rop, anil_ptr, lenStr_str, amm_max, amm_min, Nat.zero_add, Nat.add_zero, List.length_cons, List.length_nil, Nat.reduceAdd]
  have hsab : AH.Sub σ1 ((σ1.set φa ⟨0, 1, [[a]]⟩).set φb ⟨0, 1, [[iv n]]⟩) := sub_set (sub_set (.refl σ1) ha) hb
  have fa : ((σ1.set φa ⟨0, 1, [[a]]⟩).set φb ⟨0, 1, [[iv n]]⟩) φa = some ⟨0, 1, [[a]]⟩ := by rw [AH.set_ne' (Ne.symm hab)]; exact AH.set_same ..
  have fb : ((σ1.set φa ⟨0, 1, [[a]]⟩).set φb ⟨0, 1, [[iv n]]⟩) φb = some ⟨0, 1, [[iv n]]⟩ := AH.set_same ..
  generalize (σ1.set φa ⟨0, 1, [[a]]⟩).set φb ⟨0, 1, [[iv n]]⟩ = σ2 at hsab fa fb ⊢
  have f5' := hsab.at f5
  have na5 : φa ≠ φ5 := by rintro rfl; rw [f5] at ha; cases ha
  have nb5 : φb ≠ φ5 := by rintro rfl; rw [f5] at hb; cases hb
  refine arange_in fun L' l hY => ?_
  let I : Nat → AH → Prop := fun k σi => ∃ p qs, σi φ5 = some ⟨0, 2, [[iv n, p]]⟩ ∧ PB σi p qs ∧ Fresh σ2 p qs ∧ qs.map Prod.snd = pcs n xs k ∧ ∀ χ F, χ ≠ φ5 → σ2 χ = some F → σi χ = some F
  have keepS : ∀ σi, (∀ χ F, χ ≠ φ5 → σ2 χ = some F → σi χ = some F) → AH.Sub σ σi := fun σi hk χ F hF => by
    have hne : χ ≠ φ5 := by rintro rfl; rw [h5] at hF; cases hF
    exact hk χ F hne ((hs1.trans hsab).at hF)
  refine @c_slices_Chunk_1 L' _ _ _ a φa φb n xs I hn (by omega) (by omega) ?_ ?_ ?_ ?_
  · rintro k σi ⟨p, qs, i1, i2, i3, i4, i5⟩
    exact ⟨i5 φa _ na5 fa, i5 φb _ nb5 fb, hS.sub (keepS σi i5)⟩
  · exact ⟨nilS, [], f5', PB.nil, Fresh.nil, by simp [pcs], fun χ F _ hF => hF⟩
  · rintro k σi hlt ⟨p, qs, i1, i2, i3, i4, i5⟩ v hv
    refine hY v σi (I (k + 1)) ?_
    have hql : qs.length = k := by have := congrArg List.length i4; simpa using this
    have hkn : k ≤ k * n := Nat.le_mul_of_pos_right k (by omega)
    have e13 := lod_at (σ := σi) (φ := φ5) (st := 0) (i := 0) (off := 1) (c := p) i1 rfl rfl
    simp only [e13, og_some', onr_ret, gval_true, gval_false, pickV_true, pickV_false, apick_true, apick_false, gpick_true, gpick_false, ibin_leq, ibin_geq, ibin_lss, ibin_gtr, ibin_eql, ibin_neq, sbin_eql, sbin_neq, aun_not, Bool.not_true, Bool.not_false, decide_true, decide_false, if_true, if_false, Bool.false_eq_true, fldA_ptr, fldA_rop, anil_ptr, lenStr_str, amm_max, amm_min, Nat.zero_add, Nat.add_zero, List.length_cons, List.length_nil, Nat.reduceAdd]
    refine @c_slices_Clone L _ _ _ _ hv (by simp; omega) fun w σ3 w1 w2 => ?_
    have wone := w2.one
    have e13' := lod_at (σ := σ3) (φ := φ5) (st := 0) (i := 0) (off := 1) (c := p) (w1.at i1) rfl rfl
    have eb : bld [nilS] [(0, 1)] [(0, w)] = some (.agg [w]) := by simp [bld, afill, wone.1, spl]
    have er : bslR 1 [nilS] 1 [(0, .agg [w])] = some (.ro [[w]]) := by simp [bslR, afillS, acells, spl]
    simp only [e13', eb, er, true_and, og_some', onr_ret, gval_true, gval_false, pickV_true, pickV_false, apick_true, apick_false, gpick_true, gpick_false, ibin_leq, ibin_geq, ibin_lss, ibin_gtr, ibin_eql, ibin_neq, sbin_eql, sbin_neq, aun_not, Bool.not_true, Bool.not_false, decide_true, decide_false, if_true, if_false, Bool.false_eq_true, fldA_ptr, fldA_rop, anil_ptr, lenStr_str, amm_max, amm_min, Nat.zero_add, Nat.add_zero, List.length_cons, List.length_nil, Nat.reduceAdd]
    refine PB.push (i2.sub w1) (x := .ro [[w]]) (xs := (xs.drop (k * n)).take n) rfl (w2.sub (dif_sub _ _)) ?_ ?_ (by omega) ?_
    · intro ψ hψ hψ'
      obtain ⟨F, hF⟩ := w2.fam_some hψ
      obtain ⟨G, hG⟩ := i2.out.fam_some hψ'
      rw [(dif_some hF).1] at hG; cases hG
    · intro q hq ψ hψ hψ'
      obtain ⟨F, hF⟩ := w2.fam_some hψ'
      obtain ⟨G, hG⟩ := (i2.ins q hq).fam_some hψ
      rw [(dif_some hF).1] at hG; cases hG
    intro p' σ4 b1 b2 b3
    have pone := b1.out.one
    have hp5 : ¬ Buf.fam p φ5 := by
      intro hf
      rcases i2.out with ⟨rfl | rfl, _⟩ | ⟨ψ, st, rfl, hF⟩
      · exact nofam_nil _ hf
      · obtain ⟨_, _, _, e⟩ := hf; cases e
      · obtain ⟨_, _, _, e⟩ := hf; cases e
        rw [i1] at hF; cases hF
    have g5 : σ4 φ5 = some ⟨0, 2, [[iv n, p]]⟩ := by rw [b2 φ5 hp5 (by rw [w1.at i1]; simp)]; exact w1.at i1
    refine sto_fld (sz := 2) (off := 1) (i := 0) (cs := [iv n, p]) g5 rfl (by omega) pone.1 pone.2 ?_
    have no5 : ∀ {ψ} {b : AV} {es}, Buf σ4 1 b es → Buf.fam b ψ → ψ ≠ φ5 := by
      intro ψ b es hb hf he
      rcases hb with ⟨rfl | rfl, _⟩ | ⟨χ, st, rfl, hF⟩
      · exact nofam_nil _ hf
      · obtain ⟨_, _, _, e⟩ := hf; cases e
      · obtain ⟨_, _, _, e⟩ := hf; cases e
        rw [he, g5] at hF; cases hF
    refine ⟨p', qs ++ [(w, (xs.drop (k * n)).take n)], by rw [AH.set_same]; rfl, ?_, ?_, ?_, ?_⟩
    · exact ⟨b1.out.keep fun ψ hψ => AH.set_ne' (no5 b1.out hψ), fun q hq => (b1.ins q hq).keep fun ψ hψ => AH.set_ne' (no5 (b1.ins q hq) hψ), b1.sep, b1.pair⟩
    · refine ⟨fun ψ hψ => ?_, fun q hq ψ hψ => ?_⟩
      · rcases b3 ψ hψ with hf | hf
        · exact i3.out ψ hf
        · by_cases c : ψ = φ5
          · exact absurd c (no5 b1.out hψ)
          · cases e : σ2 ψ with
            | none => rfl
            | some F => rw [w1.at (i5 ψ F c e)] at hf; cases hf
      · rcases List.mem_append.1 hq with hq | hq
        · exact i3.ins q hq ψ hψ
        · obtain rfl := List.mem_singleton.1 hq
          obtain ⟨F, hF⟩ := w2.fam_some hψ
          have hi := (dif_some hF).1
          by_cases c : ψ = φ5
          · rw [c, i1] at hi; cases hi
          · cases e : σ2 ψ with
            | none => rfl
            | some F => rw [i5 ψ F c e] at hi; cases hi
    · rw [List.map_append, i4, pcs_succ]; rfl
    · intro χ F hne hF
      rw [AH.set_ne' hne]
      have hχ := i5 χ F hne hF
      rw [b2 χ ?_ (by rw [w1.at hχ]; simp)]; · exact w1.at hχ
      intro hf; rw [i3.out χ hf] at hF; cases hF
  · rintro k σi hj hge ⟨p, qs, i1, i2, i3, i4, i5⟩
    simp only [og_some', onr_ret, gval_true, gval_false, pickV_true, pickV_false, apick_true, apick_false, gpick_true, gpick_false, ibin_leq, ibin_geq, ibin_lss, ibin_gtr, ibin_eql, ibin_neq, sbin_eql, sbin_neq, aun_not, Bool.not_true, Bool.not_false, decide_true, decide_false, if_true, if_false, Bool.false_eq_true, fldA_ptr, fldA_rop, anil_ptr, lenStr_str, amm_max, amm_min, Nat.zero_add, Nat.add_zero, List.length_cons, List.length_nil, Nat.reduceAdd]
    have pone := i2.out.one
    have e5 := lodA_at (σ := σi) (φ := φ5) (st := 0) (i := 0) (n := 2) (cs := [iv n, p]) i1 rfl rfl rfl
    simp only [e5, og_some', onr_ret, gval_true, gval_false, pickV_true, pickV_false, apick_true, apick_false, gpick_true, gpick_false, ibin_leq, ibin_geq, ibin_lss, ibin_gtr, ibin_eql, ibin_neq, sbin_eql, sbin_neq, aun_not, Bool.not_true, Bool.not_false, decide_true, decide_false, if_true, if_false, Bool.false_eq_true, fldA_ptr, fldA_rop, anil_ptr, lenStr_str, amm_max, amm_min, Nat.zero_add, Nat.add_zero, List.length_cons, List.length_nil, Nat.reduceAdd]
    have n45 : φ4 ≠ φ5 := Ne.symm n54
    have f4i := i5 φ4 _ n45 (hsab.at f4)
    refine sto_own (es := [[iv 0, nilS]]) (cs := [iv n, p]) f4i (by simp) (by simp) rfl rfl (one2 pone.2) ?_
    simp [lodA, acellsAt]
    have hSub : AH.Sub σ (σi.set φ4 ⟨0, 2, [[iv n, p]]⟩) := sub_set (keepS σi i5) h4
    have hok := pcs_ok (n := n) (xs := xs) (k := k) (by omega) hj
    have hfl := pcs_flat n xs k
    rw [List.take_of_length_le (by omega)] at hfl
    refine @ret_here L _ _ _ (h p _ qs hSub ?_ (by rw [i4]; exact hok) (by rw [i4]; exact hfl))
    refine ⟨?_, fun q hq => ?_, i2.sep, i2.pair⟩
    · refine Buf.dif (i2.out.keep fun ψ hψ => AH.set_ne' ?_) fun ψ hψ => (hs1.trans hsab).none (i3.out ψ hψ)
      rintro rfl; have := i3.out _ hψ; rw [hsab.at f4] at this; cases this
    · refine Buf.dif ((i2.ins q hq).keep fun ψ hψ => AH.set_ne' ?_) fun ψ hψ => (hs1.trans hsab).none (i3.ins q hq ψ hψ)
      rintro rfl; have := i3.ins q hq _ hψ; rw [hsab.at f4] at this; cases this
end Go.Proofs.Ytoccfncmphipbaa.E
/- Stacks of pieces, built item by item. -/
set_option linter.unusedSectionVars false
set_option linter.unusedSimpArgs false
set_option linter.unusedVariables false
namespace Go.Proofs.Ytoccfncmphipbaa.E
open Go Go.RowKit
variable [L : Lam]
variable {σ : AH} {R : AEnd → AH → Prop}
/-- The families of a list of lists. -/
def Foot (a : AV) (qs : List (AV × List Int)) (ψ : Nat) : Prop := Buf.fam a ψ ∨ ∃ q, q ∈ qs ∧ Buf.fam q.1 ψ
theorem PB.foot {a : AV} {qs : List (AV × List Int)} (h : PB σ a qs) {ψ : Nat} (hf : Foot a qs ψ) : ∃ F, σ ψ = some F ∧ F.sz = 1 := by
  have key : ∀ {b es}, Buf σ 1 b es → Buf.fam b ψ → ∃ F, σ ψ = some F ∧ F.sz = 1 := by
    rintro b es (⟨rfl | rfl, _⟩ | ⟨χ, st, rfl, hF⟩) ⟨_, _, _, e⟩
    · cases e
    · cases e
    · cases e; exact ⟨_, hF, rfl⟩
  rcases hf with hf | ⟨q, hq, hf⟩
  · exact key h.out hf
  · exact key (h.ins q hq) hf
theorem PB.keep {σ' : AH} {a : AV} {qs : List (AV × List Int)} (h : PB σ a qs) (hk : ∀ ψ, Foot a qs ψ → σ' ψ = σ ψ) : PB σ' a qs :=
  ⟨h.out.keep fun ψ hψ => hk ψ (.inl hψ), fun q hq => (h.ins q hq).keep fun ψ hψ => hk ψ (.inr ⟨q, hq, hψ⟩), h.sep, h.pair⟩
theorem Buf.own_of {sz : Nat} {a : AV} {es : List (List AV)} (h : Buf σ sz a es) (hne : es ≠ []) : ∃ φ st, a = .own φ st 0 es.length ∧ σ φ = some ⟨st, sz, es⟩ := by
  rcases h with ⟨_, rfl⟩ | h
  · exact absurd rfl hne
  · exact h
/-- More items put into the last list, and the last list put back. -/
theorem PB.grow {a q x : AV} {pre : List (AV × List Int)} {ys zs : List Int} {n : Nat} {k : AV → AH → Prop} (h : PB σ a (pre ++ [(q, ys)])) (hx : aelems σ x = some (zs.map fun x => [iv x])) (hn : ys.length + zs.length ≤ 4294967296) (hpre : pre.length = n)
    (hk : ∀ q' σ', q'.one = true → acells q' = some [q'] → (∀ ψ, ¬ Buf.fam q ψ → σ ψ ≠ none → σ' ψ = σ ψ) → PB σ' a (pre ++ [(q, [])]) ∨ True →
      (∃ χ st es, idx 1 a (iv n) σ' = some (.ptr χ st n 0) ∧ σ' χ = some ⟨st, 1, es⟩ ∧ es[n]? = some [q] ∧ Buf.fam a χ ∧
        PB (σ'.set χ ⟨st, 1, es.set n [q']⟩) a (pre ++ [(q', ys ++ zs)])) → (∀ ψ, Buf.fam q' ψ → Buf.fam q ψ ∨ σ ψ = none) → k q' σ') : app 1 q x σ k := by
  have hin := h.ins (q, ys) (by simp)
  refine Buf.app hin hx (iv_size zs) (iv_one zs) (by simpa using hn) ?_
  intro q' σ' b1 b2 b3 b4
  have hsep := h.sep (q, ys) (by simp)
  obtain ⟨χ, st, ea, hχ⟩ := h.out.own_of (by simp)
  have hχ' : σ' χ = some ⟨st, 1, (pre ++ [(q, ys)]).map fun q => [q.1]⟩ := by
    rw [b2 χ (fun hf => hsep χ hf (by rw [ea]; exact ⟨_, _, _, rfl⟩)) (by rw [hχ]; simp)]; exact hχ
  have hpr := List.pairwise_append.1 h.pair
  refine hk q' σ' b1.one.2 b1.one.1 b2 (.inr trivial) ⟨χ, st, _, ?_, hχ', by simp [← hpre], by rw [ea]; exact ⟨_, _, _, rfl⟩, ?_⟩ b3
  · rw [ea]
    have := idx_own (off := 0) (n := ((pre ++ [(q, ys)]).map fun q => [q.1]).length) hχ' (i := n) (by simp; omega)
    rw [Nat.zero_add] at this; exact this
  · have hset : ((pre ++ [(q, ys)]).map fun q : AV × List Int => [q.1]).set n [q'] = (pre ++ [(q', ys ++ zs)]).map fun q => [q.1] := by
      rw [List.map_append, List.map_append]; exact set_mid (by simpa using hpre)
    rw [hset]
    have nofam : ∀ {b : AV} {es : List (List AV)}, Buf σ' 1 b es → (∀ ψ, Buf.fam b ψ → ψ ≠ χ) → Buf (σ'.set χ ⟨st, 1, (pre ++ [(q', ys ++ zs)]).map fun q => [q.1]⟩) 1 b es := fun hb hne => hb.keep fun ψ hψ => AH.set_ne' (hne ψ hψ)
    have fa : Buf.fam a χ := by rw [ea]; exact ⟨_, _, _, rfl⟩
    have onlyχ : ∀ ψ, Buf.fam a ψ → ψ = χ := by rw [ea]; rintro ψ ⟨_, _, _, e⟩; cases e; rfl
    have q'χ : ∀ ψ, Buf.fam q' ψ → ψ ≠ χ := by
      rintro ψ hψ rfl
      rcases b3 _ hψ with hf | hf
      · exact hsep _ hf fa
      · rw [hχ] at hf; cases hf
    have preχ : ∀ r, r ∈ pre → ∀ ψ, Buf.fam r.1 ψ → ψ ≠ χ := by
      rintro r hr ψ hψ rfl
      exact h.sep r (List.mem_append_left _ hr) _ hψ fa
    have prek : ∀ r, r ∈ pre → Buf σ' 1 r.1 (r.2.map fun x => [iv x]) := fun r hr => (h.ins r (List.mem_append_left _ hr)).keep fun ψ hψ =>
      b2 ψ (hpr.2.2 r hr _ (List.mem_singleton_self _) ψ hψ) (by obtain ⟨F, hF⟩ := (h.ins r (List.mem_append_left _ hr)).fam_some hψ; rw [hF]; simp)
    refine ⟨.inr ⟨χ, st, ?_, AH.set_same ..⟩, ?_, ?_, ?_⟩
    · rw [ea]; simp
    · intro r hr
      rcases List.mem_append.1 hr with hr | hr
      · exact nofam (prek r hr) (preχ r hr)
      · obtain rfl := List.mem_singleton.1 hr
        refine nofam ?_ q'χ
        simpa using b1
    · intro r hr ψ hψ hψ'
      have := onlyχ ψ hψ'
      rcases List.mem_append.1 hr with hr | hr
      · exact preχ r hr ψ hψ this
      · obtain rfl := List.mem_singleton.1 hr; exact q'χ ψ hψ this
    · rw [List.pairwise_append]
      refine ⟨hpr.1, List.pairwise_singleton _ _, fun r hr s hs => ?_⟩
      obtain rfl := List.mem_singleton.1 hs
      intro ψ hψ hψ'
      rcases b3 ψ hψ' with hf | hf
      · exact hpr.2.2 r hr _ (List.mem_singleton_self _) ψ hψ hf
      · obtain ⟨F, hF⟩ := (h.ins r (List.mem_append_left _ hr)).fam_some hψ; rw [hF] at hf; cases hf
theorem okp_more {size : Int} {ps : List (List Int)} {x : Int} (h1 : 1 ≤ size) (h : OkP size ps) (hl : ∀ hne : ps ≠ [], ((ps.getLast hne).length : Int) = size) : OkP size (ps ++ [[x]]) := by
  intro i hi
  by_cases c : i < ps.length
  · have e : (ps ++ [[x]])[i] = ps[i] := List.getElem_append_left c
    obtain ⟨a1, a2, a3⟩ := h i c
    rw [e]
    refine ⟨a1, a2, fun _ => ?_⟩
    by_cases c2 : i + 1 < ps.length
    · exact a3 c2
    · have hne : ps ≠ [] := by rintro rfl; cases c
      have := hl hne
      rw [List.getLast_eq_getElem] at this
      have ei : i = ps.length - 1 := by omega
      subst ei; exact this
  · have ei : i = ps.length := by simp at hi; omega
    subst ei
    simp
    omega
theorem okp_grow {size : Int} {ps : List (List Int)} {ys : List Int} {x : Int} (h : OkP size (ps ++ [ys])) (hl : (ys.length : Int) ≠ size) : OkP size (ps ++ [ys ++ [x]]) := by
  intro i hi
  by_cases c : i < ps.length
  · have e : (ps ++ [ys ++ [x]])[i] = ps[i] := List.getElem_append_left c
    have e2 : (ps ++ [ys])[i]'(by simp; omega) = ps[i] := List.getElem_append_left c
    obtain ⟨a1, a2, a3⟩ := h i (by simp; omega)
    rw [e2] at a1 a2 a3; rw [e]
    exact ⟨a1, a2, fun h => a3 (by simpa using h)⟩
  · have ei : i = ps.length := by simp at hi; omega
    subst ei
    obtain ⟨a1, a2, _⟩ := h ps.length (by simp)
    simp at a1 a2 ⊢
    omega
theorem tot_append (ps qs : List (List Int)) : tot (ps ++ qs) = tot ps + tot qs := by rw [← tot_flatten, List.flatten_append, List.length_append, tot_flatten, tot_flatten]
theorem last_at {φ : Nat} {size x : Int} {p q : AV} {pre : List (AV × List Int)} {ys : List Int} (n : Nat) (hF : σ φ = some ⟨0, 2, [[iv size, p]]⟩) (hB : PB σ p (pre ++ [(q, ys)])) (hn : pre.length + 1 = n) (hb : n ≤ 100002) :
    lod (.ptr φ 0 0 1) σ = some p ∧ ibin .sub (iv (n : Nat)) (.val (.int .i64 1)) = some (iv (pre.length : Nat)) ∧ (∃ χ st, idx 1 p (iv (pre.length : Nat)) σ = some (.ptr χ st pre.length 0) ∧ lod (.ptr χ st pre.length 0) σ = some q) ∧
    bslR 1 [(.val (.int .i64 0))] 1 [(0, iv x)] = some (.ro [[iv x]]) := by
  refine ⟨lod_at (σ := σ) (φ := φ) (st := 0) (i := 0) (off := 1) (c := p) hF rfl rfl, by rw [ibin_sub (by omega) (by omega)]; congr 3; omega, ?_, by simp [bslR, afillS, acells, spl, Value.cells]⟩
  obtain ⟨χ, st, ea, hχ⟩ := hB.out.own_of (by simp)
  refine ⟨χ, st, ?_, lod_at hχ rfl (by simp)⟩
  rw [ea]
  have := idx_own (off := 0) (n := ((pre ++ [(q, ys)]).map fun q => [q.1]).length) hχ (i := pre.length) (by simp)
  rw [Nat.zero_add] at this; exact this
set_option maxRecDepth 100000 in
theorem c_spec_l12Push {φ : Nat} {size x : Int} {p : AV} {qs : List (AV × List Int)} (hF : σ φ = some ⟨0, 2, [[iv size, p]]⟩) (hB : PB σ p qs) (hO : OkP size (qs.map Prod.snd)) (h1 : 1 ≤ size) (hb : qs.length + tot (qs.map Prod.snd) ≤ 100000)
    (h : ∀ σ' p' qs', σ' φ = some ⟨0, 2, [[iv size, p']]⟩ → PB σ' p' qs' → OkP size (qs'.map Prod.snd) → (qs'.map Prod.snd).flatten = (qs.map Prod.snd).flatten ++ [x] → qs'.length + tot (qs'.map Prod.snd) ≤ qs.length + tot (qs.map Prod.snd) + 2 →
      (∀ ψ F, ψ ≠ φ → ¬ Foot p qs ψ → σ ψ = some F → σ' ψ = some F) → (∀ ψ, Foot p' qs' ψ → Foot p qs ψ ∨ σ ψ = none) → R (.ret (.tup [])) σ') : acall TP fn_spec_l12Push [.ptr φ 0 0 0, iv x] σ R := by
  -- the last list grows
  have last : ∀ {σ p q pre ys} (n : Nat), σ φ = some ⟨0, 2, [[iv size, p]]⟩ → PB σ p (pre ++ [(q, ys)]) → pre.length + 1 = n → ys.length + n ≤ 100002 → ∀ {R : AEnd → AH → Prop},
      (∀ σ' q', σ' φ = some ⟨0, 2, [[iv size, p]]⟩ → PB σ' p (pre ++ [(q', ys ++ [x])]) → (∀ ψ F, ¬ Foot p (pre ++ [(q, ys)]) ψ → σ ψ = some F → σ' ψ = some F) → (∀ ψ, Buf.fam q' ψ → Buf.fam q ψ ∨ σ ψ = none) → R (.ret (.tup [])) σ') →
      (app 1 q (.ro [[iv x]]) σ fun v58 σ =>
      (lod (.ptr φ 0 0 1) σ = some p ∧ True) ∧
      og (idx 1 p (iv (pre.length : Nat)) σ) fun v59 =>
      og (fldA 0 v59) fun v60 =>
      sto 1 v60 v58 σ fun σ =>
      (True) ∧
      aret (.tup []) σ R) := by
    intro σ p q pre ys n hF hB hn hb R h
    refine PB.grow hB (zs := [x]) rfl (by simp; omega) rfl ?_
    rintro q' σ' o1 o2 b2 - ⟨χ', st', es', i1, i2, i3, i4, i5⟩ b3
    have hne : χ' ≠ φ := by
      rintro rfl
      obtain ⟨F, hF2, hsz⟩ := hB.foot (.inl i4)
      rw [hF] at hF2; cases hF2; cases hsz
    have hφ' : σ' φ = some ⟨0, 2, [[iv size, p]]⟩ := by
      rw [b2 φ ?_ (by rw [hF]; simp)]; · exact hF
      intro hf
      obtain ⟨F, hF2, hsz⟩ := hB.foot (.inr ⟨(q, ys), by simp, hf⟩)
      rw [hF] at hF2; cases hF2; cases hsz
    have e1' := lod_at (σ := σ') (φ := φ) (st := 0) (i := 0) (off := 1) (c := p) hφ' rfl rfl
    simp only [e1', i1, true_and, og_some', onr_ret, gval_true, gval_false, pickV_true, pickV_false, apick_true, apick_false, gpick_true, gpick_false, ibin_leq, ibin_geq, ibin_lss, ibin_gtr, ibin_eql, ibin_neq, sbin_eql, sbin_neq, aun_not, Bool.not_true, Bool.not_false, decide_true, decide_false, if_true, if_false, Bool.false_eq_true, fldA_ptr, fldA_rop, anil_ptr, lenStr_str, amm_max, amm_min, Nat.zero_add, Nat.add_zero, List.length_cons, List.length_nil, Nat.reduceAdd]
    refine sto_fld (sz := 1) (off := 0) (i := pre.length) (cs := [q]) i2 i3 (by omega) o2 o1 ?_
    refine ret_here (h _ q' ?_ i5 ?_ b3)
    · rw [AH.set_ne' (Ne.symm hne)]; exact hφ'
    · intro ψ F hnf hψ
      rw [AH.set_ne' (fun e => hnf (.inl (by rw [e]; exact i4))), b2 ψ (fun hf => hnf (.inr ⟨(q, ys), by simp, hf⟩)) (by rw [hψ]; simp)]; exact hψ
  refine s_spec_l12Push_ok ?_
  unfold s_spec_l12Push
  have e1 := lod_at (st := 0) (i := 0) (off := 1) (c := p) hF rfl rfl
  have e0 := lod_at (st := 0) (i := 0) (off := 0) (c := iv size) hF rfl rfl
  have hlen := hB.ps.len
  rw [List.length_map] at hlen
  -- an empty list is put behind first
  have grow : (∀ hne : qs.map Prod.snd ≠ [], (((qs.map Prod.snd).getLast hne).length : Int) = size) → ∀ k1 : AV → AH → Prop,
      (∀ σ2 p2, σ2 φ = some ⟨0, 2, [[iv size, p2]]⟩ → PB σ2 p2 (qs ++ [(nilS, [])]) → (∀ ψ F, ψ ≠ φ → ¬ Foot p qs ψ → σ ψ = some F → σ2 ψ = some F) → (∀ ψ, Foot p2 (qs ++ [(nilS, [])]) ψ → Foot p qs ψ ∨ σ ψ = none) → k1 (iv ((qs.length + 1 : Nat) : Int)) σ2) →
      (og (bld [nilS] [(0, 1)] []) fun v34 => bsl 1 [nilS] 1 [(0, v34)] σ fun v35 σ => app 1 p v35 σ fun v36 σ =>
        sto 1 (.ptr φ 0 0 1) v36 σ fun σ => og (ibin .add (.val (.int .i64 (qs.length : Nat))) (.val (.int .i64 1))) fun v40 => k1 v40 σ) := by
    intro hl k1 hk1
    have eb : bld [nilS] [(0, 1)] [] = some (.agg [nilS]) := rfl
    have ea : ibin .add (.val (.int .i64 (qs.length : Nat))) (.val (.int .i64 1)) = some (iv ((qs.length + 1 : Nat) : Int)) := ibin_up (i := qs.length) (n := qs.length + 1) (by omega) (by omega)
    simp only [eb, ea, og_some', onr_ret, gval_true, gval_false, pickV_true, pickV_false, apick_true, apick_false, gpick_true, gpick_false, ibin_leq, ibin_geq, ibin_lss, ibin_gtr, ibin_eql, ibin_neq, sbin_eql, sbin_neq, aun_not, Bool.not_true, Bool.not_false, decide_true, decide_false, if_true, if_false, Bool.false_eq_true, fldA_ptr, fldA_rop, anil_ptr, lenStr_str, amm_max, amm_min, Nat.zero_add, Nat.add_zero, List.length_cons, List.length_nil, Nat.reduceAdd]
    unfold bsl
    have ef : afillS 1 (List.replicate 1 [nilS]) [(0, .agg [nilS])] = some [[nilS]] := by simp [afillS, acells, spl]
    simp only [ef]
    refine ⟨by decide, fun ψ hψ => ?_⟩
    have hs : AH.Sub σ (σ.set ψ ⟨0, 1, [[nilS]]⟩) := sub_set (.refl σ) hψ
    refine PB.push (hB.sub hs) (w := nilS) (xs := []) (by simp [aelems]) (.inl ⟨.inl rfl, rfl⟩) (fun χ h => absurd h (nofam_nil χ)) (fun q _ χ _ h => absurd h (nofam_nil χ)) (by omega) ?_
    intro p2 σ2 b1 b2 b3
    have nφ : ∀ {a qs}, PB σ a qs → ¬ Foot a qs φ := fun hB hf => by obtain ⟨F, hF2, hsz⟩ := hB.foot hf; rw [hF] at hF2; cases hF2; cases hsz
    have hφ2 : σ2 φ = some ⟨0, 2, [[iv size, p]]⟩ := by rw [b2 φ (fun hf => nφ hB (.inl hf)) (by rw [hs.at hF]; simp)]; exact hs.at hF
    have n2 : ¬ Foot p2 (qs ++ [(nilS, [])]) φ := fun hf => by obtain ⟨F, hF2, hsz⟩ := b1.foot hf; rw [hφ2] at hF2; cases hF2; cases hsz
    refine sto_fld (sz := 2) (off := 1) (i := 0) (cs := [iv size, p]) hφ2 rfl (by omega) b1.out.one.1 b1.out.one.2 ?_
    refine hk1 _ p2 (by rw [AH.set_same]; rfl) (b1.keep fun χ hχ => AH.set_ne' (by rintro rfl; exact n2 hχ)) ?_ ?_
    · intro χ F hne hnf hχ
      rw [AH.set_ne' hne, b2 χ (fun hf => hnf (.inl hf)) (by rw [hs.at hχ]; simp)]; exact hs.at hχ
    · rintro χ (hf | ⟨q, hq, hf⟩)
      · rcases b3 χ hf with hf | hf
        · exact .inl (.inl hf)
        · exact .inr (hs.none hf)
      · rcases List.mem_append.1 hq with hq | hq
        · exact .inl (.inr ⟨q, hq, hf⟩)
        · obtain rfl := List.mem_singleton.1 hq; exact absurd hf (nofam_nil χ)
  have newlast : (∀ hne : qs.map Prod.snd ≠ [], (((qs.map Prod.snd).getLast hne).length : Int) = size) → ∀ σ2 p2, σ2 φ = some ⟨0, 2, [[iv size, p2]]⟩ → PB σ2 p2 (qs ++ [(nilS, [])]) → (∀ ψ F, ψ ≠ φ → ¬ Foot p qs ψ → σ ψ = some F → σ2 ψ = some F) → (∀ ψ, Foot p2 (qs ++ [(nilS, [])]) ψ → Foot p qs ψ ∨ σ ψ = none) →
      ∀ σ' q', σ' φ = some ⟨0, 2, [[iv size, p2]]⟩ → PB σ' p2 (qs ++ [(q', [] ++ [x])]) → (∀ ψ F, ¬ Foot p2 (qs ++ [(nilS, [])]) ψ → σ2 ψ = some F → σ' ψ = some F) → (∀ ψ, Buf.fam q' ψ → Buf.fam nilS ψ ∨ σ2 ψ = none) → R (.ret (.tup [])) σ' := by
    intro hl σ2 p2 g1 g2 g3 g4 σ' q' k1 k2 k3 k4
    refine h σ' p2 _ k1 k2 ?_ ?_ ?_ ?_ ?_
    · rw [List.map_append]; exact okp_more h1 hO hl
    · simp
    · rw [List.map_append, tot_append]; simp [tot]; omega
    · intro ψ F hne hnf hψ
      refine k3 ψ F (fun hf => ?_) (g3 ψ F hne hnf hψ)
      rcases g4 ψ hf with hf | hf
      · exact hnf hf
      · rw [hψ] at hf; cases hf
    · have old : ∀ ψ, Foot p2 qs ψ → Foot p qs ψ ∨ σ ψ = none := by
        rintro ψ (hf | ⟨q, hq, hf⟩)
        · exact g4 ψ (.inl hf)
        · exact g4 ψ (.inr ⟨q, List.mem_append_left _ hq, hf⟩)
      rintro ψ (hf | ⟨q, hq, hf⟩)
      · exact old ψ (.inl hf)
      · rcases List.mem_append.1 hq with hq | hq
        · exact old ψ (.inr ⟨q, hq, hf⟩)
        · obtain rfl := List.mem_singleton.1 hq
          rcases k4 ψ hf with hf | hf
          · exact absurd hf (nofam_nil ψ)
          · by_cases c : Foot p qs ψ
            · exact .inl c
            · by_cases e : ψ = φ
              · rw [e, g1] at hf; cases hf
              · cases e2 : σ ψ with
                | none => exact .inr rfl
                | some F => rw [g3 ψ F e c e2] at hf; cases hf
  simp only [e1, hlen, og_some', onr_ret, gval_true, gval_false, pickV_true, pickV_false, apick_true, apick_false, gpick_true, gpick_false, ibin_leq, ibin_geq, ibin_lss, ibin_gtr, ibin_eql, ibin_neq, sbin_eql, sbin_neq, aun_not, Bool.not_true, Bool.not_false, decide_true, decide_false, if_true, if_false, Bool.false_eq_true, fldA_ptr, fldA_rop, anil_ptr, lenStr_str, amm_max, amm_min, Nat.zero_add, Nat.add_zero, List.length_cons, List.length_nil, Nat.reduceAdd]
  by_cases c0 : qs = []
  · have hl : ∀ hne : (qs.map Prod.snd) ≠ [], (((qs.map Prod.snd).getLast hne).length : Int) = size := fun hne => absurd (by rw [c0]; rfl) hne
    have hd : decide (((qs.length : Nat) : Int) = 0) = true := by rw [c0]; rfl
    simp only [jn, hd, og_some', onr_ret, gval_true, gval_false, pickV_true, pickV_false, apick_true, apick_false, gpick_true, gpick_false, ibin_leq, ibin_geq, ibin_lss, ibin_gtr, ibin_eql, ibin_neq, sbin_eql, sbin_neq, aun_not, Bool.not_true, Bool.not_false, decide_true, decide_false, if_true, if_false, Bool.false_eq_true, fldA_ptr, fldA_rop, anil_ptr, lenStr_str, amm_max, amm_min, Nat.zero_add, Nat.add_zero, List.length_cons, List.length_nil, Nat.reduceAdd]
    refine grow hl _ fun σ2 p2 g1 g2 g3 g4 => ?_
    obtain ⟨t1, t2, ⟨χ, st, t3, t4⟩, t5⟩ := last_at (x := x) (qs.length + 1) g1 g2 rfl (by omega)
    simp only [t1, t2, t3, t4, t5, og_some', onr_ret, gval_true, gval_false, pickV_true, pickV_false, apick_true, apick_false, gpick_true, gpick_false, ibin_leq, ibin_geq, ibin_lss, ibin_gtr, ibin_eql, ibin_neq, sbin_eql, sbin_neq, aun_not, Bool.not_true, Bool.not_false, decide_true, decide_false, if_true, if_false, Bool.false_eq_true, fldA_ptr, fldA_rop, anil_ptr, lenStr_str, amm_max, amm_min, Nat.zero_add, Nat.add_zero, List.length_cons, List.length_nil, Nat.reduceAdd]
    exact last _ g1 g2 rfl (by simp; omega) (newlast hl σ2 p2 g1 g2 g3 g4)
  · obtain ⟨pre, q, ys, rfl⟩ : ∃ pre q ys, qs = pre ++ [(q, ys)] := ⟨qs.dropLast, (qs.getLast c0).1, (qs.getLast c0).2, (List.dropLast_concat_getLast c0).symm⟩
    have hpos : ¬ (((pre ++ [(q, ys)]).length : Nat) : Int) = 0 := by simp; omega
    obtain ⟨t1, t2, ⟨χ, st, t3, t4⟩, t5⟩ := last_at (x := x) (pre ++ [(q, ys)]).length hF hB (by simp) (by omega)
    have hql : lenS q = some (.val (.int .i64 ys.length)) := by have := (Buf.cs (hB.ins (q, ys) (by simp))).len; simpa using this
    simp only [jn, hpos, t1, t2, t3, t4, t5, hql, e0, og_some', onr_ret, gval_true, gval_false, pickV_true, pickV_false, apick_true, apick_false, gpick_true, gpick_false, ibin_leq, ibin_geq, ibin_lss, ibin_gtr, ibin_eql, ibin_neq, sbin_eql, sbin_neq, aun_not, Bool.not_true, Bool.not_false, decide_true, decide_false, if_true, if_false, Bool.false_eq_true, fldA_ptr, fldA_rop, anil_ptr, lenStr_str, amm_max, amm_min, Nat.zero_add, Nat.add_zero, List.length_cons, List.length_nil, Nat.reduceAdd]
    have htot : tot ((pre ++ [(q, ys)]).map Prod.snd) = tot (pre.map Prod.snd) + ys.length := by rw [List.map_append, tot_append]; simp [tot]
    rw [htot] at hb
    by_cases c : (ys.length : Int) = size
    · have hl : ∀ hne : (pre ++ [(q, ys)]).map Prod.snd ≠ [], ((((pre ++ [(q, ys)]).map Prod.snd).getLast hne).length : Int) = size := fun hne => by simpa using c
      simp only [c, og_some', onr_ret, gval_true, gval_false, pickV_true, pickV_false, apick_true, apick_false, gpick_true, gpick_false, ibin_leq, ibin_geq, ibin_lss, ibin_gtr, ibin_eql, ibin_neq, sbin_eql, sbin_neq, aun_not, Bool.not_true, Bool.not_false, decide_true, decide_false, if_true, if_false, Bool.false_eq_true, fldA_ptr, fldA_rop, anil_ptr, lenStr_str, amm_max, amm_min, Nat.zero_add, Nat.add_zero, List.length_cons, List.length_nil, Nat.reduceAdd]
      refine grow hl _ fun σ2 p2 g1 g2 g3 g4 => ?_
      obtain ⟨u1, u2, ⟨χ, st, u3, u4⟩, u5⟩ := last_at (x := x) ((pre ++ [(q, ys)]).length + 1) g1 g2 rfl (by omega)
      simp only [u1, u2, u3, u4, u5, og_some', onr_ret, gval_true, gval_false, pickV_true, pickV_false, apick_true, apick_false, gpick_true, gpick_false, ibin_leq, ibin_geq, ibin_lss, ibin_gtr, ibin_eql, ibin_neq, sbin_eql, sbin_neq, aun_not, Bool.not_true, Bool.not_false, decide_true, decide_false, if_true, if_false, Bool.false_eq_true, fldA_ptr, fldA_rop, anil_ptr, lenStr_str, amm_max, amm_min, Nat.zero_add, Nat.add_zero, List.length_cons, List.length_nil, Nat.reduceAdd]
      exact last _ g1 g2 rfl (by simp only [List.length_nil]; omega) (newlast hl σ2 p2 g1 g2 g3 g4)
    · simp only [c, og_some', onr_ret, gval_true, gval_false, pickV_true, pickV_false, apick_true, apick_false, gpick_true, gpick_false, ibin_leq, ibin_geq, ibin_lss, ibin_gtr, ibin_eql, ibin_neq, sbin_eql, sbin_neq, aun_not, Bool.not_true, Bool.not_false, decide_true, decide_false, if_true, if_false, Bool.false_eq_true, fldA_ptr, fldA_rop, anil_ptr, lenStr_str, amm_max, amm_min, Nat.zero_add, Nat.add_zero, List.length_cons, List.length_nil, Nat.reduceAdd]
      refine last (pre.length + 1) hF hB rfl (by simp at hb; omega) ?_
      intro σ' q' k1 k2 k3 k4
      refine h σ' p _ k1 k2 ?_ ?_ ?_ ?_ ?_
      · rw [List.map_append]; rw [List.map_append] at hO; exact okp_grow hO c
      · simp
      · rw [List.map_append, tot_append, htot]; simp [tot]; omega
      · exact fun ψ F _ hnf hψ => k3 ψ F hnf hψ
      · rintro ψ (hf | ⟨r, hr, hf⟩)
        · exact .inl (.inl hf)
        · rcases List.mem_append.1 hr with hr | hr
          · exact .inl (.inr ⟨r, List.mem_append_left _ hr, hf⟩)
          · obtain rfl := List.mem_singleton.1 hr
            rcases k4 ψ hf with hf | hf
            · exact .inl (.inr ⟨(q, ys), by simp, hf⟩)
            · exact .inr hf
end Go.Proofs.Ytoccfncmphipbaa.E
/- OpenSegs. -/
set_option linter.unusedSectionVars false
set_option linter.unusedSimpArgs false
set_option linter.unusedVariables false
namespace Go.Proofs.Ytoccfncmphipbaa.E
open Go Go.RowKit
variable [L : Lam]
variable {σ : AH} {R : AEnd → AH → Prop}
set_option maxRecDepth 100000 in
theorem c_spec_l12Open {size : Int} {a : AV} {xs : List Int} (hS : Ns σ a xs) (h1 : 1 ≤ size) (hl : xs.length ≤ 4000)
    (h : ∀ σ' p qs, AH.Sub σ σ' → PB (dif σ σ') p qs → OkP size (qs.map Prod.snd) → (qs.map Prod.snd).flatten = xs → R (.ret (.agg [iv size, p])) σ') : acall TP fn_spec_l12Open [iv size, a] σ R := by
  refine s_spec_l12Open_ok ?_
  unfold s_spec_l12Open
  simp only [new_eq, bldI_0, og_some', onr_ret, gval_true, gval_false, pickV_true, pickV_false, apick_true, apick_false, gpick_true, gpick_false, ibin_leq, ibin_geq, ibin_lss, ibin_gtr, ibin_eql, ibin_neq, sbin_eql, sbin_neq, aun_not, Bool.not_true, Bool.not_false, decide_true, decide_false, if_true, if_false, Bool.false_eq_true, fldA_ptr, fldA_rop, anil_ptr, lenStr_str, amm_max, amm_min, Nat.zero_add, Nat.add_zero, List.length_cons, List.length_nil, Nat.reduceAdd]
  intro φ4 h4 φ5 h5
  simp only [AH.set_none] at h5
  obtain ⟨n54, h5⟩ := h5
  have hs4 : AH.Sub σ (σ.set φ4 ⟨0, 2, [[iv 0, nilS]]⟩) := sub_set (.refl σ) h4
  refine put_new (by rw [AH.set_ne' n54]; exact h5) rfl rfl (by simp [AV.one, Value.oneCell']) fun σ1 s1 f5 k1 => ?_
  have f4 : σ1 φ4 = some ⟨0, 2, [[iv 0, nilS]]⟩ := by rw [k1 φ4 (Ne.symm n54)]; exact AH.set_same ..
  have hs1 := hs4.trans s1
  refine lp_for xs.length (fun i => (a, .ptr φ4 0 0 0, .ptr φ5 0 0 0, iv i, ())) (fun i σi => ∃ p qs, σi φ5 = some ⟨0, 2, [[iv size, p]]⟩ ∧ PB σi p qs ∧ (∀ ψ, Foot p qs ψ → σ1 ψ = none) ∧ OkP size (qs.map Prod.snd) ∧ (qs.map Prod.snd).flatten = xs.take i ∧ qs.length + tot (qs.map Prod.snd) ≤ 2 * i ∧ ∀ χ F, χ ≠ φ5 → σ1 χ = some F → σi χ = some F)
    rfl ⟨nilS, [], f5, PB.nil, (by rintro ψ (hf | ⟨q, hq, _⟩); exact absurd hf (nofam_nil ψ); cases hq), (fun i hi => by simp at hi), by simp, by simp [tot], fun χ F _ hF => hF⟩ ?_
  rintro i σi hi ⟨p, qs, i1, i2, i3, i4, i5, i6, i7⟩ R' hR'
  have hsi : AH.Sub σ σi := fun χ F hF => by
    have hne : χ ≠ φ5 := by rintro rfl; rw [h5] at hF; cases hF
    exact i7 χ F hne (hs1.at hF)
  have hSi := hS.sub hsi
  simp only [hSi.len, og_some', onr_ret, gval_true, gval_false, pickV_true, pickV_false, apick_true, apick_false, gpick_true, gpick_false, ibin_leq, ibin_geq, ibin_lss, ibin_gtr, ibin_eql, ibin_neq, sbin_eql, sbin_neq, aun_not, Bool.not_true, Bool.not_false, decide_true, decide_false, if_true, if_false, Bool.false_eq_true, fldA_ptr, fldA_rop, anil_ptr, lenStr_str, amm_max, amm_min, Nat.zero_add, Nat.add_zero, List.length_cons, List.length_nil, Nat.reduceAdd]
  by_cases hlt : i < xs.length
  · have g0 : (i : Int) < xs.length := by omega
    obtain ⟨v, e1, e2, _⟩ := hSi.at hlt
    simp only [g0, e1, e2, og_some', onr_ret, gval_true, gval_false, pickV_true, pickV_false, apick_true, apick_false, gpick_true, gpick_false, ibin_leq, ibin_geq, ibin_lss, ibin_gtr, ibin_eql, ibin_neq, sbin_eql, sbin_neq, aun_not, Bool.not_true, Bool.not_false, decide_true, decide_false, if_true, if_false, Bool.false_eq_true, fldA_ptr, fldA_rop, anil_ptr, lenStr_str, amm_max, amm_min, Nat.zero_add, Nat.add_zero, List.length_cons, List.length_nil, Nat.reduceAdd]
    refine c_spec_l12Push i1 i2 i4 h1 (by omega) ?_
    intro σ2 p2 qs2 k1 k2 k3 k4 k5 k6 k7
    simp only [ibin_up hlt (by omega), og_some', onr_ret, gval_true, gval_false, pickV_true, pickV_false, apick_true, apick_false, gpick_true, gpick_false, ibin_leq, ibin_geq, ibin_lss, ibin_gtr, ibin_eql, ibin_neq, sbin_eql, sbin_neq, aun_not, Bool.not_true, Bool.not_false, decide_true, decide_false, if_true, if_false, Bool.false_eq_true, fldA_ptr, fldA_rop, anil_ptr, lenStr_str, amm_max, amm_min, Nat.zero_add, Nat.add_zero, List.length_cons, List.length_nil, Nat.reduceAdd]
    refine hR' hlt _ _ (.refl _) ⟨p2, qs2, k1, k2, ?_, k3, ?_, by omega, ?_⟩
    · intro ψ hf
      rcases k7 ψ hf with hf' | hf'
      · exact i3 ψ hf'
      · by_cases c : ψ = φ5
        · rw [c, i1] at hf'; cases hf'
        · cases e : σ1 ψ with
          | none => rfl
          | some F => rw [i7 ψ F c e] at hf'; cases hf'
    · rw [k4, i5, List.take_succ_eq_append_getElem hlt]
    · intro χ F hne hF
      exact k6 χ F hne (fun hf => by rw [i3 χ hf] at hF; cases hF) (i7 χ F hne hF)
  · have g0 : ¬ (i : Int) < xs.length := by omega
    obtain rfl : i = xs.length := by omega
    rw [List.take_length] at i5
    have e5 := lodA_at (σ := σi) (φ := φ5) (st := 0) (i := 0) (n := 2) (cs := [iv size, p]) i1 rfl rfl rfl
    simp only [g0, e5, og_some', onr_ret, gval_true, gval_false, pickV_true, pickV_false, apick_true, apick_false, gpick_true, gpick_false, ibin_leq, ibin_geq, ibin_lss, ibin_gtr, ibin_eql, ibin_neq, sbin_eql, sbin_neq, aun_not, Bool.not_true, Bool.not_false, decide_true, decide_false, if_true, if_false, Bool.false_eq_true, fldA_ptr, fldA_rop, anil_ptr, lenStr_str, amm_max, amm_min, Nat.zero_add, Nat.add_zero, List.length_cons, List.length_nil, Nat.reduceAdd]
    refine sto_own (es := [[iv 0, nilS]]) (cs := [iv size, p]) (i7 φ4 _ (Ne.symm n54) f4) (by simp) (by simp) rfl rfl (one2 i2.out.one.2) ?_
    simp [lodA, acellsAt]
    refine ret_here (h _ p qs (sub_set hsi h4) ?_ i4 i5)
    have hk : ∀ ψ, Foot p qs ψ → (σi.set φ4 ⟨0, 2, [[iv size, p]]⟩) ψ = σi ψ := fun ψ hf => AH.set_ne' (by rintro rfl; have := i3 _ hf; rw [f4] at this; cases this)
    exact (i2.keep hk).dif ⟨fun ψ hψ => hs1.none (i3 ψ (.inl hψ)), fun q hq ψ hψ => hs1.none (i3 ψ (.inr ⟨q, hq, hψ⟩))⟩
/-- What OpenSegs answers. -/
def OpenR (size : Int) (xs : List Int) (c s : Int) (ps : List (List Int)) : Prop :=
  if 1 ≤ size ∧ size ≤ 64 then if xs.length ≤ 4000 then c = 0 ∧ s = size ∧ OkP size ps ∧ ps.flatten = xs else c = 2 ∧ s = 0 ∧ ps = [] else c = 3 ∧ s = 0 ∧ ps = []
theorem OpenR.unique {size : Int} {xs : List Int} {c s c' s' : Int} {ps ps' : List (List Int)} (h : OpenR size xs c s ps) (h' : OpenR size xs c' s' ps') : c = c' ∧ s = s' ∧ ps = ps' := by
  unfold OpenR at h h'
  split at h
  · rename_i c1
    rw [if_pos c1] at h'
    split at h
    · rename_i c2
      rw [if_pos c2] at h'
      obtain ⟨rfl, rfl, o1, e1⟩ := h
      obtain ⟨rfl, rfl, o2, e2⟩ := h'
      exact ⟨rfl, rfl, okp_unique o1 o2 (by rw [e1, e2])⟩
    · rename_i c2
      rw [if_neg c2] at h'
      obtain ⟨rfl, rfl, rfl⟩ := h
      obtain ⟨rfl, rfl, rfl⟩ := h'
      exact ⟨rfl, rfl, rfl⟩
  · rename_i c1
    rw [if_neg c1] at h'
    obtain ⟨rfl, rfl, rfl⟩ := h
    obtain ⟨rfl, rfl, rfl⟩ := h'
    exact ⟨rfl, rfl, rfl⟩
theorem one_le_flat {size : Int} : ∀ {ps : List (List Int)}, OkP size ps → ps.length ≤ ps.flatten.length := by
  intro ps
  induction ps with
  | nil => intro _; simp
  | cons p ps ih =>
    intro h
    have h1 := (h 0 (by simp)).1
    have h2 := ih (okAt_tail h)
    simp only [List.getElem_cons_zero] at h1
    simp only [List.flatten_cons, List.length_append, List.length_cons]
    omega
theorem OpenR.small {size : Int} {xs : List Int} {c s : Int} {ps : List (List Int)} (h : OpenR size xs c s ps) : ps.length + tot ps ≤ 8000 := by
  unfold OpenR at h
  split at h
  · split at h
    · obtain ⟨_, _, h1, h2⟩ := h
      have := one_le_flat h1
      rw [← tot_flatten]
      rw [h2] at this ⊢; omega
    · obtain ⟨_, _, rfl⟩ := h; simp [tot]
  · obtain ⟨_, _, rfl⟩ := h; simp [tot]
theorem bldS_0 (x : Int) : bld [iv 0, iv 0, iv 0, nilS] [(0, 1), (1, 1), (2, 2)] [(0, iv x)] = some (.agg [iv x, iv 0, iv 0, nilS]) := rfl
theorem bldS_2 (s : Int) (v : AV) : bld [iv 0, iv 0, iv 0, nilS] [(0, 1), (1, 1), (2, 2)] [(2, .agg [iv s, v])] = some (.agg [iv 0, iv 0, iv s, v]) := by simp [bld, afill, acells, spl]
theorem one4 {a b c : Int} {v : AV} (hv : v.one = true) : ∀ x, x ∈ [iv a, iv b, iv c, v] → x.one = true := by
  intro x hx
  simp only [List.mem_cons, List.not_mem_nil, or_false] at hx
  rcases hx with rfl | rfl | rfl | rfl
  · rfl
  · rfl
  · rfl
  · exact hv
theorem c_impl_OpenSegs {size : Int} {a : AV} {xs : List Int} (hS : Ns σ a xs) (hl : xs.length ≤ 1099511627776)
    (h : ∀ σ' c s p qs, AH.Sub σ σ' → PB (dif σ σ') p qs → OpenR size xs c s (qs.map Prod.snd) → R (.ret (.agg [iv c, iv 0, iv s, p])) σ') : acall TP fn_impl_OpenSegs [iv size, a] σ R := by
  refine s_impl_OpenSegs_ok ?_
  unfold s_impl_OpenSegs
  simp only [new_eq, og_some', onr_ret, gval_true, gval_false, pickV_true, pickV_false, apick_true, apick_false, gpick_true, gpick_false, ibin_leq, ibin_geq, ibin_lss, ibin_gtr, ibin_eql, ibin_neq, sbin_eql, sbin_neq, aun_not, Bool.not_true, Bool.not_false, decide_true, decide_false, if_true, if_false, Bool.false_eq_true, fldA_ptr, fldA_rop, anil_ptr, lenStr_str, amm_max, amm_min, Nat.zero_add, Nat.add_zero, List.length_cons, List.length_nil, Nat.reduceAdd]
  intro φ hφ
  have hs : AH.Sub σ (σ.set φ ⟨0, 4, [[iv 0, iv 0, iv 0, nilS]]⟩) := sub_set (.refl σ) hφ
  have hG : (σ.set φ ⟨0, 4, [[iv 0, iv 0, iv 0, nilS]]⟩) φ = some ⟨0, 4, [[iv 0, iv 0, iv 0, nilS]]⟩ := AH.set_same ..
  generalize hσ1 : σ.set φ ⟨0, 4, [[iv 0, iv 0, iv 0, nilS]]⟩ = σ1 at hs hG ⊢
  refine c_impl_isSize ?_
  simp only [og_some', onr_ret, gval_true, gval_false, pickV_true, pickV_false, apick_true, apick_false, gpick_true, gpick_false, ibin_leq, ibin_geq, ibin_lss, ibin_gtr, ibin_eql, ibin_neq, sbin_eql, sbin_neq, aun_not, Bool.not_true, Bool.not_false, decide_true, decide_false, if_true, if_false, Bool.false_eq_true, fldA_ptr, fldA_rop, anil_ptr, lenStr_str, amm_max, amm_min, Nat.zero_add, Nat.add_zero, List.length_cons, List.length_nil, Nat.reduceAdd]
  have fin : ∀ (c s : Int) (p : AV) (qs : List (AV × List Int)) (σ2 : AH), AH.Sub σ1 σ2 → PB (dif σ1 σ2) p qs → OpenR size xs c s (qs.map Prod.snd) →
      sto 4 (.ptr φ 0 0 0) (.agg [iv c, iv 0, iv s, p]) σ2 fun σ => og (lodA 4 (.ptr φ 0 0 0) σ) fun r4 => aret r4 σ R := by
    intro c s p qs σ2 s2 hB hO
    refine sto_own (cs := [iv c, iv 0, iv s, p]) (s2.at hG) (by simp) (by simp) rfl rfl (one4 hB.out.one.2) ?_
    simp [lodA, acellsAt]
    exact ret_here (h _ c s p qs (sub_set (hs.trans s2) hφ) (hB.sub (dif_keep' hs fun χ h1 _ => AH.set_ne' (by rintro rfl; rw [hG] at h1; cases h1))) hO)
  by_cases hsz : 1 ≤ size ∧ size ≤ 64
  case neg =>
    have : (decide (1 ≤ size) && decide (size ≤ 64)) = false := by simpa using hsz
    simp only [this, bldS_0, og_some', onr_ret, gval_true, gval_false, pickV_true, pickV_false, apick_true, apick_false, gpick_true, gpick_false, ibin_leq, ibin_geq, ibin_lss, ibin_gtr, ibin_eql, ibin_neq, sbin_eql, sbin_neq, aun_not, Bool.not_true, Bool.not_false, decide_true, decide_false, if_true, if_false, Bool.false_eq_true, fldA_ptr, fldA_rop, anil_ptr, lenStr_str, amm_max, amm_min, Nat.zero_add, Nat.add_zero, List.length_cons, List.length_nil, Nat.reduceAdd]
    exact fin 3 0 nilS [] σ1 (.refl _) PB.nil (by unfold OpenR; rw [if_neg hsz]; exact ⟨rfl, rfl, rfl⟩)
  have : (decide (1 ≤ size) && decide (size ≤ 64)) = true := by simpa using hsz
  simp only [this, hS.len, og_some', onr_ret, gval_true, gval_false, pickV_true, pickV_false, apick_true, apick_false, gpick_true, gpick_false, ibin_leq, ibin_geq, ibin_lss, ibin_gtr, ibin_eql, ibin_neq, sbin_eql, sbin_neq, aun_not, Bool.not_true, Bool.not_false, decide_true, decide_false, if_true, if_false, Bool.false_eq_true, fldA_ptr, fldA_rop, anil_ptr, lenStr_str, amm_max, amm_min, Nat.zero_add, Nat.add_zero, List.length_cons, List.length_nil, Nat.reduceAdd]
  by_cases hc : (4000 : Int) < xs.length
  · simp only [hc, bldS_0, og_some', onr_ret, gval_true, gval_false, pickV_true, pickV_false, apick_true, apick_false, gpick_true, gpick_false, ibin_leq, ibin_geq, ibin_lss, ibin_gtr, ibin_eql, ibin_neq, sbin_eql, sbin_neq, aun_not, Bool.not_true, Bool.not_false, decide_true, decide_false, if_true, if_false, Bool.false_eq_true, fldA_ptr, fldA_rop, anil_ptr, lenStr_str, amm_max, amm_min, Nat.zero_add, Nat.add_zero, List.length_cons, List.length_nil, Nat.reduceAdd]
    exact fin 2 0 nilS [] σ1 (.refl _) PB.nil (by unfold OpenR; rw [if_pos hsz, if_neg (by omega)]; exact ⟨rfl, rfl, rfl⟩)
  simp only [hc, og_some', onr_ret, gval_true, gval_false, pickV_true, pickV_false, apick_true, apick_false, gpick_true, gpick_false, ibin_leq, ibin_geq, ibin_lss, ibin_gtr, ibin_eql, ibin_neq, sbin_eql, sbin_neq, aun_not, Bool.not_true, Bool.not_false, decide_true, decide_false, if_true, if_false, Bool.false_eq_true, fldA_ptr, fldA_rop, anil_ptr, lenStr_str, amm_max, amm_min, Nat.zero_add, Nat.add_zero, List.length_cons, List.length_nil, Nat.reduceAdd]
  refine c_impl_segsOf (hS.sub hs) hsz.1 hsz.2 (by omega) fun p σ2 qs k1 k2 k3 k4 => ?_
  simp only [bldS_2, og_some', onr_ret, gval_true, gval_false, pickV_true, pickV_false, apick_true, apick_false, gpick_true, gpick_false, ibin_leq, ibin_geq, ibin_lss, ibin_gtr, ibin_eql, ibin_neq, sbin_eql, sbin_neq, aun_not, Bool.not_true, Bool.not_false, decide_true, decide_false, if_true, if_false, Bool.false_eq_true, fldA_ptr, fldA_rop, anil_ptr, lenStr_str, amm_max, amm_min, Nat.zero_add, Nat.add_zero, List.length_cons, List.length_nil, Nat.reduceAdd]
  exact fin 0 size p qs σ2 k1 k2 (by unfold OpenR; rw [if_pos hsz, if_pos (by omega)]; exact ⟨rfl, rfl, k3, k4⟩)
theorem c_spec_OpenSegs_own {size : Int} {a : AV} {xs : List Int} (hS : Ns σ a xs) (hl : xs.length ≤ 1099511627776)
    (h : ∀ σ' c s p qs, AH.Sub σ σ' → PB (dif σ σ') p qs → OpenR size xs c s (qs.map Prod.snd) → R (.ret (.agg [iv c, iv 0, iv s, p])) σ') : acall TP fn_spec_OpenSegs [iv size, a] σ R := by
  refine s_spec_OpenSegs_ok ?_
  unfold s_spec_OpenSegs
  simp only [new_eq, og_some', onr_ret, gval_true, gval_false, pickV_true, pickV_false, apick_true, apick_false, gpick_true, gpick_false, ibin_leq, ibin_geq, ibin_lss, ibin_gtr, ibin_eql, ibin_neq, sbin_eql, sbin_neq, aun_not, Bool.not_true, Bool.not_false, decide_true, decide_false, if_true, if_false, Bool.false_eq_true, fldA_ptr, fldA_rop, anil_ptr, lenStr_str, amm_max, amm_min, Nat.zero_add, Nat.add_zero, List.length_cons, List.length_nil, Nat.reduceAdd]
  intro φ hφ
  have hs : AH.Sub σ (σ.set φ ⟨0, 4, [[iv 0, iv 0, iv 0, nilS]]⟩) := sub_set (.refl σ) hφ
  have hG : (σ.set φ ⟨0, 4, [[iv 0, iv 0, iv 0, nilS]]⟩) φ = some ⟨0, 4, [[iv 0, iv 0, iv 0, nilS]]⟩ := AH.set_same ..
  generalize hσ1 : σ.set φ ⟨0, 4, [[iv 0, iv 0, iv 0, nilS]]⟩ = σ1 at hs hG ⊢
  refine c_spec_l12Size ?_
  simp only [og_some', onr_ret, gval_true, gval_false, pickV_true, pickV_false, apick_true, apick_false, gpick_true, gpick_false, ibin_leq, ibin_geq, ibin_lss, ibin_gtr, ibin_eql, ibin_neq, sbin_eql, sbin_neq, aun_not, Bool.not_true, Bool.not_false, decide_true, decide_false, if_true, if_false, Bool.false_eq_true, fldA_ptr, fldA_rop, anil_ptr, lenStr_str, amm_max, amm_min, Nat.zero_add, Nat.add_zero, List.length_cons, List.length_nil, Nat.reduceAdd]
  have fin : ∀ (c s : Int) (p : AV) (qs : List (AV × List Int)) (σ2 : AH), AH.Sub σ1 σ2 → PB (dif σ1 σ2) p qs → OpenR size xs c s (qs.map Prod.snd) →
      sto 4 (.ptr φ 0 0 0) (.agg [iv c, iv 0, iv s, p]) σ2 fun σ => og (lodA 4 (.ptr φ 0 0 0) σ) fun r4 => aret r4 σ R := by
    intro c s p qs σ2 s2 hB hO
    refine sto_own (cs := [iv c, iv 0, iv s, p]) (s2.at hG) (by simp) (by simp) rfl rfl (one4 hB.out.one.2) ?_
    simp [lodA, acellsAt]
    exact ret_here (h _ c s p qs (sub_set (hs.trans s2) hφ) (hB.sub (dif_keep' hs fun χ h1 _ => AH.set_ne' (by rintro rfl; rw [hG] at h1; cases h1))) hO)
  by_cases hsz : 1 ≤ size ∧ size ≤ 64
  case neg =>
    have : (decide (1 ≤ size) && decide (size ≤ 64)) = false := by simpa using hsz
    simp only [this, bldS_0, og_some', onr_ret, gval_true, gval_false, pickV_true, pickV_false, apick_true, apick_false, gpick_true, gpick_false, ibin_leq, ibin_geq, ibin_lss, ibin_gtr, ibin_eql, ibin_neq, sbin_eql, sbin_neq, aun_not, Bool.not_true, Bool.not_false, decide_true, decide_false, if_true, if_false, Bool.false_eq_true, fldA_ptr, fldA_rop, anil_ptr, lenStr_str, amm_max, amm_min, Nat.zero_add, Nat.add_zero, List.length_cons, List.length_nil, Nat.reduceAdd]
    exact fin 3 0 nilS [] σ1 (.refl _) PB.nil (by unfold OpenR; rw [if_neg hsz]; exact ⟨rfl, rfl, rfl⟩)
  have : (decide (1 ≤ size) && decide (size ≤ 64)) = true := by simpa using hsz
  simp only [this, hS.len, og_some', onr_ret, gval_true, gval_false, pickV_true, pickV_false, apick_true, apick_false, gpick_true, gpick_false, ibin_leq, ibin_geq, ibin_lss, ibin_gtr, ibin_eql, ibin_neq, sbin_eql, sbin_neq, aun_not, Bool.not_true, Bool.not_false, decide_true, decide_false, if_true, if_false, Bool.false_eq_true, fldA_ptr, fldA_rop, anil_ptr, lenStr_str, amm_max, amm_min, Nat.zero_add, Nat.add_zero, List.length_cons, List.length_nil, Nat.reduceAdd]
  by_cases hc : (4000 : Int) < xs.length
  · simp only [hc, bldS_0, og_some', onr_ret, gval_true, gval_false, pickV_true, pickV_false, apick_true, apick_false, gpick_true, gpick_false, ibin_leq, ibin_geq, ibin_lss, ibin_gtr, ibin_eql, ibin_neq, sbin_eql, sbin_neq, aun_not, Bool.not_true, Bool.not_false, decide_true, decide_false, if_true, if_false, Bool.false_eq_true, fldA_ptr, fldA_rop, anil_ptr, lenStr_str, amm_max, amm_min, Nat.zero_add, Nat.add_zero, List.length_cons, List.length_nil, Nat.reduceAdd]
    exact fin 2 0 nilS [] σ1 (.refl _) PB.nil (by unfold OpenR; rw [if_pos hsz, if_neg (by omega)]; exact ⟨rfl, rfl, rfl⟩)
  simp only [hc, og_some', onr_ret, gval_true, gval_false, pickV_true, pickV_false, apick_true, apick_false, gpick_true, gpick_false, ibin_leq, ibin_geq, ibin_lss, ibin_gtr, ibin_eql, ibin_neq, sbin_eql, sbin_neq, aun_not, Bool.not_true, Bool.not_false, decide_true, decide_false, if_true, if_false, Bool.false_eq_true, fldA_ptr, fldA_rop, anil_ptr, lenStr_str, amm_max, amm_min, Nat.zero_add, Nat.add_zero, List.length_cons, List.length_nil, Nat.reduceAdd]
  refine c_spec_l12Open (hS.sub hs) hsz.1 (by omega) fun σ2 p qs k1 k2 k3 k4 => ?_
  simp only [bldS_2, og_some', onr_ret, gval_true, gval_false, pickV_true, pickV_false, apick_true, apick_false, gpick_true, gpick_false, ibin_leq, ibin_geq, ibin_lss, ibin_gtr, ibin_eql, ibin_neq, sbin_eql, sbin_neq, aun_not, Bool.not_true, Bool.not_false, decide_true, decide_false, if_true, if_false, Bool.false_eq_true, fldA_ptr, fldA_rop, anil_ptr, lenStr_str, amm_max, amm_min, Nat.zero_add, Nat.add_zero, List.length_cons, List.length_nil, Nat.reduceAdd]
  exact fin 0 size p qs σ2 k1 k2 (by unfold OpenR; rw [if_pos hsz, if_pos (by omega)]; exact ⟨rfl, rfl, k3, k4⟩)
theorem c_spec_OpenSegs {size : Int} {a : AV} {xs : List Int} (hS : Ns σ a xs) (hl : xs.length ≤ 1099511627776)
    (h : ∀ c s ps, OpenR size xs c s ps → R (.ret (.agg [iv c, iv 0, iv s, roP ps])) σ) : acall TP fn_spec_OpenSegs [iv size, a] σ R := by
  refine acall_imp (Q := fun e σ' => ∃ c s p ps, e = .ret (.agg [iv c, iv 0, iv s, p]) ∧ AH.Sub σ σ' ∧ Ps (dif σ σ') p ps ∧ OpenR size xs c s ps) (c_spec_OpenSegs_own hS hl fun σ' c s p qs h1 hB hO => ⟨c, s, p, _, rfl, h1, hB.ps, hO⟩) ?_
  rintro e σ' ⟨c, s, p, ps, rfl, h1, h2, h3⟩
  exact ⟨_, rfl, _, σ, imp_freeze h1 (.agg4 (.same _) (.same _) (.same _) h2.fz), h c s ps h3⟩

/-! ### answers looked at, marked, held -/
theorem c_laws_eqSegsResult {p q : AV} {c v n c' v' m : Int} {ss ts : List (List Int)} (hS : Ps σ p ss) (hT : Ps σ q ts) (hl : ss.length ≤ 1099511627776) (hm : ∀ p, p ∈ ss → p.length ≤ 1099511627776)
    (h : R (.ret (bv (decide (c = c') && (decide (v = v') && (decide (n = m) && decide (ss = ts)))))) σ) : acall TP fn_laws_eqSegsResult [.agg [iv c, iv v, iv n, p], .agg [iv c', iv v', iv m, q]] σ R := by
  refine s_laws_eqSegsResult_ok ?_
  unfold s_laws_eqSegsResult
  simp only [abox_agg, og_some', onr_ret, gval_true, gval_false, pickV_true, pickV_false, apick_true, apick_false, gpick_true, gpick_false, ibin_leq, ibin_geq, ibin_lss, ibin_gtr, ibin_eql, ibin_neq, sbin_eql, sbin_neq, aun_not, Bool.not_true, Bool.not_false, decide_true, decide_false, if_true, if_false, Bool.false_eq_true, fldA_ptr, fldA_rop, anil_ptr, lenStr_str, amm_max, amm_min, Nat.zero_add, Nat.add_zero, List.length_cons, List.length_nil, Nat.reduceAdd]
  intro φ hφ ψ hψ
  simp only [AH.set_none] at hψ
  obtain ⟨hne, hψ⟩ := hψ
  have hs : AH.Sub σ ((σ.set φ ⟨0, 4, [[iv c, iv v, iv n, p]]⟩).set ψ ⟨0, 4, [[iv c', iv v', iv m, q]]⟩) := sub_set (sub_set (.refl σ) hφ) hψ
  have g1 : ((σ.set φ ⟨0, 4, [[iv c, iv v, iv n, p]]⟩).set ψ ⟨0, 4, [[iv c', iv v', iv m, q]]⟩) φ = some ⟨0, 4, [[iv c, iv v, iv n, p]]⟩ := by rw [AH.set_ne' (Ne.symm hne), AH.set_same]
  have g2 : ((σ.set φ ⟨0, 4, [[iv c, iv v, iv n, p]]⟩).set ψ ⟨0, 4, [[iv c', iv v', iv m, q]]⟩) ψ = some ⟨0, 4, [[iv c', iv v', iv m, q]]⟩ := AH.set_same ..
  generalize (σ.set φ ⟨0, 4, [[iv c, iv v, iv n, p]]⟩).set ψ ⟨0, 4, [[iv c', iv v', iv m, q]]⟩ = σ1 at hs g1 g2 ⊢
  have a0 := lod_at (st := 0) (i := 0) (off := 0) (c := iv c) g1 rfl rfl
  have a1 := lod_at (st := 0) (i := 0) (off := 1) (c := iv v) g1 rfl rfl
  have b0 := lod_at (st := 0) (i := 0) (off := 0) (c := iv c') g2 rfl rfl
  have b1 := lod_at (st := 0) (i := 0) (off := 1) (c := iv v') g2 rfl rfl
  have a2 : lodA 2 (.ptr φ 0 0 2) σ1 = some (.agg [iv n, p]) := by simp [lodA, acellsAt, g1]
  have b2 : lodA 2 (.ptr ψ 0 0 2) σ1 = some (.agg [iv m, q]) := by simp [lodA, acellsAt, g2]
  simp only [a0, b0, og_some', onr_ret, gval_true, gval_false, pickV_true, pickV_false, apick_true, apick_false, gpick_true, gpick_false, ibin_leq, ibin_geq, ibin_lss, ibin_gtr, ibin_eql, ibin_neq, sbin_eql, sbin_neq, aun_not, Bool.not_true, Bool.not_false, decide_true, decide_false, if_true, if_false, Bool.false_eq_true, fldA_ptr, fldA_rop, anil_ptr, lenStr_str, amm_max, amm_min, Nat.zero_add, Nat.add_zero, List.length_cons, List.length_nil, Nat.reduceAdd]
  by_cases h1 : c = c'
  case neg => simp only [decide_eq_false h1, Bool.false_and, og_some', onr_ret, gval_true, gval_false, pickV_true, pickV_false, apick_true, apick_false, gpick_true, gpick_false, ibin_leq, ibin_geq, ibin_lss, ibin_gtr, ibin_eql, ibin_neq, sbin_eql, sbin_neq, aun_not, Bool.not_true, Bool.not_false, decide_true, decide_false, if_true, if_false, Bool.false_eq_true, fldA_ptr, fldA_rop, anil_ptr, lenStr_str, amm_max, amm_min, Nat.zero_add, Nat.add_zero, List.length_cons, List.length_nil, Nat.reduceAdd] at h ⊢; exact aret_sub hs h
  simp only [decide_eq_true h1, Bool.true_and, a1, b1, og_some', onr_ret, gval_true, gval_false, pickV_true, pickV_false, apick_true, apick_false, gpick_true, gpick_false, ibin_leq, ibin_geq, ibin_lss, ibin_gtr, ibin_eql, ibin_neq, sbin_eql, sbin_neq, aun_not, Bool.not_true, Bool.not_false, decide_true, decide_false, if_true, if_false, Bool.false_eq_true, fldA_ptr, fldA_rop, anil_ptr, lenStr_str, amm_max, amm_min, Nat.zero_add, Nat.add_zero, List.length_cons, List.length_nil, Nat.reduceAdd] at h ⊢
  by_cases h2 : v = v'
  case neg => simp only [decide_eq_false h2, Bool.false_and, og_some', onr_ret, gval_true, gval_false, pickV_true, pickV_false, apick_true, apick_false, gpick_true, gpick_false, ibin_leq, ibin_geq, ibin_lss, ibin_gtr, ibin_eql, ibin_neq, sbin_eql, sbin_neq, aun_not, Bool.not_true, Bool.not_false, decide_true, decide_false, if_true, if_false, Bool.false_eq_true, fldA_ptr, fldA_rop, anil_ptr, lenStr_str, amm_max, amm_min, Nat.zero_add, Nat.add_zero, List.length_cons, List.length_nil, Nat.reduceAdd] at h ⊢; exact aret_sub hs h
  simp only [decide_eq_true h2, Bool.true_and, a2, b2, og_some', onr_ret, gval_true, gval_false, pickV_true, pickV_false, apick_true, apick_false, gpick_true, gpick_false, ibin_leq, ibin_geq, ibin_lss, ibin_gtr, ibin_eql, ibin_neq, sbin_eql, sbin_neq, aun_not, Bool.not_true, Bool.not_false, decide_true, decide_false, if_true, if_false, Bool.false_eq_true, fldA_ptr, fldA_rop, anil_ptr, lenStr_str, amm_max, amm_min, Nat.zero_add, Nat.add_zero, List.length_cons, List.length_nil, Nat.reduceAdd] at h ⊢
  refine c_laws_eqSegs (hS.sub hs) (hT.sub hs) hl hm ?_
  simp only [og_some', onr_ret, gval_true, gval_false, pickV_true, pickV_false, apick_true, apick_false, gpick_true, gpick_false, ibin_leq, ibin_geq, ibin_lss, ibin_gtr, ibin_eql, ibin_neq, sbin_eql, sbin_neq, aun_not, Bool.not_true, Bool.not_false, decide_true, decide_false, if_true, if_false, Bool.false_eq_true, fldA_ptr, fldA_rop, anil_ptr, lenStr_str, amm_max, amm_min, Nat.zero_add, Nat.add_zero, List.length_cons, List.length_nil, Nat.reduceAdd]
  generalize (decide (n = m) && decide (ss = ts)) = b at h ⊢
  cases b
  · simp only [og_some', onr_ret, gval_true, gval_false, pickV_true, pickV_false, apick_true, apick_false, gpick_true, gpick_false, ibin_leq, ibin_geq, ibin_lss, ibin_gtr, ibin_eql, ibin_neq, sbin_eql, sbin_neq, aun_not, Bool.not_true, Bool.not_false, decide_true, decide_false, if_true, if_false, Bool.false_eq_true, fldA_ptr, fldA_rop, anil_ptr, lenStr_str, amm_max, amm_min, Nat.zero_add, Nat.add_zero, List.length_cons, List.length_nil, Nat.reduceAdd]; exact aret_sub hs h
  · simp only [og_some', onr_ret, gval_true, gval_false, pickV_true, pickV_false, apick_true, apick_false, gpick_true, gpick_false, ibin_leq, ibin_geq, ibin_lss, ibin_gtr, ibin_eql, ibin_neq, sbin_eql, sbin_neq, aun_not, Bool.not_true, Bool.not_false, decide_true, decide_false, if_true, if_false, Bool.false_eq_true, fldA_ptr, fldA_rop, anil_ptr, lenStr_str, amm_max, amm_min, Nat.zero_add, Nat.add_zero, List.length_cons, List.length_nil, Nat.reduceAdd]; exact aret_sub hs h
theorem c_laws_markSegsResult {a : AV} {c v size : Int} {qs : List (AV × List Int)} {k : Int} (hB : PB σ a qs) (h0 : 0 ≤ k) (hl : qs.length ≤ 1099511627776) (hb : k + tot (qs.map Prod.snd) ≤ 1099511627776)
    (h : ∀ σ', PB σ' a (marks k qs) → (∀ ψ, ¬ Foot a qs ψ → σ ψ ≠ none → σ' ψ = σ ψ) → R (.ret (iv (k + tot (qs.map Prod.snd)))) σ') : acall TP fn_laws_markSegsResult [.agg [iv c, iv v, iv size, a], iv k] σ R := by
  refine s_laws_markSegsResult_ok ?_
  unfold s_laws_markSegsResult
  simp only [abox_agg, og_some', onr_ret, gval_true, gval_false, pickV_true, pickV_false, apick_true, apick_false, gpick_true, gpick_false, ibin_leq, ibin_geq, ibin_lss, ibin_gtr, ibin_eql, ibin_neq, sbin_eql, sbin_neq, aun_not, Bool.not_true, Bool.not_false, decide_true, decide_false, if_true, if_false, Bool.false_eq_true, fldA_ptr, fldA_rop, anil_ptr, lenStr_str, amm_max, amm_min, Nat.zero_add, Nat.add_zero, List.length_cons, List.length_nil, Nat.reduceAdd]
  intro φ hφ
  have hs : AH.Sub σ (σ.set φ ⟨0, 4, [[iv c, iv v, iv size, a]]⟩) := sub_set (.refl σ) hφ
  have e : lodA 2 (.ptr φ 0 0 2) (σ.set φ ⟨0, 4, [[iv c, iv v, iv size, a]]⟩) = some (.agg [iv size, a]) := by simp [lodA, acellsAt]
  simp only [e, og_some', onr_ret, gval_true, gval_false, pickV_true, pickV_false, apick_true, apick_false, gpick_true, gpick_false, ibin_leq, ibin_geq, ibin_lss, ibin_gtr, ibin_eql, ibin_neq, sbin_eql, sbin_neq, aun_not, Bool.not_true, Bool.not_false, decide_true, decide_false, if_true, if_false, Bool.false_eq_true, fldA_ptr, fldA_rop, anil_ptr, lenStr_str, amm_max, amm_min, Nat.zero_add, Nat.add_zero, List.length_cons, List.length_nil, Nat.reduceAdd]
  refine c_laws_markSegs (hB.sub hs) h0 hl hb fun σ' k1 k2 => ?_
  simp only [og_some', onr_ret, gval_true, gval_false, pickV_true, pickV_false, apick_true, apick_false, gpick_true, gpick_false, ibin_leq, ibin_geq, ibin_lss, ibin_gtr, ibin_eql, ibin_neq, sbin_eql, sbin_neq, aun_not, Bool.not_true, Bool.not_false, decide_true, decide_false, if_true, if_false, Bool.false_eq_true, fldA_ptr, fldA_rop, anil_ptr, lenStr_str, amm_max, amm_min, Nat.zero_add, Nat.add_zero, List.length_cons, List.length_nil, Nat.reduceAdd]
  refine ret_here (h σ' k1 fun ψ h1 h2 => ?_)
  have hne : ψ ≠ φ := by rintro rfl; exact h2 hφ
  rw [k2 ψ (fun q hq hf => h1 (.inr ⟨q, hq, hf⟩)) (by rw [AH.set_ne' hne]; exact h2), AH.set_ne' hne]
/-- The lists that marking from k on leaves. -/
def mkl : Int → List Nat → List (List Int)
  | _, [] => []
  | k, n :: ns => mk k n :: mkl (k + n) ns
theorem marks_mkl : ∀ (qs : List (AV × List Int)) (k : Int), (marks k qs).map Prod.snd = mkl k (qs.map fun q => q.2.length) := by
  intro qs
  induction qs with
  | nil => intro k; rfl
  | cons q qs ih => intro k; simp only [marks, List.map_cons, mkl, ih]
theorem mkl_length : ∀ (ns : List Nat) (k : Int), (mkl k ns).length = ns.length := by
  intro ns
  induction ns with
  | nil => intro k; rfl
  | cons n ns ih => intro k; simp [mkl, ih]
def sum : List Nat → Nat
  | [] => 0
  | n :: ns => n + sum ns
theorem mkl_get : ∀ (ns : List Nat) (k : Int) (i : Nat) (h : i < (mkl k ns).length) (h' : i < ns.length), (mkl k ns)[i] = mk (k + sum (ns.take i)) ns[i] := by
  intro ns
  induction ns with
  | nil => intro k i h h'; cases h'
  | cons n ns ih =>
    intro k i h h'
    cases i with
    | zero => simp [mkl, sum]
    | succ i =>
      have := ih (k + n) i (by simpa [mkl] using h) (by simpa using h')
      simp only [mkl, List.getElem_cons_succ, this, List.take_succ_cons, sum]
      congr 1; omega
theorem sum_take (ns : List Nat) {i : Nat} (h : i < ns.length) : sum (ns.take (i + 1)) = sum (ns.take i) + ns[i] := by
  induction ns generalizing i with
  | nil => cases h
  | cons n ns ih =>
    cases i with
    | zero => simp [sum]
    | succ i =>
      have := ih (i := i) (by simpa using h)
      simp only [List.take_succ_cons, sum, this, List.getElem_cons_succ]; omega
theorem sum_take_le (ns : List Nat) (i : Nat) : sum (ns.take i) ≤ sum ns := by
  induction ns generalizing i with
  | nil => simp
  | cons n ns ih =>
    cases i with
    | zero => simp [sum]
    | succ i => have := ih i; simp only [List.take_succ_cons, sum]; omega
theorem sum_tot (qs : List (AV × List Int)) : sum (qs.map fun q => q.2.length) = tot (qs.map Prod.snd) := by
  induction qs with
  | nil => rfl
  | cons q qs ih => simp [sum, tot, ih]
theorem c_laws_heldSegPartS {a : AV} {ns : List Nat} {k : Int} (hS : Ps σ a (mkl k ns)) (h0 : 0 ≤ k) (hb : k + ns.length + sum ns ≤ 1099511627776)
    (h : R (.ret (iv (k + sum ns))) σ) : acall TP fn_laws_heldSegPartS [a, iv k] σ R := by
  refine s_laws_heldSegPartS_ok ?_
  unfold s_laws_heldSegPartS
  refine lp_read ns.length (fun i => (a, iv (k + sum (ns.take i)), iv i, ())) (by simp [iv, sum]; rfl) ?_
  intro i hi R' hR'
  have hl := hS.len
  rw [mkl_length] at hl
  simp only [hl, og_some', onr_ret, gval_true, gval_false, pickV_true, pickV_false, apick_true, apick_false, gpick_true, gpick_false, ibin_leq, ibin_geq, ibin_lss, ibin_gtr, ibin_eql, ibin_neq, sbin_eql, sbin_neq, aun_not, Bool.not_true, Bool.not_false, decide_true, decide_false, if_true, if_false, Bool.false_eq_true, fldA_ptr, fldA_rop, anil_ptr, lenStr_str, amm_max, amm_min, Nat.zero_add, Nat.add_zero, List.length_cons, List.length_nil, Nat.reduceAdd]
  by_cases hlt : i < ns.length
  · have g0 : (i : Int) < ns.length := by omega
    have hlt' : i < (mkl k ns).length := by rw [mkl_length]; exact hlt
    obtain ⟨p, q, p', hp, hq, hf, hl', hN⟩ := hS.at hlt'
    rw [mkl_get ns k i hlt' hlt] at hN
    have hT := sum_take ns hlt
    have hT2 := sum_take_le ns (i + 1)
    simp only [g0, hp, hf, hl', og_some', onr_ret, gval_true, gval_false, pickV_true, pickV_false, apick_true, apick_false, gpick_true, gpick_false, ibin_leq, ibin_geq, ibin_lss, ibin_gtr, ibin_eql, ibin_neq, sbin_eql, sbin_neq, aun_not, Bool.not_true, Bool.not_false, decide_true, decide_false, if_true, if_false, Bool.false_eq_true, fldA_ptr, fldA_rop, anil_ptr, lenStr_str, amm_max, amm_min, Nat.zero_add, Nat.add_zero, List.length_cons, List.length_nil, Nat.reduceAdd]
    refine c_laws_heldInt64S hN (by omega) (by omega) ?_
    have g1 : ¬ k + (sum (ns.take i) : Int) + (ns[i] : Nat) < 0 := by omega
    simp only [g1, ibin_up hlt (by omega), og_some', onr_ret, gval_true, gval_false, pickV_true, pickV_false, apick_true, apick_false, gpick_true, gpick_false, ibin_leq, ibin_geq, ibin_lss, ibin_gtr, ibin_eql, ibin_neq, sbin_eql, sbin_neq, aun_not, Bool.not_true, Bool.not_false, decide_true, decide_false, if_true, if_false, Bool.false_eq_true, fldA_ptr, fldA_rop, anil_ptr, lenStr_str, amm_max, amm_min, Nat.zero_add, Nat.add_zero, List.length_cons, List.length_nil, Nat.reduceAdd]
    have e : k + (sum (ns.take i) : Int) + (ns[i] : Nat) = k + (sum (ns.take (i + 1)) : Nat) := by omega
    rw [e]
    exact hR' hlt _ (.refl _)
  · have g0 : ¬ (i : Int) < ns.length := by omega
    obtain rfl : i = ns.length := by omega
    simp only [g0, List.take_length, og_some', onr_ret, gval_true, gval_false, pickV_true, pickV_false, apick_true, apick_false, gpick_true, gpick_false, ibin_leq, ibin_geq, ibin_lss, ibin_gtr, ibin_eql, ibin_neq, sbin_eql, sbin_neq, aun_not, Bool.not_true, Bool.not_false, decide_true, decide_false, if_true, if_false, Bool.false_eq_true, fldA_ptr, fldA_rop, anil_ptr, lenStr_str, amm_max, amm_min, Nat.zero_add, Nat.add_zero, List.length_cons, List.length_nil, Nat.reduceAdd]
    exact ret_here h
theorem c_laws_heldSegs {a : AV} {size : Int} {ns : List Nat} {k : Int} (hS : Ps σ a (mkl k ns)) (h0 : 0 ≤ k) (hb : k + ns.length + sum ns ≤ 1099511627776)
    (h : R (.ret (iv (k + sum ns))) σ) : acall TP fn_laws_heldSegs [.agg [iv size, a], iv k] σ R := by
  refine s_laws_heldSegs_ok ?_
  unfold s_laws_heldSegs
  simp only [abox_agg, og_some', onr_ret, gval_true, gval_false, pickV_true, pickV_false, apick_true, apick_false, gpick_true, gpick_false, ibin_leq, ibin_geq, ibin_lss, ibin_gtr, ibin_eql, ibin_neq, sbin_eql, sbin_neq, aun_not, Bool.not_true, Bool.not_false, decide_true, decide_false, if_true, if_false, Bool.false_eq_true, fldA_ptr, fldA_rop, anil_ptr, lenStr_str, amm_max, amm_min, Nat.zero_add, Nat.add_zero, List.length_cons, List.length_nil, Nat.reduceAdd]
  intro φ hφ
  have hs : AH.Sub σ (σ.set φ ⟨0, 2, [[iv size, a]]⟩) := sub_set (.refl σ) hφ
  have e := lod_at (σ := σ.set φ ⟨0, 2, [[iv size, a]]⟩) (φ := φ) (st := 0) (i := 0) (off := 1) (c := a) (AH.set_same ..) rfl rfl
  simp only [e, og_some', onr_ret, gval_true, gval_false, pickV_true, pickV_false, apick_true, apick_false, gpick_true, gpick_false, ibin_leq, ibin_geq, ibin_lss, ibin_gtr, ibin_eql, ibin_neq, sbin_eql, sbin_neq, aun_not, Bool.not_true, Bool.not_false, decide_true, decide_false, if_true, if_false, Bool.false_eq_true, fldA_ptr, fldA_rop, anil_ptr, lenStr_str, amm_max, amm_min, Nat.zero_add, Nat.add_zero, List.length_cons, List.length_nil, Nat.reduceAdd]
  refine c_laws_heldSegPartS (hS.sub hs) h0 hb ?_
  have g : ¬ k + (sum ns : Int) < 0 := by omega
  simp only [g, og_some', onr_ret, gval_true, gval_false, pickV_true, pickV_false, apick_true, apick_false, gpick_true, gpick_false, ibin_leq, ibin_geq, ibin_lss, ibin_gtr, ibin_eql, ibin_neq, sbin_eql, sbin_neq, aun_not, Bool.not_true, Bool.not_false, decide_true, decide_false, if_true, if_false, Bool.false_eq_true, fldA_ptr, fldA_rop, anil_ptr, lenStr_str, amm_max, amm_min, Nat.zero_add, Nat.add_zero, List.length_cons, List.length_nil, Nat.reduceAdd]
  exact aret_sub hs h
theorem c_laws_heldSegsResult {a : AV} {c v size : Int} {ns : List Nat} {k : Int} (hS : Ps σ a (mkl k ns)) (h0 : 0 ≤ k) (hb : k + ns.length + sum ns ≤ 1099511627776)
    (h : R (.ret (iv (k + sum ns))) σ) : acall TP fn_laws_heldSegsResult [.agg [iv c, iv v, iv size, a], iv k] σ R := by
  refine s_laws_heldSegsResult_ok ?_
  unfold s_laws_heldSegsResult
  simp only [abox_agg, og_some', onr_ret, gval_true, gval_false, pickV_true, pickV_false, apick_true, apick_false, gpick_true, gpick_false, ibin_leq, ibin_geq, ibin_lss, ibin_gtr, ibin_eql, ibin_neq, sbin_eql, sbin_neq, aun_not, Bool.not_true, Bool.not_false, decide_true, decide_false, if_true, if_false, Bool.false_eq_true, fldA_ptr, fldA_rop, anil_ptr, lenStr_str, amm_max, amm_min, Nat.zero_add, Nat.add_zero, List.length_cons, List.length_nil, Nat.reduceAdd]
  intro φ hφ
  have hs : AH.Sub σ (σ.set φ ⟨0, 4, [[iv c, iv v, iv size, a]]⟩) := sub_set (.refl σ) hφ
  have e : lodA 2 (.ptr φ 0 0 2) (σ.set φ ⟨0, 4, [[iv c, iv v, iv size, a]]⟩) = some (.agg [iv size, a]) := by simp [lodA, acellsAt]
  simp only [e, og_some', onr_ret, gval_true, gval_false, pickV_true, pickV_false, apick_true, apick_false, gpick_true, gpick_false, ibin_leq, ibin_geq, ibin_lss, ibin_gtr, ibin_eql, ibin_neq, sbin_eql, sbin_neq, aun_not, Bool.not_true, Bool.not_false, decide_true, decide_false, if_true, if_false, Bool.false_eq_true, fldA_ptr, fldA_rop, anil_ptr, lenStr_str, amm_max, amm_min, Nat.zero_add, Nat.add_zero, List.length_cons, List.length_nil, Nat.reduceAdd]
  refine c_laws_heldSegs (hS.sub hs) h0 hb ?_
  have g : ¬ k + (sum ns : Int) < 0 := by omega
  simp only [g, og_some', onr_ret, gval_true, gval_false, pickV_true, pickV_false, apick_true, apick_false, gpick_true, gpick_false, ibin_leq, ibin_geq, ibin_lss, ibin_gtr, ibin_eql, ibin_neq, sbin_eql, sbin_neq, aun_not, Bool.not_true, Bool.not_false, decide_true, decide_false, if_true, if_false, Bool.false_eq_true, fldA_ptr, fldA_rop, anil_ptr, lenStr_str, amm_max, amm_min, Nat.zero_add, Nat.add_zero, List.length_cons, List.length_nil, Nat.reduceAdd]
  exact aret_sub hs h
end Go.Proofs.Ytoccfncmphipbaa.E
/- The law on OpenSegs. -/
set_option linter.unusedSectionVars false
set_option linter.unusedSimpArgs false
set_option linter.unusedVariables false
namespace Go.Proofs.Ytoccfncmphipbaa.E
open Go Go.RowKit
variable [L : Lam]
variable {σ : AH} {R : AEnd → AH → Prop}
theorem PB.new {σ0 σ1 : AH} {a : AV} {qs : List (AV × List Int)} (h : PB (E.dif σ0 σ1) a qs) {ψ : Nat} (hf : Foot a qs ψ) : σ0 ψ = none ∧ σ1 ψ ≠ none := by
  obtain ⟨F, hF, _⟩ := h.foot hf
  obtain ⟨h1, h2⟩ := dif_some hF
  exact ⟨h1, by rw [h2]; simp⟩
theorem put_new4 {σ : AH} {ψ : Nat} {a b c : Int} {v : AV} {zs : List AV} {k : AH → Prop} (hψ : σ ψ = none) (hz : zs.length = 4) (hv : v.one = true)
    (h : ∀ σ', AH.Sub σ σ' → σ' ψ = some ⟨0, 4, [[iv a, iv b, iv c, v]]⟩ → (∀ χ, χ ≠ ψ → σ' χ = σ χ) → k σ') : sto 4 (.ptr ψ 0 0 0) (.agg [iv a, iv b, iv c, v]) (σ.set ψ ⟨0, 4, [zs]⟩) k :=
  put_new hψ hz rfl (one4 hv) h
/-- An own copy of a list. -/
theorem copy_buf {σ : AH} {φ : Nat} {xs : List Int} : Buf (σ.set φ ⟨0, 1, xs.map fun x => [iv x]⟩) 1 (.own φ 0 0 xs.length) (xs.map fun x => [iv x]) := .inr ⟨φ, 0, by simp, AH.set_same ..⟩
end Go.Proofs.Ytoccfncmphipbaa.E
