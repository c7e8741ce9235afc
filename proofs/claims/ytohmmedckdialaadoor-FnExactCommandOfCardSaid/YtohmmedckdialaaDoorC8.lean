/- CommandOf: the program, the law. -/
import Derived.Test.YtohmmedckdialaaDoorC7
set_option linter.unusedSectionVars false
set_option linter.unusedSimpArgs false
set_option linter.unusedVariables false
namespace Go.Proofs.YtohmmedckdialaaDoor.E
open Go Go.RowKit
set_option maxRecDepth 100000
theorem pre_cmd (l : List UInt8) : Lib.hasPrefix l [58] = isCmd l := by
  cases l with
  | nil => rfl
  | cons c r =>
    show ((58 : UInt8) == c && true) = decide (((c.toNat : Nat) : Int) = 58)
    rw [Bool.and_true]
    by_cases h : c = 58
    · subst h; rfl
    · have h1 : c.toNat ≠ 58 := fun e => h (UInt8.toNat_inj.1 e)
      rw [beq_eq_false_iff_ne.2 (Ne.symm h), decide_eq_false (by omega)]
theorem tw_no (l : List UInt8) : (32 : UInt8) ∉ l.takeWhile noSp := by
  intro h
  obtain ⟨i, hi, e⟩ := List.getElem_of_mem h
  obtain ⟨h1, h2⟩ := tw_lt hi
  have e2 : l[i] = (l.takeWhile noSp)[i] := by
    have e3 := tw_take noSp l
    have : (l.takeWhile noSp)[i]? = (l.take (l.takeWhile noSp).length)[i]? := by rw [e3]
    rw [List.getElem?_eq_getElem hi, List.getElem?_take, if_pos hi, List.getElem?_eq_getElem h1] at this
    exact (Option.some.inj this).symm
  rw [e2, e] at h2
  exact absurd h2 (by decide)
theorem cut_sp (l : List UInt8) : (Lib.cut l [32]).1 = l.takeWhile noSp ∧ Lib.trimLeftB (Lib.cut l [32]).2.1 32 = restB l := by
  have e := List.takeWhile_append_dropWhile (p := noSp) (l := l)
  have hn := tw_no l
  unfold restB
  cases hd : l.dropWhile noSp with
  | nil =>
    rw [hd, List.append_nil] at e
    rw [e] at hn ⊢
    unfold Lib.cut
    rw [@index_no lam0 _ _ hn]
    exact ⟨rfl, rfl⟩
  | cons c r =>
    have hc : c = 32 := by
      have := tw_drop noSp l
      by_cases hlt : (l.takeWhile noSp).length < l.length
      · have h1 := tw_end hlt
        rw [hd, List.drop_eq_getElem_cons hlt] at this
        rw [(List.cons.inj this).1] at h1
        unfold noSp at h1
        simpa using h1
      · rw [List.drop_eq_nil_of_le (by omega), hd] at this
        cases this
    subst hc
    rw [hd] at e
    have hi := @index_at lam0 _ _ r hn
    rw [e] at hi
    have e1 : l.drop ((l.takeWhile noSp).length + 1) = r := by
      rw [← List.drop_drop, tw_drop, hd]; rfl
    unfold Lib.cut
    rw [if_pos (by rw [hi]; omega), hi]
    refine ⟨?_, ?_⟩
    · show l.take _ = _
      rw [Int.toNat_natCast, tw_take]
    · show Lib.trimLeftB (l.drop _) 32 = _
      rw [Int.toNat_natCast, show ([32] : List UInt8).length = 1 from rfl, e1]
      unfold Lib.trimLeftB
      rw [List.dropWhile_cons, if_pos (by decide)]
      rfl
theorem rest_le (l : List UInt8) : (restB l).length ≤ l.length := by
  unfold restB
  rw [← tw_drop isSp, ← tw_drop noSp, List.length_drop, List.length_drop]
  omega
variable [L : Lam] [K : Knows QS]
variable {σ : AH} {R : AEnd → AH → Prop}
theorem c_impl_CommandOf {l : List UInt8} (hl : l.length ≤ 1048576) (h : R (.ret (.agg (encC (cmdR l)))) σ) : acall TP fn_impl_CommandOf [str (bs l)] σ R := by
  refine s_impl_CommandOf_ok ?_
  unfold s_impl_CommandOf
  intro φ hφ
  have fin : ∀ x, R (.ret (.agg (encC x))) σ → sto 4 (.ptr φ 0 0 0) (.agg (encC x)) (σ.set φ ⟨0, 4, [[iv 0, iv 0, iv 0, str ⟨#[]⟩]]⟩) fun σ => og (lodA 4 (.ptr φ 0 0 0) σ) fun r2 => aret r2 σ R :=
    fun x hx => fin_cell hφ rfl rfl (one_encC x) hx
  have ax : ∀ a b c : AV, aext (.tup [a, b, c]) 0 = some a ∧ aext (.tup [a, b, c]) 1 = some b ∧ aext (.tup [a, b, c]) 2 = some c := fun _ _ _ => ⟨rfl, rfl, rfl⟩
  unfold cmdR at h
  refine c_strings_HasPrefix (p := [58]) ?_
  rw [pre_cmd]
  cases c1 : isCmd l with
  | false =>
    rw [c1] at h
    simp only [RR, bld_cmd]
    exact fin _ h
  | true =>
    rw [c1, if_pos rfl] at h
    simp only [RR]
    refine c_strings_Cut (p := [32]) hl ?_
    obtain ⟨k1, k2⟩ := cut_sp l
    rw [k1]
    simp only [ax, RR]
    refine c_strings_TrimLeft (c := 32) (by decide) ?_
    rw [k2]
    simp only [RR]
    have hrl : (bs (restB l)).size ≤ 1048576 := by rw [size_bs]; have := rest_le l; omega
    generalize bs (l.takeWhile noSp) = w at h ⊢
    refine jn_by (P := fun x τ => τ = σ.set φ ⟨0, 4, [[iv 0, iv 0, iv 0, str ⟨#[]⟩]]⟩ ∧ x = (AV.ptr φ 0 0 0, str (bs (restB l)), iv (loK (kindB w)), iv (hiK (kindB w)), iv (kindB w : Int), ()) ∧ kindB w < 7) ?_ ?_
    · rintro x τ ⟨rfl, rfl, hk⟩
      unfold cmdK at h
      refine c_impl_ParseNum hrl ?_
      rw [numP_bs]
      have nf : ∀ a b : Int, (∀ τ, lod (.rop [iv a, iv b] 0) τ = some (iv a)) ∧ (∀ τ, lod (.rop [iv a, iv b] 1) τ = some (iv b)) := fun _ _ => ⟨fun _ => rfl, fun _ => rfl⟩
      simp only [RR]
      refine new_frz (xs := [iv _, iv _]) rfl rfl rfl (one2 rfl rfl) ?_
      by_cases c2 : (kindB w : Int) = 0
      · rw [if_pos (show kindB w = 0 by omega)] at h
        simp only [c2, nf, RR, bld_cmd]
        exact fin _ h
      rw [if_neg (show ¬ kindB w = 0 by omega), if_neg (show ¬ 7 ≤ kindB w by omega)] at h
      cases c3 : isNum (restB l) with
      | false =>
        rw [c3] at h
        simp only [c2, nf, RR, bld_cmd, if_neg Bool.false_ne_true]
        exact fin _ h
      | true =>
        rw [c3, if_pos rfl] at h
        simp only [c2, nf, RR, if_true]
        refine c_impl_in ?_
        cases c8 : inB (loK (kindB w)) (hiK (kindB w)) (parV (restB l)) with
        | false =>
          rw [c8] at h
          simp only [RR, nf, bld_cmd]
          exact fin _ h
        | true =>
          rw [c8] at h
          simp only [RR, nf, bld_cmd]
          exact fin _ h
    · intro k hk
      unfold cmdK at h
      by_cases d6 : w = cCore
      · have e : kindB w = 7 := by rw [d6]; decide
        rw [e] at h
        simp only [sbin_eql', d6, decide_true, RR, bld_cmd]
        exact fin _ h
      by_cases d7 : w = cCode
      · have e : kindB w = 8 := by rw [d7]; decide
        rw [e] at h
        have : (decide (cCode = cCore)) = false := by decide
        simp only [sbin_eql', d7, this, decide_true, RR, bld_cmd]
        exact fin _ h
      have o : ∀ k', kindB w = k' → k' < 7 → k (AV.ptr φ 0 0 0, str (bs (restB l)), iv (loK k'), iv (hiK k'), iv (k' : Int), ()) (σ.set φ ⟨0, 4, [[iv 0, iv 0, iv 0, str ⟨#[]⟩]]⟩) := by
        rintro k' rfl hlt
        exact hk _ _ ⟨rfl, rfl, hlt⟩
      simp only [sbin_eql', decide_eq_false d6, decide_eq_false d7, RR]
      by_cases d1 : w = cSeg
      · simp only [d1, decide_true, RR]
        exact o 2 (by rw [d1]; decide) (by omega)
      by_cases d2 : w = cTab
      · simp only [decide_eq_false d1, decide_eq_true d2, RR]
        exact o 3 (by rw [d2]; decide) (by omega)
      by_cases d3 : w = cPeep
      · simp only [decide_eq_false d1, decide_eq_false d2, decide_eq_true d3, RR]
        exact o 4 (by rw [d3]; decide) (by omega)
      by_cases d4 : w = cCache
      · simp only [decide_eq_false d1, decide_eq_false d2, decide_eq_false d3, decide_eq_true d4, RR]
        exact o 5 (by rw [d4]; decide) (by omega)
      by_cases d5 : w = cFuel
      · simp only [decide_eq_false d1, decide_eq_false d2, decide_eq_false d3, decide_eq_false d4, decide_eq_true d5, RR]
        exact o 6 (by rw [d5]; decide) (by omega)
      simp only [decide_eq_false d1, decide_eq_false d2, decide_eq_false d3, decide_eq_false d4, decide_eq_false d5, RR]
      exact o 0 (by unfold kindB; rw [if_neg d1, if_neg d2, if_neg d3, if_neg d4, if_neg d5, if_neg d6, if_neg d7]) (by omega)
theorem c_laws_eqCommandResult {x : Int × Int × Int × ByteArray} (h : R (.ret (bv true)) σ) : acall TP fn_laws_eqCommandResult [.agg (encC x), .agg (encC x)] σ R := by
  refine s_laws_eqCommandResult_ok ?_
  unfold s_laws_eqCommandResult
  refine box2_frz rfl rfl ?_
  have e0 : ∀ τ, lod (.rop (encC x) 0) τ = some (iv x.1) := fun _ => rfl
  have e1 : ∀ τ, lod (.rop (encC x) 1) τ = some (iv x.2.1) := fun _ => rfl
  have e2 : ∀ τ, lod (.rop (encC x) 2) τ = some (iv x.2.2.1) := fun _ => rfl
  have e3 : ∀ τ, lod (.rop (encC x) 3) τ = some (str x.2.2.2) := fun _ => rfl
  simp only [RR, e0, e1, e2, e3, dec_self, sbin_neq']
  exact ret_here h
theorem c_laws_FnExactCommandOf {x : ByteArray} (h : R (.ret (bv true)) σ) : acall TP fn_laws_FnExactCommandOf [str x] σ R := by
  obtain ⟨l, rfl⟩ : ∃ l, x = bs l := ⟨by8 x, (bs_by8 x).symm⟩
  refine s_laws_FnExactCommandOf_ok ?_
  unfold s_laws_FnExactCommandOf
  by_cases c : (1048576 : Int) < (l.length : Int)
  · simp only [size_bs, RR, c]
    exact ret_here h
  · have hl : l.length ≤ 1048576 := by omega
    simp only [size_bs, RR, c]
    refine c_spec_CommandOf hl ?_
    simp only [RR]
    refine new_frz (xs := encC (cmdR l)) rfl rfl rfl (one_encC _) ?_
    refine c_impl_CommandOf hl ?_
    simp only [RR]
    refine new_frz (xs := encC (cmdR l)) rfl rfl rfl (one_encC _) ?_
    simp only [lodA_all (cs := encC (cmdR l)) (n := 4) rfl, RR]
    refine c_laws_eqCommandResult ?_
    simp only [RR]
    exact ret_here h
end Go.Proofs.YtohmmedckdialaaDoor.E
