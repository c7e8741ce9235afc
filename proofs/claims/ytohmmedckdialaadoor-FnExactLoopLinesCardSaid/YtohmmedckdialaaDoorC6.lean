/- The reference reads and writes numbers. -/
import Derived.Test.YtohmmedckdialaaDoorC5
set_option linter.unusedSectionVars false
set_option linter.unusedSimpArgs false
set_option linter.unusedVariables false
namespace Go.Proofs.YtohmmedckdialaaDoor.E
open Go Go.RowKit
variable [L : Lam]
variable {σ τ : AH} {R : AEnd → AH → Prop}
theorem dig_dec {n : Nat} (h : n < 10) : dig n = bs (Lib.decDigits n) := by
  unfold dig
  rw [if_pos h, Lib.decDigits_one h]
theorem c_spec_l1Digits_nat : ∀ (n : Nat), n ≤ 10000000000 → ∀ {σ : AH} {R : AEnd → AH → Prop}, R (.ret (str (bs (Lib.decDigits n)))) σ → acall TP fn_spec_l1Digits [iv (n : Int)] σ R := by
  intro n
  induction n using Nat.strongRecOn with
  | _ n ih =>
    intro hn σ R h
    by_cases c : n < 10
    · refine c_l1Digits_one c ?_
      rw [dig_dec c]
      exact h
    refine s_spec_l1Digits_ok ?_
    unfold s_spec_l1Digits
    have g1 : ¬ (n : Int) < 0 := by omega
    have g2 : ¬ (n : Int) < 10 := by omega
    have e0 : ibin .quo (iv (n : Int)) (.val (.int .i64 10)) = some (iv ((n / 10 : Nat) : Int)) := by
      show some (iv (IntKind.i64.wrap ((n : Int).tdiv 10))) = _
      rw [Int.tdiv_eq_ediv_of_nonneg (by omega), i64_wrap (by omega) (by omega)]
      rfl
    have e1 : ibin .rem (iv (n : Int)) (.val (.int .i64 10)) = some (iv ((n % 10 : Nat) : Int)) := by
      show some (iv ((n : Int).tmod 10)) = _
      rw [Int.tmod_eq_emod_of_nonneg (by omega)]
      rfl
    have e2 : ibin .add (.val (.int .i64 48)) (iv ((n % 10 : Nat) : Int)) = some (iv (48 + ((n % 10 : Nat) : Int))) := ibin_add (by omega) (by omega)
    have e3 : convI .u8 (iv (48 + ((n % 10 : Nat) : Int))) = some (.val (.int .u8 (48 + ((n % 10 : Nat) : Int)))) := by
      show some (AV.val (.int .u8 (IntKind.u8.wrap _))) = _
      rw [wrap8 (by omega) (by omega)]
    have e4 : ∀ w : Int, bslR 1 [.val (.int .u8 0)] 1 [(0, .val (.int .u8 w))] = some (.ro [[.val (.int .u8 w)]]) := fun w => by
      show (if 1 * 1 ≤ 2 ^ 24 ∧ (∀ c, c ∈ [[AV.val (.int .u8 w)]] → c.length = 1) then some (if 1 = 0 then AV.emp else .ro [[.val (.int .u8 w)]]) else none) = _
      rw [if_pos ⟨by decide, by simp⟩]
      rfl
    have e5 : ∀ w : Int, b2s (.ro [[.val (.int .u8 w)]]) = some (str ⟨[UInt8.ofNat w.toNat].toArray⟩) := fun w => rfl
    simp only [g1, g2, e0, e1, e2, e3, e4, e5, RR]
    refine ih (n / 10) (by omega) (by omega) ?_
    have hl := decDigits_len 10 (n / 10) (by omega)
    have e6 := sbin_add (bs (Lib.decDigits (n / 10))) ⟨[UInt8.ofNat (48 + ((n % 10 : Nat) : Int)).toNat].toArray⟩ (by rw [size_bs, size_one]; omega)
    have e7 : bs (Lib.decDigits (n / 10)) ++ ⟨[UInt8.ofNat (48 + ((n % 10 : Nat) : Int)).toNat].toArray⟩ = bs (Lib.decDigits n) := by
      rw [decDigits_ten c, ← bs_append, show (48 + ((n % 10 : Nat) : Int)).toNat = 48 + n % 10 by omega]
    rw [e7] at e6
    refine ⟨trivial, ?_⟩
    simp only [e6, RR]
    exact ret_here h
theorem aun_neg {v : Int} (h0 : -9223372036854775808 ≤ -v) (h1 : -v ≤ 9223372036854775807) : aun .neg (iv v) = some (iv (-v)) := by
  show some (iv (IntKind.i64.wrap (0 - v))) = _
  rw [Int.zero_sub, i64_wrap h0 h1]
theorem c_spec_l1Digits_int {v : Int} (h0 : -1000000000 ≤ v) (h1 : v ≤ 1000000000) (h : R (.ret (str (itB v))) σ) : acall TP fn_spec_l1Digits [iv v] σ R := by
  unfold itB Lib.itoa at h
  by_cases c : v < 0
  · rw [if_pos c] at h
    refine s_spec_l1Digits_ok ?_
    unfold s_spec_l1Digits
    have e1 : -v = ((v.natAbs : Nat) : Int) := by omega
    simp only [c, aun_neg (show -9223372036854775808 ≤ -v by omega) (show -v ≤ 9223372036854775807 by omega), RR]
    rw [e1]
    refine c_spec_l1Digits_nat _ (by omega) ?_
    have hl := decDigits_len 10 v.natAbs (by omega)
    have e6 := sbin_add ⟨#[45]⟩ (bs (Lib.decDigits v.natAbs)) (by rw [size_bs (Lib.decDigits v.natAbs)]; show 1 + (Lib.decDigits v.natAbs).length ≤ 4611686018427387904; omega)
    have e7 : (⟨#[45]⟩ : ByteArray) ++ bs (Lib.decDigits v.natAbs) = bs (45 :: Lib.decDigits v.natAbs) := bs_append [45] _
    rw [e7] at e6
    simp only [e6, RR]
    exact ret_here h
  · rw [if_neg c] at h
    have e1 : v = ((v.toNat : Nat) : Int) := by omega
    rw [e1]
    exact c_spec_l1Digits_nat _ (by omega) h
theorem c_spec_l1Num {v : Int} (h : R (.ret (bv (inB (-1000000000) 1000000000 v))) σ) : acall TP fn_spec_l1Num [iv v] σ R := by
  refine s_spec_l1Num_ok ?_
  unfold s_spec_l1Num
  refine c_spec_l1In ?_
  simp only [RR]
  exact ret_here h
theorem val_take {l : List UInt8} {j : Nat} (h : j < l.length) : val 0 (l.take (j + 1)) = val 0 (l.take j) * 10 + (l[j].toNat - 48) := by
  rw [List.take_succ_eq_append_getElem h]
  unfold val
  rw [List.foldl_append, List.foldl_cons, List.foldl_nil]
theorem sub8 {x : Int} (h0 : 48 ≤ x) (h1 : x ≤ 255) : ibin .sub (u8v x) (u8v 48) = some (u8v (x - 48)) := by
  show some (u8v (IntKind.u8.wrap (x - 48))) = _
  rw [wrap8 (by omega) (by omega)]
theorem conv8 {x : Int} (h0 : 0 ≤ x) (h1 : x ≤ 255) : convI .i64 (u8v x) = some (iv x) := by
  show some (iv (IntKind.i64.wrap x)) = _
  rw [i64_wrap (by omega) (by omega)]
theorem jn_by {X : Type} {B : X → AH → Prop} {E : (X → AH → Prop) → Prop} (P : X → AH → Prop) (hB : ∀ x σ, P x σ → B x σ) (hE : ∀ k : X → AH → Prop, (∀ x σ, P x σ → k x σ) → E k) : jn B E := hE B hB
theorem c_spec_l1Parse {l : List UInt8} (hl : l.length ≤ 1048576) (h1 : parOk l = true → R (.ret (.tup [iv (parV l), bv (inB (-1000000000) 1000000000 (parV l) && decide (itB (parV l) = bs l))])) σ)
    (h0 : parOk l = false → R (.ret (.tup [iv 0, bv false])) σ) : acall TP fn_spec_l1Parse [str (bs l)] σ R := by
  have fin : ∀ v : Int, parOk l = true → v = parV l → acall TP fn_spec_l1Num [iv v] σ (onr (fun v58 σ =>
      og (gval v58 true false (some (iv v))) fun v60 =>
      gpick v58 (acall TP fn_spec_l1Digits [v60] σ (onr (fun v61 σ => og (sbin .eql v61 (str (bs l))) fun v63 => aret (.tup [iv v, v63]) σ R) (fun v σ => apan v σ R))) (aret (.tup [iv v, bv false]) σ R) False) (fun v σ => apan v σ R)) := by
    rintro v hok rfl
    have h1 := h1 hok
    refine c_spec_l1Num ?_
    cases c : inB (-1000000000) 1000000000 (parV l) with
    | false =>
      rw [c] at h1
      simp only [RR]
      exact ret_here h1
    | true =>
      rw [c] at h1
      have := inB_iff.1 c
      simp only [RR]
      refine c_spec_l1Digits_int this.1 this.2 ?_
      simp only [sbin_eql', RR]
      exact ret_here h1
  refine s_spec_l1Parse_ok ?_
  unfold s_spec_l1Parse
  have dm : ∀ m : Nat, m ≤ l.length → dgsB l = l.drop m → (dgsB l).length = l.length - m := fun m h e => by rw [e, List.length_drop]
  refine jn_by (P := fun x τ => τ = σ ∧ ∃ m : Nat, x = (str (bs l), iv (m : Int), ()) ∧ m ≤ l.length ∧ dgsB l = l.drop m ∧ sgnB l = decide ((m : Int) = 1)) ?_ ?_
  · rintro x τ ⟨rfl, m, rfl, hm, hd, hs⟩
    have hlen := dm m hm hd
    have s1 : ibin .sub (iv (l.length : Int)) (iv (m : Int)) = some (iv ((dgsB l).length : Int)) := by
      rw [ibin_sub (by omega) (by omega)]; congr 3; omega
    simp only [size_bs, s1, RR]
    by_cases c1 : ((dgsB l).length : Int) < 1
    · have hn : parOk l = false := by
        unfold parOk
        rw [decide_eq_false (by omega)]; rfl
      simp only [c1, RR]
      exact ret_here (h0 hn)
    by_cases c2 : 10 < ((dgsB l).length : Int)
    · have hn : parOk l = false := by
        unfold parOk
        rw [decide_eq_false (show ¬ (dgsB l).length ≤ 10 by omega), Bool.and_false]; rfl
      simp only [c1, c2, s1, size_bs, RR]
      exact ret_here (h0 hn)
    simp only [c1, c2, s1, size_bs, RR]
    refine lp_same (dgsB l).length (fun j => (str (bs l), iv (m : Int), iv ((val 0 ((dgsB l).take j) : Nat) : Int), iv ((m + j : Nat) : Int), ())) (fun j => ∀ c, c ∈ (dgsB l).take j → isDg c = true) rfl (by simp) ?_
    intro j hj hH R2 hR2
    by_cases c3 : j < (dgsB l).length
    · have g1 : ((m + j : Nat) : Int) < (l.length : Int) := by omega
      have hmj : m + j < l.length := by omega
      have eb : l[m + j] = (dgsB l)[j] := by
        have : (dgsB l)[j]? = (l.drop m)[j]? := by rw [hd]
        rw [List.getElem?_eq_getElem c3, List.getElem?_drop, List.getElem?_eq_getElem hmj] at this
        exact (Option.some.inj this).symm
      have ix := idxStr_bs hmj
      rw [eb] at ix
      have bad : isDg (dgsB l)[j] = false → parOk l = false := by
        intro hf
        unfold parOk
        have : (dgsB l).all isDg = false := by
          rw [Bool.eq_false_iff]
          intro ha
          have := List.all_eq_true.1 ha _ (List.getElem_mem c3)
          rw [hf] at this; cases this
        rw [this, Bool.and_false]
      have hb : ((dgsB l)[j].toNat : Nat) < 256 := (dgsB l)[j].toNat_lt
      by_cases c4 : (((dgsB l)[j].toNat : Nat) : Int) < 48
      · have hf : isDg (dgsB l)[j] = false := by
          rw [Bool.eq_false_iff]; intro ht; have := isDg_iff.1 ht; omega
        simp only [size_bs, g1, ix, ibin_cmp8, c4, RR]
        exact ret_here (h0 (bad hf))
      by_cases c5 : 57 < (((dgsB l)[j].toNat : Nat) : Int)
      · have hf : isDg (dgsB l)[j] = false := by
          rw [Bool.eq_false_iff]; intro ht; have := isDg_iff.1 ht; omega
        simp only [size_bs, g1, ix, ibin_cmp8, c4, c5, RR]
        exact ret_here (h0 (bad hf))
      have ht : isDg (dgsB l)[j] = true := isDg_iff.2 (by omega)
      have hv := val_lt10 hH (by rw [List.length_take]; omega)
      have hsub := sub8 (x := (((dgsB l)[j].toNat : Nat) : Int)) (by omega) (by omega)
      have hcv := conv8 (x := (((dgsB l)[j].toNat : Nat) : Int) - 48) (by omega) (by omega)
      have e1 : ibin .mul (iv ((val 0 ((dgsB l).take j) : Nat) : Int)) (iv 10) = some (iv (((val 0 ((dgsB l).take j) : Nat) : Int) * 10)) := ibin_mul (by omega) (by omega)
      have e2 : ibin .add (iv (((val 0 ((dgsB l).take j) : Nat) : Int) * 10)) (iv ((((dgsB l)[j].toNat : Nat) : Int) - 48)) = some (iv ((val 0 ((dgsB l).take (j + 1)) : Nat) : Int)) := by
        rw [ibin_add (by omega) (by omega), val_take c3]; congr 3; omega
      have e3 : ibin .add (iv ((m + j : Nat) : Int)) (iv 1) = some (iv ((m + (j + 1) : Nat) : Int)) := by
        rw [ibin_add (by omega) (by omega)]; congr 3
      simp only [size_bs, g1, ix, ibin_cmp8, c4, c5, e1, hsub, hcv, e2, e3, RR]
      refine hR2 c3 ?_ _ (.refl _)
      intro c hc
      rw [List.take_succ_eq_append_getElem c3] at hc
      rcases List.mem_append.1 hc with hc | hc
      · exact hH c hc
      · rw [List.mem_singleton.1 hc]; exact ht
    · obtain rfl : j = (dgsB l).length := by omega
      have g1 : ¬ ((m + (dgsB l).length : Nat) : Int) < (l.length : Int) := by omega
      rw [List.take_length] at hH ⊢
      have hok : parOk l = true := by
        unfold parOk
        rw [Bool.and_eq_true, Bool.and_eq_true, decide_eq_true_iff, decide_eq_true_iff, List.all_eq_true]
        exact ⟨⟨by omega, by omega⟩, hH⟩
      have hv := val_lt10 hH (by omega)
      simp only [size_bs, g1, jn, RR]
      by_cases c6 : (m : Int) = 1
      · rw [decide_eq_true c6] at hs
        simp only [c6, aun_neg (v := ((val 0 (dgsB l) : Nat) : Int)) (by omega) (by omega), RR]
        exact fin _ hok (by unfold parV; rw [hs]; rfl)
      · rw [decide_eq_false c6] at hs
        simp only [c6, RR]
        exact fin _ hok (by unfold parV; rw [hs]; rfl)
  · intro k hk
    cases l with
    | nil =>
      simp only [size_bs, List.length_nil, RR]
      exact hk _ _ ⟨rfl, 0, rfl, by simp, rfl, rfl⟩
    | cons c r =>
      have ix := idxStr_bs (l := c :: r) (i := 0) (by simp)
      have g1 : (0 : Int) < ((c :: r).length : Int) := by simp only [List.length_cons]; omega
      have ix : idxStr (str (bs (c :: r))) (iv 0) = some (u8v (c.toNat : Nat)) := ix
      by_cases c1 : ((c.toNat : Nat) : Int) = 45
      · have hs : sgnB (c :: r) = true := by unfold sgnB; simp; omega
        simp only [size_bs, g1, ix, ibin_cmp8, c1, RR]
        exact hk _ _ ⟨rfl, 1, rfl, by simp, by unfold dgsB; rw [hs]; rfl, hs⟩
      · have hs : sgnB (c :: r) = false := by unfold sgnB; simp; omega
        simp only [size_bs, g1, ix, ibin_cmp8, c1, RR]
        exact hk _ _ ⟨rfl, 0, rfl, by simp, by unfold dgsB; rw [hs]; rfl, hs⟩
end Go.Proofs.YtohmmedckdialaaDoor.E
