/- ConfigText. -/
import Derived.Test.YtohmmedckdialaaDoorC0
import Derived.Test.YtohmmedckdialaaDoorGZ
set_option linter.unusedSectionVars false
set_option linter.unusedSimpArgs false
set_option linter.unusedVariables false
namespace Go.Proofs.YtohmmedckdialaaDoor.E
open Go Go.RowKit
variable [L : Lam]
variable {σ τ : AH} {R : AEnd → AH → Prop}
def inB (lo hi x : Int) : Bool := decide (lo ≤ x) && decide (x ≤ hi)
theorem inB_iff {lo hi x : Int} : inB lo hi x = true ↔ lo ≤ x ∧ x ≤ hi := by unfold inB; rw [Bool.and_eq_true, decide_eq_true_iff, decide_eq_true_iff]
theorem c_impl_in {x lo hi : Int} (h : R (.ret (bv (inB lo hi x))) σ) : acall TP fn_impl_in [iv x, iv lo, iv hi] σ R := by
  refine s_impl_in_ok ?_
  unfold s_impl_in
  unfold inB at h
  cases c : decide (lo ≤ x) <;> rw [c] at h <;> simp only [c, RR, Bool.true_and, Bool.false_and] at h ⊢ <;> exact ret_here h
theorem c_spec_l1In {x lo hi : Int} (h : R (.ret (bv (inB lo hi x))) σ) : acall TP fn_spec_l1In [iv x, iv lo, iv hi] σ R := by
  refine s_spec_l1In_ok ?_
  unfold s_spec_l1In
  unfold inB at h
  cases c : decide (lo ≤ x) <;> rw [c] at h <;> simp only [c, RR, Bool.true_and, Bool.false_and] at h ⊢ <;> exact ret_here h
/-! ### digits -/
def dig (n : Nat) : ByteArray := if n < 10 then ⟨[UInt8.ofNat (48 + n)].toArray⟩ else ⟨[UInt8.ofNat (48 + n / 10)].toArray⟩ ++ ⟨[UInt8.ofNat (48 + n % 10)].toArray⟩
theorem dig_size (n : Nat) : (dig n).size ≤ 2 := by
  unfold dig
  split
  · rw [size_one]; omega
  · rw [ByteArray.size_append, size_one, size_one]; omega
abbrev tbl1 : ByteArray := ⟨#[48, 49, 50, 51, 52, 53, 54, 55, 56, 57, 97, 98, 99, 100, 101, 102, 103, 104, 105, 106, 107, 108, 109, 110, 111, 112, 113, 114, 115, 116, 117, 118, 119, 120, 121, 122]⟩
abbrev tbl2 : ByteArray := ⟨#[48, 48, 48, 49, 48, 50, 48, 51, 48, 52, 48, 53, 48, 54, 48, 55, 48, 56, 48, 57, 49, 48, 49, 49, 49, 50, 49, 51, 49, 52, 49, 53, 49, 54, 49, 55, 49, 56, 49, 57, 50, 48, 50, 49, 50, 50, 50, 51, 50, 52, 50, 53, 50, 54, 50, 55, 50, 56, 50, 57, 51, 48, 51, 49, 51, 50, 51, 51, 51, 52, 51, 53, 51, 54, 51, 55, 51, 56, 51, 57, 52, 48, 52, 49, 52, 50, 52, 51, 52, 52, 52, 53, 52, 54, 52, 55, 52, 56, 52, 57, 53, 48, 53, 49, 53, 50, 53, 51, 53, 52, 53, 53, 53, 54, 53, 55, 53, 56, 53, 57, 54, 48, 54, 49, 54, 50, 54, 51, 54, 52, 54, 53, 54, 54, 54, 55, 54, 56, 54, 57, 55, 48, 55, 49, 55, 50, 55, 51, 55, 52, 55, 53, 55, 54, 55, 55, 55, 56, 55, 57, 56, 48, 56, 49, 56, 50, 56, 51, 56, 52, 56, 53, 56, 54, 56, 55, 56, 56, 56, 57, 57, 48, 57, 49, 57, 50, 57, 51, 57, 52, 57, 53, 57, 54, 57, 55, 57, 56, 57, 57]⟩
set_option maxRecDepth 100000 in
theorem tbl1_at : ∀ n, n < 10 → tbl1.extract n (n + 1) = dig n := by decide +kernel
set_option maxRecDepth 100000 in
theorem tbl2_at : ∀ n, n < 100 → 10 ≤ n → tbl2.extract (n * 2) (n * 2 + 2) = dig n := by decide +kernel
theorem slcStr_at {s : ByteArray} {l h : Nat} (h1 : l ≤ h) (h2 : h ≤ s.size) : slcStr (.val (.string s)) (some (iv (l : Int))) (some (iv (h : Int))) = some (.val (.string (s.extract l h))) := by
  have a : ∀ (i d : Nat), abd (some (iv (i : Nat))) d = some i := fun i d => by simp [abd]
  simp only [slcStr, a]
  rw [if_pos ⟨h1, h2⟩]
theorem c_small {n : Nat} (hn : n < 100) (h : R (.ret (str (dig n))) σ) : acall TP fn_internal_strconv_small [iv (n : Int)] σ R := by
  refine s_internal_strconv_small_ok ?_
  unfold s_internal_strconv_small
  by_cases c : (n : Int) < 10
  · have hn10 : n < 10 := by omega
    have e := slcStr_at (s := tbl1) (l := n) (h := n + 1) (by omega) (by show n + 1 ≤ 36; omega)
    rw [tbl1_at n hn10] at e
    simp only [c, ibin_up hn10 (by omega), RR]
    rw [e]
    simp only [RR]
    exact ret_here h
  · have e := slcStr_at (s := tbl2) (l := n * 2) (h := n * 2 + 2) (by omega) (by show n * 2 + 2 ≤ 200; omega)
    rw [tbl2_at n hn (by omega)] at e
    have m1 : ibin .mul (iv (n : Int)) (.val (.int .i64 2)) = some (iv ((n * 2 : Nat) : Int)) := by rw [ibin_mul (by omega) (by omega)]; congr 3
    have m2 : ibin .add (iv ((n * 2 : Nat) : Int)) (.val (.int .i64 2)) = some (iv ((n * 2 + 2 : Nat) : Int)) := by rw [ibin_add (by omega) (by omega)]; congr 3
    simp only [c, m1, m2, RR]
    rw [e]
    simp only [RR]
    exact ret_here h
theorem c_impl_dec {n : Nat} (hn : n < 100) (h : R (.ret (str (dig n))) σ) : acall TP fn_impl_dec [iv (n : Int)] σ R := by
  refine s_impl_dec_ok ?_
  unfold s_impl_dec
  refine s_strconv_FormatInt_ok ?_
  unfold s_strconv_FormatInt
  refine s_internal_strconv_FormatInt_ok ?_
  unfold s_internal_strconv_FormatInt
  have g1 : (0 : Int) ≤ (n : Int) := by omega
  have g2 : (n : Int) < 100 := by omega
  simp only [g1, g2, RR]
  refine c_small hn ?_
  simp only [RR]
  refine ret_here ?_
  simp only [RR]
  refine ret_here ?_
  simp only [RR]
  exact ret_here h
theorem bytes_Lb : bytesT TT ty_Lb ty_s = true := by kernel_rfl
theorem wrap8 {x : Int} (h0 : 0 ≤ x) (h1 : x ≤ 255) : IntKind.u8.wrap x = x := by
  have e : x % (2 ^ IntKind.u8.bits : Int) = x := Int.emod_eq_of_lt h0 (by simp [IntKind.bits]; omega)
  unfold IntKind.wrap
  simp [e, IntKind.signed]
set_option maxRecDepth 100000 in
theorem c_l1Digits_one {n : Nat} (hn : n < 10) (h : R (.ret (str (dig n))) σ) : acall TP fn_spec_l1Digits [iv (n : Int)] σ R := by
  refine s_spec_l1Digits_ok ?_
  unfold s_spec_l1Digits
  have g1 : ¬ (n : Int) < 0 := by omega
  have g2 : (n : Int) < 10 := by omega
  have e2 : ibin .add (.val (.int .i64 48)) (iv (n : Int)) = some (iv (48 + (n : Int))) := ibin_add (by omega) (by omega)
  have e3 : convI .u8 (iv (48 + (n : Int))) = some (.val (.int .u8 (48 + (n : Int)))) := by
    show some (AV.val (.int .u8 (IntKind.u8.wrap (48 + (n : Int))))) = _
    rw [wrap8 (by omega) (by omega)]
  simp only [g1, g2, e2, e3, RR]
  refine ⟨by decide, ?_⟩
  rw [if_neg (by decide)]
  intro ψ hψ
  have ha : ∀ w : Int, aelems (σ.set ψ ⟨0, 1, [[.val (.int .u8 w)]]⟩) (.own ψ 0 0 1) = some [[.val (.int .u8 w)]] := fun w => by simp [aelems]
  have hb : ∀ w : Int, abytes [[.val (.int .u8 w)]] = some [UInt8.ofNat w.toNat] := fun w => rfl
  refine aconv_bytes bytes_Lb (ha _) (hb _) (by intro u h; cases h) (by intro kd n h; cases h) ?_
  have e : (⟨[UInt8.ofNat (48 + (n : Int)).toNat].toArray⟩ : ByteArray) = dig n := by
    unfold dig
    rw [if_pos hn, show (48 + (n : Int)).toNat = 48 + n by omega]
  rw [e]
  exact aret_sub (.set (.refl σ) _ hψ) h
theorem c_spec_l1Digits {n : Nat} (hn : n < 100) (h : R (.ret (str (dig n))) σ) : acall TP fn_spec_l1Digits [iv (n : Int)] σ R := by
  by_cases c : n < 10
  · exact c_l1Digits_one c h
  refine s_spec_l1Digits_ok ?_
  unfold s_spec_l1Digits
  have g1 : ¬ (n : Int) < 0 := by omega
  have g2 : ¬ (n : Int) < 10 := by omega
  have e0 : ibin .quo (iv (n : Int)) (.val (.int .i64 10)) = some (iv ((n / 10 : Nat) : Int)) := by
    show some (iv (IntKind.i64.wrap ((n : Int).tdiv 10))) = _
    rw [Int.tdiv_eq_ediv_of_nonneg (by omega), i64_wrap (by omega) (by omega)]
    rfl
  have e1 : ibin .rem (iv (n : Int)) (.val (.int .i64 10)) = some (iv ((n % 10 : Nat) : Int)) := by
    show some (iv ((n : Int).tmod 10)) = _
    rw [Int.tmod_eq_emod_of_nonneg (by omega)]
    rfl
  have e2 : ibin .add (.val (.int .i64 48)) (iv ((n % 10 : Nat) : Int)) = some (iv (48 + ((n % 10 : Nat) : Int))) := ibin_add (by omega) (by omega)
  have e3 : convI .u8 (iv (48 + ((n % 10 : Nat) : Int))) = some (.val (.int .u8 (48 + ((n % 10 : Nat) : Int)))) := by
    show some (AV.val (.int .u8 (IntKind.u8.wrap _))) = _
    rw [wrap8 (by omega) (by omega)]
  have e4 : ∀ w : Int, bslR 1 [.val (.int .u8 0)] 1 [(0, .val (.int .u8 w))] = some (.ro [[.val (.int .u8 w)]]) := fun w => by
    show (if 1 * 1 ≤ 2 ^ 24 ∧ (∀ c, c ∈ [[AV.val (.int .u8 w)]] → c.length = 1) then some (if 1 = 0 then AV.emp else .ro [[.val (.int .u8 w)]]) else none) = _
    rw [if_pos ⟨by decide, by simp⟩]
    rfl
  have e5 : ∀ w : Int, b2s (.ro [[.val (.int .u8 w)]]) = some (str ⟨[UInt8.ofNat w.toNat].toArray⟩) := fun w => rfl
  simp only [g1, g2, e0, e1, e2, e3, e4, e5, RR]
  refine c_l1Digits_one (by omega) ?_
  have e6 := sbin_add (dig (n / 10)) ⟨[UInt8.ofNat (48 + ((n % 10 : Nat) : Int)).toNat].toArray⟩ (by have := dig_size (n / 10); rw [size_one]; omega)
  have e7 : dig (n / 10) ++ ⟨[UInt8.ofNat (48 + ((n % 10 : Nat) : Int)).toNat].toArray⟩ = dig n := by
    unfold dig
    rw [if_pos (by omega), if_neg c, show (48 + ((n % 10 : Nat) : Int)).toNat = 48 + n % 10 by omega]
  rw [e7] at e6
  refine ⟨trivial, ?_⟩
  simp only [e6, RR]
  exact ret_here h
end Go.Proofs.YtohmmedckdialaaDoor.E
