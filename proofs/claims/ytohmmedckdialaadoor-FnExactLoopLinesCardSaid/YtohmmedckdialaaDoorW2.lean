/- Lines of a text: the reference. -/
import Derived.Test.YtohmmedckdialaaDoorW1
set_option linter.unusedSectionVars false
set_option linter.unusedSimpArgs false
set_option linter.unusedVariables false
namespace Go.Proofs.YtohmmedckdialaaDoor.E
open Go Go.RowKit
set_option maxRecDepth 100000
def isSpc (c : UInt8) : Bool := c == 32
theorem isSpc_dec {c : UInt8} : isSpc c = decide (((c.toNat : Nat) : Int) = 32) := by
  unfold isSpc
  by_cases h : c = 32
  · subst h; rfl
  · have h1 : c.toNat ≠ 32 := fun e => h (UInt8.toNat_inj.1 e)
    rw [beq_eq_false_iff_ne.2 h, decide_eq_false (by omega)]
def nbL (l : List UInt8) : Bool := !(l.all isSpc)
def linesL (l : List UInt8) : List ByteArray := ((lpc 10 l).filter nbL).map bs
def badL (xs : List ByteArray) : Bool := decide (12 < xs.length) || xs.any fun x => decide (400 < x.size)
section
variable [L : Lam]
variable {σ τ : AH} {R : AEnd → AH → Prop}
theorem c_spec_l15Blank {l : List UInt8} (hl : l.length ≤ 1048576) (h : R (.ret (bv (l.all isSpc))) σ) : acall TP fn_spec_l15Blank [str (bs l)] σ R := by
  refine s_spec_l15Blank_ok ?_
  unfold s_spec_l15Blank
  refine lp_same l.length (fun i => (str (bs l), iv (i : Int), ())) (fun i => ∀ c, c ∈ l.take i → isSpc c = true) rfl (by simp) ?_
  intro i hi hH R' hR'
  by_cases hlt : i < l.length
  · have g : (i : Int) < (l.length : Int) := by omega
    have ix := idxStr_bs hlt
    by_cases c : (((l[i]).toNat : Nat) : Int) = 32
    · simp only [size_bs, g, ix, ibin_cmp8, c, ibin_up hlt (by omega), RR]
      refine hR' hlt (fun x hx => ?_) _ (.refl _)
      rw [List.take_succ_eq_append_getElem hlt] at hx
      rcases List.mem_append.1 hx with hx | hx
      · exact hH x hx
      · rw [List.mem_singleton.1 hx, isSpc_dec, decide_eq_true_iff]; exact c
    · simp only [size_bs, g, ix, ibin_cmp8, c, RR]
      have e : l.all isSpc = false := by
        rw [Bool.eq_false_iff]
        intro ha
        have := List.all_eq_true.1 ha _ (List.getElem_mem hlt)
        rw [isSpc_dec, decide_eq_true_iff] at this
        exact c this
      rw [e] at h
      exact ret_here h
  · obtain rfl : i = l.length := by omega
    have g : ¬ (l.length : Int) < (l.length : Int) := by omega
    rw [List.take_length] at hH
    rw [List.all_eq_true.2 hH] at h
    simp only [size_bs, g, RR]
    exact ret_here h
theorem c_spec_LinesFault {a : AV} {xs : List ByteArray} (ha : RdS σ a xs) (hl : xs.length ≤ 1048576) (h : R (.ret (iv (if badL xs then 2 else 0))) σ) : acall TP fn_spec_LinesFault [a, iv 0] σ R := by
  refine s_spec_LinesFault_ok ?_
  unfold s_spec_LinesFault
  unfold badL at h
  by_cases c : (12 : Int) < (xs.length : Int)
  · rw [decide_eq_true (show 12 < xs.length by omega), Bool.true_or, if_pos rfl] at h
    simp only [ha.len, c, RR]
    exact ret_here h
  rw [decide_eq_false (show ¬ 12 < xs.length by omega), Bool.false_or] at h
  simp only [ha.len, c, RR]
  refine c_spec_l1In ?_
  have e0 : inB 0 400 0 = true := by decide
  rw [e0]
  simp only [RR]
  refine lp_same xs.length (fun i => (a, iv (i : Int), ())) (fun i => ∀ x, x ∈ xs.take i → ¬ 400 < x.size) rfl (by simp) ?_
  intro i hi hH R' hR'
  simp only [ha.len, RR]
  by_cases hlt : i < xs.length
  · have g : (i : Int) < (xs.length : Int) := by omega
    obtain ⟨p, p1, p2⟩ := ha.at_ i hlt
    by_cases c2 : (400 : Int) < ((xs[i]).size : Int)
    · have e : (xs.any fun x => decide (400 < x.size)) = true := List.any_eq_true.2 ⟨_, List.getElem_mem hlt, decide_eq_true (by omega)⟩
      rw [e, if_pos rfl] at h
      simp only [g, p1, p2, c2, RR]
      exact ret_here h
    · simp only [g, p1, p2, c2, ibin_up hlt (by omega), RR]
      refine hR' hlt (fun x hx => ?_) _ (.refl _)
      rw [List.take_succ_eq_append_getElem hlt] at hx
      rcases List.mem_append.1 hx with hx | hx
      · exact hH x hx
      · rw [List.mem_singleton.1 hx]; omega
  · obtain rfl : i = xs.length := by omega
    have g : ¬ (xs.length : Int) < (xs.length : Int) := by omega
    rw [List.take_length] at hH
    have e : (xs.any fun x => decide (400 < x.size)) = false := by
      rw [Bool.eq_false_iff]
      intro ha
      obtain ⟨x, hx, hc⟩ := List.any_eq_true.1 ha
      exact hH x hx (of_decide_eq_true hc)
    rw [e] at h
    simp only [g, RR]
    exact ret_here h
theorem none_ne' {φ ψ : Nat} {F : Fam} (h : τ φ = some F) (h2 : τ ψ = none) : φ ≠ ψ := by rintro rfl; rw [h] at h2; cases h2
theorem slc_mid {l : List UInt8} {a b : Nat} (h1 : a ≤ b) (h2 : b ≤ l.length) : slcStr (str (bs l)) (some (iv (a : Int))) (some (iv (b : Int))) = some (str (bs ((l.drop a).take (b - a)))) := by
  have e1 : ∀ d, abd (some (AV.val (.int .i64 ((a : Nat) : Int)))) d = some a := by simp [abd]
  have e2 : ∀ d, abd (some (AV.val (.int .i64 ((b : Nat) : Int)))) d = some b := by simp [abd]
  simp only [slcStr, e1, e2]
  rw [if_pos ⟨h1, by rw [size_bs]; exact h2⟩]
  congr 3
  apply ByteArray.ext
  rw [ByteArray.data_extract]
  simp only [List.extract_toArray, List.extract_eq_take_drop]
theorem buf_rd {a : AV} {xs : List ByteArray} (h : Buf τ 1 a (txs xs)) : RdS τ a xs := by
  rcases h with ⟨hn, e⟩ | ⟨φ, st, rfl, hF⟩
  · have : xs = [] := by simpa [txs] using e
    subst this
    rcases hn with rfl | rfl
    · exact .nil τ
    · exact ⟨rfl, fun j h => by cases h⟩
  · have hl : (txs xs).length = xs.length := by simp [txs]
    rw [hl]
    exact GLS.rd (.inr ⟨φ, st, xs, rfl, hF, fun j hj => List.getElem?_eq_getElem hj⟩)
theorem buf_one {a : AV} {es : List (List AV)} (h : Buf τ 1 a es) : a.one = true := by
  rcases h with ⟨rfl | rfl, _⟩ | ⟨φ, st, rfl, _⟩ <;> rfl
/-- A list of one's own, frozen. -/
theorem fz_buf {a : AV} {xs : List ByteArray} (h : Buf τ 1 a (txs xs)) (hn : ∀ ψ, Buf.fam a ψ → σ ψ = none) : ∃ a', Fz σ τ a a' ∧ (∀ τ', RdS τ' a' xs) ∧ a'.one = true := by
  rcases h with ⟨hn, e⟩ | ⟨φ, st, rfl, hF⟩
  · have : xs = [] := by simpa [txs] using e
    subst this
    rcases hn with rfl | rfl
    · exact ⟨_, .same _, fun τ' => .nil τ', rfl⟩
    · exact ⟨_, .emp, fun τ' => .ro τ' [], rfl⟩
  · refine ⟨.ro (txs xs), .own hF (hn φ ⟨_, _, _, rfl⟩) rfl (by simp) rfl (fun i hi => ?_) (fun i j hi hj => ?_), fun τ' => .ro τ' xs, rfl⟩
    · have hi' : i < xs.length := by simpa [txs] using hi
      simp [txs, hi']
    · simp only [Nat.zero_add]
      exact .same _
theorem fz_agg2 {a b c d : AV} (h : Fz σ τ a c) (k : Fz σ τ b d) : Fz σ τ (.agg [a, b]) (.agg [c, d]) := by
  refine .agg rfl fun i hi => ?_
  match i, hi with
  | 0, _ => exact h
  | 1, _ => exact k
end
end Go.Proofs.YtohmmedckdialaaDoor.E
