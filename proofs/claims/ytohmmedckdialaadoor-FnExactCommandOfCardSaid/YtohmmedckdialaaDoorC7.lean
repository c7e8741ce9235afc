/- CommandOf: the reference. -/
import Derived.Test.YtohmmedckdialaaDoorN4
set_option linter.unusedSectionVars false
set_option linter.unusedSimpArgs false
set_option linter.unusedVariables false
namespace Go.Proofs.YtohmmedckdialaaDoor.E
open Go Go.RowKit
set_option maxRecDepth 100000
/-! ### words of a line -/
def noSp (c : UInt8) : Bool := !(c == 32)
def isSp (c : UInt8) : Bool := c == 32
theorem noSp_iff {c : UInt8} : noSp c = !decide (((c.toNat : Nat) : Int) = 32) := by
  unfold noSp
  by_cases h : c = 32
  · subst h; rfl
  · have h1 : c.toNat ≠ 32 := fun e => h (UInt8.toNat_inj.1 e)
    rw [beq_eq_false_iff_ne.2 h, decide_eq_false (by omega)]
theorem isSp_iff {c : UInt8} : isSp c = decide (((c.toNat : Nat) : Int) = 32) := by
  have := noSp_iff (c := c)
  unfold noSp at this
  unfold isSp
  cases h : (c == 32) <;> rw [h] at this <;> simpa using this
theorem tw_lt {p : UInt8 → Bool} : ∀ {l : List UInt8} {i : Nat}, i < (l.takeWhile p).length → ∃ h : i < l.length, p l[i] = true := by
  intro l
  induction l with
  | nil => intro i h; simp at h
  | cons c l ih =>
    intro i h
    rw [List.takeWhile_cons] at h
    split at h
    · rename_i hc
      cases i with
      | zero => exact ⟨by simp, hc⟩
      | succ i =>
        obtain ⟨h1, h2⟩ := ih (i := i) (by simpa using h)
        exact ⟨by simpa using h1, by simpa using h2⟩
    · simp at h
theorem tw_end {p : UInt8 → Bool} : ∀ {l : List UInt8} (h : (l.takeWhile p).length < l.length), p (l[(l.takeWhile p).length]'h) = false := by
  intro l
  induction l with
  | nil => intro h; simp at h
  | cons c l ih =>
    intro h
    by_cases hc : p c = true
    · have e : ((c :: l).takeWhile p).length = (l.takeWhile p).length + 1 := by rw [List.takeWhile_cons, if_pos hc]; rfl
      have h' : (l.takeWhile p).length < l.length := by rw [e] at h; simpa using h
      have := ih h'
      simpa [e] using this
    · have e : ((c :: l).takeWhile p).length = 0 := by rw [List.takeWhile_cons, if_neg hc]; rfl
      simp [e, hc]
theorem tw_le (p : UInt8 → Bool) (l : List UInt8) : (l.takeWhile p).length ≤ l.length := by
  have := congrArg List.length (List.takeWhile_append_dropWhile (p := p) (l := l))
  rw [List.length_append] at this
  omega
theorem tw_take (p : UInt8 → Bool) (l : List UInt8) : l.take (l.takeWhile p).length = l.takeWhile p := by
  have e := List.takeWhile_append_dropWhile (p := p) (l := l)
  have : (l.takeWhile p ++ l.dropWhile p).take (l.takeWhile p).length = l.takeWhile p := List.take_left ..
  rwa [e] at this
theorem tw_drop (p : UInt8 → Bool) (l : List UInt8) : l.drop (l.takeWhile p).length = l.dropWhile p := by
  have e := List.takeWhile_append_dropWhile (p := p) (l := l)
  have : (l.takeWhile p ++ l.dropWhile p).drop (l.takeWhile p).length = l.dropWhile p := List.drop_left ..
  rwa [e] at this
theorem slc_to {l : List UInt8} {k : Nat} (h : k ≤ l.length) : slcStr (str (bs l)) none (some (iv (k : Int))) = some (str (bs (l.take k))) := by
  have e1 : abd none 0 = some 0 := rfl
  have e2 : abd (some (AV.val (.int .i64 ((k : Nat) : Int)))) (bs l).size = some k := by simp [abd]
  simp only [slcStr, e1, e2]
  rw [if_pos ⟨Nat.zero_le _, by rw [size_bs]; exact h⟩]
  congr 3
  apply ByteArray.ext
  rw [ByteArray.data_extract]; simp
theorem slc_from {l : List UInt8} {k : Nat} (h : k ≤ l.length) : slcStr (str (bs l)) (some (iv (k : Int))) none = some (str (bs (l.drop k))) := by
  have e1 : abd none (bs l).size = some (bs l).size := rfl
  have e2 : abd (some (AV.val (.int .i64 ((k : Nat) : Int)))) 0 = some k := by simp [abd]
  simp only [slcStr, e1, e2]
  rw [if_pos ⟨by rw [size_bs]; exact h, Nat.le_refl _⟩]
  congr 3
  apply ByteArray.ext
  rw [ByteArray.data_extract, size_bs]; simp only [List.extract_toArray, List.extract_eq_take_drop]
  rw [List.take_of_length_le (by rw [List.length_drop]; omega)]
/-! ### what a line comes to -/
abbrev cSeg : ByteArray := ⟨#[58, 115, 101, 103]⟩
abbrev cTab : ByteArray := ⟨#[58, 116, 97, 98, 108, 101]⟩
abbrev cPeep : ByteArray := ⟨#[58, 112, 101, 101, 112]⟩
abbrev cCache : ByteArray := ⟨#[58, 99, 97, 99, 104, 101]⟩
abbrev cFuel : ByteArray := ⟨#[58, 102, 117, 101, 108]⟩
abbrev cCore : ByteArray := ⟨#[58, 99, 111, 114, 101]⟩
abbrev cCode : ByteArray := ⟨#[58, 99, 111, 100, 101]⟩
def cWords : List ByteArray := [cSeg, cTab, cPeep, cCache, cFuel, cCore, cCode]
def kindB (w : ByteArray) : Nat := if w = cSeg then 2 else if w = cTab then 3 else if w = cPeep then 4 else if w = cCache then 5 else if w = cFuel then 6 else if w = cCore then 7 else if w = cCode then 8 else 0
def loK (k : Nat) : Int := if k = 2 then 1 else 0
def hiK (k : Nat) : Int := if k = 2 then 64 else if k = 3 then 15 else if k = 6 then 400 else 1
def restB (l : List UInt8) : List UInt8 := (l.dropWhile noSp).dropWhile isSp
def cmdK (k : Nat) (q : List UInt8) : Int × Int × Int × ByteArray :=
  if k = 0 then (5, 0, 0, ⟨#[]⟩) else if 7 ≤ k then (0, k, 0, bs q) else
  if isNum q then (if inB (loK k) (hiK k) (parV q) then (0, k, parV q, ⟨#[]⟩) else (3, 0, 0, ⟨#[]⟩)) else (5, 0, 0, ⟨#[]⟩)
def isCmd : List UInt8 → Bool
  | [] => false
  | c :: _ => decide (((c.toNat : Nat) : Int) = 58)
def cmdR (l : List UInt8) : Int × Int × Int × ByteArray := if isCmd l then cmdK (kindB (bs (l.takeWhile noSp))) (restB l) else (0, 1, 0, bs l)
def encC (x : Int × Int × Int × ByteArray) : List AV := [iv x.1, iv x.2.1, iv x.2.2.1, str x.2.2.2]
theorem one_encC (x : Int × Int × Int × ByteArray) : ∀ y, y ∈ encC x → y.one = true := by
  intro y hy
  simp only [encC, List.mem_cons, List.not_mem_nil, or_false] at hy
  rcases hy with rfl | rfl | rfl | rfl <;> rfl
theorem kind_word : ∀ j, (h : j < 7) → kindB (cWords[j]'h) = j + 2 := by decide
theorem kind_none {w : ByteArray} (h : ∀ j, (h : j < 7) → cWords[j]'h ≠ w) : kindB w = 0 := by
  have h0 : cSeg ≠ w := h 0 (by omega)
  have h1 : cTab ≠ w := h 1 (by omega)
  have h2 : cPeep ≠ w := h 2 (by omega)
  have h3 : cCache ≠ w := h 3 (by omega)
  have h4 : cFuel ≠ w := h 4 (by omega)
  have h5 : cCore ≠ w := h 5 (by omega)
  have h6 : cCode ≠ w := h 6 (by omega)
  unfold kindB
  rw [if_neg h0.symm, if_neg h1.symm, if_neg h2.symm, if_neg h3.symm, if_neg h4.symm, if_neg h5.symm, if_neg h6.symm]
theorem kind_le (w : ByteArray) : kindB w ≤ 8 := by
  unfold kindB
  repeat' split
  all_goals omega
variable [L : Lam]
variable {σ : AH} {R : AEnd → AH → Prop}
theorem c_spec_l15Kind {w : ByteArray} (h : R (.ret (iv (kindB w : Int))) σ) : acall TP fn_spec_l15Kind [str w] σ R := by
  refine s_spec_l15Kind_ok ?_
  unfold s_spec_l15Kind
  refine bsl_frz (es := cWords.map fun x => [str x]) rfl (by decide) rfl (by simp [cWords]) ?_
  refine lp_same 7 (fun j => (str w, .ro (cWords.map fun x => [str x]), iv (j : Int), ())) (fun j => ∀ i, (hi : i < 7) → i < j → cWords[i]'hi ≠ w) rfl (fun i _ hi => by omega) ?_
  intro j hj hH R2 hR2
  have ln : lenS (.ro (cWords.map fun x => [str x])) = some (iv 7) := rfl
  by_cases c : j < 7
  · have g : (j : Int) < 7 := by omega
    have ix : ∀ τ, idx 1 (.ro (cWords.map fun x => [str x])) (iv (j : Int)) τ = some (.rop [str (cWords[j]'c)] 0) := fun τ => idx_ro (enc := fun x => [str x]) (es := cWords) c (fun _ => rfl)
    have ll : ∀ (w : ByteArray) τ, lod (.rop [str w] 0) τ = some (str w) := fun _ _ => rfl
    by_cases e : cWords[j]'c = w
    · have hk := kind_word j c
      rw [e] at hk
      rw [hk] at h
      have e4 : sbin .eql (str (cWords[j]'c)) (str w) = some (bv true) := by rw [sbin_eql]; simp [e]
      have e5 : ibin .add (iv (j : Int)) (iv 2) = some (iv ((j + 2 : Nat) : Int)) := by rw [ibin_add (by omega) (by omega)]; congr 3
      simp only [ln, g, ix, ll, e4, e5, RR]
      exact ret_here h
    · have e4 : sbin .eql (str (cWords[j]'c)) (str w) = some (bv false) := by rw [sbin_eql]; simp [e]
      simp only [ln, g, ix, ll, e4, ibin_up c (by omega), RR]
      refine hR2 c (fun i hi hlt => ?_) _ (.refl _)
      rcases Nat.lt_or_ge i j with h1 | h1
      · exact hH i hi h1
      · obtain rfl : i = j := by omega
        exact e
  · obtain rfl : j = 7 := by omega
    rw [kind_none (fun i hi => hH i hi hi)] at h
    simp only [ln, RR, show ¬ ((7 : Nat) : Int) < 7 by omega]
    exact ret_here h
theorem c_spec_l15Bounds {k : Nat} (h : R (.ret (.tup [iv (loK k), iv (hiK k)])) σ) : acall TP fn_spec_l15Bounds [iv (k : Int)] σ R := by
  refine s_spec_l15Bounds_ok ?_
  unfold s_spec_l15Bounds
  unfold loK hiK at h
  by_cases c1 : (k : Int) = 2
  · obtain rfl : k = 2 := by omega
    simp only [RR] at h ⊢
    exact ret_here h
  rw [if_neg (by omega), if_neg (by omega)] at h
  by_cases c2 : (k : Int) = 3
  · obtain rfl : k = 3 := by omega
    simp only [RR] at h ⊢
    exact ret_here h
  rw [if_neg (by omega)] at h
  by_cases c3 : (k : Int) = 6
  · obtain rfl : k = 6 := by omega
    simp only [RR] at h ⊢
    exact ret_here h
  rw [if_neg (by omega)] at h
  simp only [c1, c2, c3, RR]
  exact ret_here h
theorem bld_cmd (k n : Int) (u : ByteArray) : bld [iv 0, iv 0, iv 0, str ⟨#[]⟩] [(0, 1), (1, 1), (2, 1), (3, 1)] [(1, iv k), (2, iv n)] = some (.agg (encC (0, k, n, ⟨#[]⟩))) ∧
    bld [iv 0, iv 0, iv 0, str ⟨#[]⟩] [(0, 1), (1, 1), (2, 1), (3, 1)] [(1, iv k), (3, str u)] = some (.agg (encC (0, k, 0, u))) ∧
    bld [iv 0, iv 0, iv 0, str ⟨#[]⟩] [(0, 1), (1, 1), (2, 1), (3, 1)] [(0, iv k)] = some (.agg (encC (k, 0, 0, ⟨#[]⟩))) := ⟨rfl, rfl, rfl⟩
theorem c_spec_CommandOf {l : List UInt8} (hl : l.length ≤ 1048576) (h : R (.ret (.agg (encC (cmdR l)))) σ) : acall TP fn_spec_CommandOf [str (bs l)] σ R := by
  refine s_spec_CommandOf_ok ?_
  unfold s_spec_CommandOf
  intro φ hφ
  have fin : ∀ x, R (.ret (.agg (encC x))) σ → sto 4 (.ptr φ 0 0 0) (.agg (encC x)) (σ.set φ ⟨0, 4, [[iv 0, iv 0, iv 0, str ⟨#[]⟩]]⟩) fun σ => og (lodA 4 (.ptr φ 0 0 0) σ) fun r2 => aret r2 σ R :=
    fun x hx => fin_cell hφ rfl rfl (one_encC x) hx
  unfold cmdR at h
  cases l with
  | nil =>
    simp only [size_bs, List.length_nil, RR, bld_cmd]
    exact fin _ h
  | cons c r =>
    have ix : idxStr (str (bs (c :: r))) (iv 0) = some (u8v (c.toNat : Nat)) := idxStr_bs (l := c :: r) (i := 0) (by simp)
    have g0 : ¬ ((c :: r).length : Int) = 0 := by simp only [List.length_cons]; omega
    by_cases c1 : ((c.toNat : Nat) : Int) = 58
    case neg =>
      rw [if_neg (by unfold isCmd; simp only [c1]; decide)] at h
      simp only [size_bs, g0, ix, ibin_cmp8, c1, RR, bld_cmd]
      exact fin _ h
    rw [if_pos (by unfold isCmd; simp only [c1]; decide)] at h
    unfold cmdK at h
    simp only [size_bs, g0, ix, ibin_cmp8, c1, RR]
    generalize hL : c :: r = l at *
    have hk1 := tw_le noSp l
    refine lp_same (l.takeWhile noSp).length (fun i => (str (bs l), .ptr φ 0 0 0, iv (i : Int), ())) (fun _ => True) rfl trivial ?_
    intro i hi _ R1 hR1
    by_cases c2 : i < (l.takeWhile noSp).length
    · obtain ⟨hil, hp⟩ := tw_lt c2
      have g1 : (i : Int) < (l.length : Int) := by omega
      have ix2 := idxStr_bs hil
      rw [noSp_iff, Bool.not_eq_true', decide_eq_false_iff_not] at hp
      simp only [size_bs, g1, ix2, ibin_cmp8, hp, ibin_up c2 (by omega), RR]
      exact hR1 c2 trivial _ (.refl _)
    obtain rfl : i = (l.takeWhile noSp).length := by omega
    have stop : ∀ {X Y : Prop}, Y → (og (lenStr (str (bs l))) fun v21 => og (ibin .lss (iv ((l.takeWhile noSp).length : Int)) v21) fun v22 => og (gval v22 true false (some (str (bs l)))) fun v24 => og (gval v22 true false (some (iv ((l.takeWhile noSp).length : Int)))) fun v25 =>
        og (gval v22 true false (idxStr v24 v25)) fun v26 => og (gval v22 true false (ibin .neq v26 (.val (.int .u8 32)))) fun v27 => og (pickV v22 v27 (bv false)) fun v28 => apick v28 X Y) := by
      intro X Y hY
      by_cases c3 : (l.takeWhile noSp).length < l.length
      · have g1 : ((l.takeWhile noSp).length : Int) < (l.length : Int) := by omega
        have hp := tw_end c3
        have ix2 := idxStr_bs c3
        rw [noSp_iff, Bool.not_eq_false', decide_eq_true_iff] at hp
        simp only [size_bs, g1, ix2, ibin_cmp8, hp, RR]
        exact hY
      · have g1 : ¬ ((l.takeWhile noSp).length : Int) < (l.length : Int) := by omega
        simp only [size_bs, g1, RR]
        exact hY
    refine stop ?_
    rw [slc_to hk1, tw_take]
    simp only [RR]
    refine c_spec_l15Kind ?_
    generalize kindB (bs (l.takeWhile noSp)) = k at h ⊢
    by_cases c4 : (k : Int) = 0
    · rw [if_pos (show k = 0 by omega)] at h
      simp only [c4, RR, bld_cmd]
      exact fin _ h
    rw [if_neg (show ¬ k = 0 by omega)] at h
    simp only [c4, RR]
    have hm := tw_le isSp (l.drop (l.takeWhile noSp).length)
    have hdl : (l.drop (l.takeWhile noSp).length).length = l.length - (l.takeWhile noSp).length := List.length_drop ..
    have hrest : l.drop ((l.takeWhile noSp).length + ((l.drop (l.takeWhile noSp).length).takeWhile isSp).length) = restB l := by
      unfold restB
      rw [← List.drop_drop, tw_drop isSp, tw_drop noSp]
    generalize hk2 : (l.takeWhile noSp).length = k1 at *
    generalize hm2 : ((l.drop k1).takeWhile isSp).length = m at *
    refine lp_same m (fun j => (str (bs l), .ptr φ 0 0 0, iv ((k1 + j : Nat) : Int), iv (k : Int), ())) (fun _ => True) rfl trivial ?_
    intro j hj _ R2 hR2
    by_cases c5 : j < m
    · obtain ⟨hjl, hp⟩ := tw_lt (p := isSp) (l := l.drop k1) (i := j) (by omega)
      have hjl' : k1 + j < l.length := by omega
      have g1 : ((k1 + j : Nat) : Int) < (l.length : Int) := by omega
      have ix2 := idxStr_bs hjl'
      rw [List.getElem_drop, isSp_iff, decide_eq_true_iff] at hp
      have e3 : ibin .add (iv ((k1 + j : Nat) : Int)) (iv 1) = some (iv ((k1 + (j + 1) : Nat) : Int)) := by
        rw [ibin_add (by omega) (by omega)]; congr 3
      simp only [size_bs, g1, ix2, ibin_cmp8, hp, e3, RR]
      exact hR2 c5 trivial _ (.refl _)
    obtain rfl : j = m := by omega
    have hke : k1 + j ≤ l.length := by omega
    have sf := slc_from hke
    rw [hrest] at sf
    have stop2 : ∀ {X Y : Prop}, Y → (og (lenStr (str (bs l))) fun v40 => og (ibin .lss (iv ((k1 + j : Nat) : Int)) v40) fun v41 => og (gval v41 true false (some (str (bs l)))) fun v43 => og (gval v41 true false (some (iv ((k1 + j : Nat) : Int)))) fun v44 =>
        og (gval v41 true false (idxStr v43 v44)) fun v45 => og (gval v41 true false (ibin .eql v45 (.val (.int .u8 32)))) fun v46 => og (pickV v41 v46 (bv false)) fun v47 => apick v47 X Y) := by
      intro X Y hY
      by_cases c3 : k1 + j < l.length
      · have g1 : ((k1 + j : Nat) : Int) < (l.length : Int) := by omega
        have hp := tw_end (p := isSp) (l := l.drop k1) (by omega)
        have ix2 := idxStr_bs c3
        simp only [hm2] at hp
        rw [List.getElem_drop, isSp_iff, decide_eq_false_iff_not] at hp
        simp only [size_bs, g1, ix2, ibin_cmp8, hp, RR]
        exact hY
      · have g1 : ¬ ((k1 + j : Nat) : Int) < (l.length : Int) := by omega
        simp only [size_bs, g1, RR]
        exact hY
    refine stop2 ?_
    by_cases c6 : 7 ≤ (k : Int)
    · rw [if_pos (show 7 ≤ k by omega)] at h
      simp only [c6, sf, RR, bld_cmd]
      exact fin _ h
    rw [if_neg (show ¬ 7 ≤ k by omega)] at h
    simp only [c6, sf, RR]
    have hrl : (restB l).length ≤ 1048576 := by rw [← hrest, List.length_drop]; omega
    unfold isNum at h
    have ax : ∀ a b : AV, aext (.tup [a, b]) 0 = some a ∧ aext (.tup [a, b]) 1 = some b := fun _ _ => ⟨rfl, rfl⟩
    refine c_spec_l1Parse hrl (fun hok => ?_) (fun hok => ?_)
    · rw [hok, Bool.true_and] at h
      cases c7 : (inB (-1000000000) 1000000000 (parV (restB l)) && decide (itB (parV (restB l)) = bs (restB l))) with
      | false =>
        rw [c7] at h
        simp only [ax, RR, bld_cmd]
        exact fin _ h
      | true =>
        rw [c7, if_pos rfl] at h
        simp only [ax, RR]
        refine c_spec_l15Bounds ?_
        simp only [ax, RR]
        refine c_spec_l1In ?_
        cases c8 : inB (loK k) (hiK k) (parV (restB l)) with
        | false =>
          rw [c8] at h
          simp only [RR, bld_cmd]
          exact fin _ h
        | true =>
          rw [c8] at h
          simp only [RR, bld_cmd]
          exact fin _ h
    · rw [hok, Bool.false_and] at h
      simp only [ax, RR, bld_cmd]
      exact fin _ h
end Go.Proofs.YtohmmedckdialaaDoor.E
