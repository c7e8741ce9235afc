/- Numbers as texts: any of at most ten digits. Plain law, and the reference's two functions. -/
import Derived.Test.YtohmmedckdialaaDoorC3
import Derived.Lib.ItoaMem
set_option linter.unusedSectionVars false
set_option linter.unusedSimpArgs false
set_option linter.unusedVariables false
namespace Go.Proofs.YtohmmedckdialaaDoor.E
open Go Go.RowKit
/-! ### lists of bytes -/
abbrev u8v (n : Int) : AV := .val (.int .u8 n)
abbrev bs (l : List UInt8) : ByteArray := ⟨l.toArray⟩
abbrev by8 (s : ByteArray) : List UInt8 := s.data.toList
theorem bs_by8 (s : ByteArray) : bs (by8 s) = s := by cases s; simp
theorem size_by8 (s : ByteArray) : s.size = (by8 s).length := by show s.data.size = s.data.toList.length; simp
theorem size_bs (l : List UInt8) : (bs l).size = l.length := by show l.toArray.size = l.length; simp
theorem bs_inj {a b : List UInt8} (h : bs a = bs b) : a = b := by
  have := congrArg (fun x : ByteArray => x.data.toList) h
  simpa using this
theorem bs_append (a b : List UInt8) : bs a ++ bs b = bs (a ++ b) := by
  apply ByteArray.ext
  simp [ByteArray.data_append]
theorem ga_bs {l : List UInt8} {i : Nat} (h : i < l.length) : (bs l)[i]? = some l[i] := by
  have h' : i < (bs l).size := by rw [size_bs]; exact h
  rw [getElem?_pos (bs l) i h']
  rfl
theorem idxStr_bs {l : List UInt8} {i : Nat} (h : i < l.length) : idxStr (str (bs l)) (.val (.int .i64 (i : Int))) = some (u8v (l[i].toNat : Nat)) := by
  simp only [idxStr, Int.toNat_natCast, ga_bs h]
  rw [if_pos (by omega)]
theorem lenStr_bs (l : List UInt8) : lenStr (str (bs l)) = some (iv (l.length : Int)) := by
  show some (iv ((bs l).size : Int)) = _
  rw [size_bs]
theorem ibin_cmp8 (a b : Int) : ibin .geq (u8v a) (u8v b) = some (bv (decide (b ≤ a))) ∧ ibin .leq (u8v a) (u8v b) = some (bv (decide (a ≤ b))) ∧ ibin .lss (u8v a) (u8v b) = some (bv (decide (a < b))) ∧ ibin .gtr (u8v a) (u8v b) = some (bv (decide (b < a))) ∧
    ibin .eql (u8v a) (u8v b) = some (bv (decide (a = b))) ∧ ibin .neq (u8v a) (u8v b) = some (bv (!decide (a = b))) := ⟨id rfl, id rfl, id rfl, id rfl, id rfl, id rfl⟩
/-! ### digits -/
def isDg (c : UInt8) : Bool := decide (48 ≤ c.toNat) && decide (c.toNat ≤ 57)
theorem isDg_iff {c : UInt8} : isDg c = true ↔ 48 ≤ c.toNat ∧ c.toNat ≤ 57 := by unfold isDg; rw [Bool.and_eq_true, decide_eq_true_iff, decide_eq_true_iff]
def val (acc : Nat) (l : List UInt8) : Nat := l.foldl (fun a c => a * 10 + (c.toNat - 48)) acc
theorem val_cons (acc : Nat) (c : UInt8) (l : List UInt8) : val acc (c :: l) = val (acc * 10 + (c.toNat - 48)) l := by unfold val; rw [List.foldl_cons]
theorem dg_toNat {d : Nat} (h : d < 10) : (UInt8.ofNat (48 + d)).toNat = 48 + d := by
  rw [UInt8.toNat_ofNat']; omega
theorem dg_is {d : Nat} (h : d < 10) : isDg (UInt8.ofNat (48 + d)) = true := by
  rw [isDg_iff, dg_toNat h]; omega
theorem decDigits_ten {u : Nat} (h : ¬ u < 10) : Lib.decDigits u = Lib.decDigits (u / 10) ++ [UInt8.ofNat (48 + u % 10)] := by rw [Lib.decDigits, dif_neg h]
theorem decDigits_dg : ∀ (u : Nat), ∀ c, c ∈ Lib.decDigits u → isDg c = true := by
  intro u
  induction u using Nat.strongRecOn with
  | _ u ih =>
    intro c hc
    by_cases h : u < 10
    · rw [Lib.decDigits_one h] at hc
      rw [List.mem_singleton.1 hc]
      exact dg_is h
    · rw [decDigits_ten h] at hc
      rcases List.mem_append.1 hc with hc | hc
      · exact ih _ (by omega) c hc
      · rw [List.mem_singleton.1 hc]
        exact dg_is (by omega)
theorem decDigits_len : ∀ (k u : Nat), u < 10 ^ (k + 1) → 1 ≤ (Lib.decDigits u).length ∧ (Lib.decDigits u).length ≤ k + 1 := by
  intro k
  induction k with
  | zero =>
    intro u h
    rw [Lib.decDigits_one (by simpa using h)]
    simp
  | succ k ih =>
    intro u h
    by_cases c : u < 10
    · rw [Lib.decDigits_one c]
      simp
    · rw [decDigits_ten c]
      have := ih (u / 10) (by rw [Nat.pow_succ] at h; omega)
      simp only [List.length_append, List.length_cons, List.length_nil]
      omega
/-! ### what a text says -/
def sgnB (l : List UInt8) : Bool := match l with | c :: _ => decide (c.toNat = 45) | [] => false
def dgsB (l : List UInt8) : List UInt8 := if sgnB l then l.tail else l
def parOk (l : List UInt8) : Bool := decide (1 ≤ (dgsB l).length) && decide ((dgsB l).length ≤ 10) && (dgsB l).all isDg
def parV (l : List UInt8) : Int := if sgnB l then -(val 0 (dgsB l) : Nat) else (val 0 (dgsB l) : Nat)
theorem parseUintM_dg : ∀ (l : List UInt8) (acc : Nat), (∀ c, c ∈ l → isDg c = true) → (acc + 1) * 10 ^ l.length ≤ 1000000000000000000 → Lib.parseUintM 18446744073709551615 acc l = .ok (val acc l) ∧ val acc l < (acc + 1) * 10 ^ l.length := by
  intro l
  induction l with
  | nil => intro acc _ _; exact ⟨rfl, by simp [val]⟩
  | cons c l ih =>
    intro acc hd hb
    have h1 := isDg_iff.1 (hd c (.head _))
    rw [List.length_cons, Nat.pow_succ] at hb ⊢
    have hp : 1 ≤ 10 ^ l.length := Nat.one_le_pow _ _ (by decide)
    have e : (acc + 1) * (10 ^ l.length * 10) = ((acc + 1) * 10) * 10 ^ l.length := by rw [Nat.mul_comm (10 ^ l.length) 10, Nat.mul_assoc]
    rw [e] at hb ⊢
    have h2 : (acc * 10 + (c.toNat - 48) + 1) * 10 ^ l.length ≤ ((acc + 1) * 10) * 10 ^ l.length := Nat.mul_le_mul_right _ (by omega)
    have h3 : (acc + 1) * 10 ≤ ((acc + 1) * 10) * 10 ^ l.length := Nat.le_mul_of_pos_right _ hp
    obtain ⟨i1, i2⟩ := ih (acc * 10 + (c.toNat - 48)) (fun x hx => hd x (.tail _ hx)) (by omega)
    refine ⟨?_, by rw [val_cons]; omega⟩
    rw [Lib.parseUintM, if_pos h1, if_neg (by omega), if_neg (by omega), i1, val_cons]
theorem val_lt {l : List UInt8} (hd : ∀ c, c ∈ l → isDg c = true) (hl : l.length ≤ 10) : val 0 l < 10 ^ l.length := by
  have hp : 10 ^ l.length ≤ 10 ^ 10 := Nat.pow_le_pow_right (by decide) hl
  have := (parseUintM_dg l 0 hd (by rw [Nat.zero_add, Nat.one_mul]; omega)).2
  omega
theorem val_lt10 {l : List UInt8} (hd : ∀ c, c ∈ l → isDg c = true) (hl : l.length ≤ 10) : val 0 l < 10000000000 := by
  have := val_lt hd hl
  have hp : 10 ^ l.length ≤ 10 ^ 10 := Nat.pow_le_pow_right (by decide) hl
  omega
theorem parse_ok {l : List UInt8} (h : parOk l = true) : Lib.parseIntB 64 l = .ok (parV l) := by
  unfold parOk at h
  rw [Bool.and_eq_true, Bool.and_eq_true, decide_eq_true_iff, decide_eq_true_iff, List.all_eq_true] at h
  obtain ⟨⟨h1, h2⟩, h3⟩ := h
  have hp : 10 ^ (dgsB l).length ≤ 10 ^ 10 := Nat.pow_le_pow_right (by decide) h2
  have e := (parseUintM_dg (dgsB l) 0 h3 (by rw [Nat.zero_add, Nat.one_mul]; omega)).1
  have hv := val_lt10 h3 h2
  have eb : Lib.parseUintB 64 (dgsB l) = .ok (val 0 (dgsB l)) := by
    unfold Lib.parseUintB
    rw [if_neg (by intro hc; rw [hc] at h1; simp at h1)]
    exact e
  cases l with
  | nil => simp [dgsB, sgnB] at h1
  | cons c r =>
    unfold Lib.parseIntB
    simp only
    have hd : (if c.toNat = 43 ∨ c.toNat = 45 then r else c :: r) = dgsB (c :: r) := by
      unfold dgsB sgnB
      by_cases c1 : c.toNat = 45
      · simp [c1]
      · by_cases c2 : c.toNat = 43
        · have hx : c ∈ dgsB (c :: r) := by simp [dgsB, sgnB, c1]
          have := isDg_iff.1 (h3 c hx)
          omega
        · simp [c1, c2]
    rw [hd, eb]
    simp only
    unfold parV sgnB
    by_cases c1 : c.toNat = 45
    · simp only [c1, not_true, false_and, if_false, true_and, decide_true, if_true]
      rw [if_neg (by omega)]
    · simp only [c1, not_false_iff, true_and, false_and, if_false, decide_false, Bool.false_eq_true]
      rw [if_neg (by omega)]
theorem parOk_itoa {v : Int} (h0 : -1000000000 ≤ v) (h1 : v ≤ 1000000000) : parOk (Lib.itoa v) = true := by
  have key : ∀ u : Nat, u ≤ 1000000000 → ((decide (1 ≤ (Lib.decDigits u).length) && decide ((Lib.decDigits u).length ≤ 10)) && (Lib.decDigits u).all isDg) = true := by
    intro u hu
    have := decDigits_len 9 u (by omega)
    rw [Bool.and_eq_true, Bool.and_eq_true, decide_eq_true_iff, decide_eq_true_iff, List.all_eq_true]
    exact ⟨⟨this.1, this.2⟩, decDigits_dg u⟩
  unfold Lib.itoa
  split
  · have e : dgsB (45 :: Lib.decDigits v.natAbs) = Lib.decDigits v.natAbs := by simp [dgsB, sgnB]
    unfold parOk
    rw [e]
    exact key _ (by omega)
  · have e : dgsB (Lib.decDigits v.toNat) = Lib.decDigits v.toNat := by
      unfold dgsB
      have : sgnB (Lib.decDigits v.toNat) = false := by
        have hd := decDigits_dg v.toNat
        cases hc : Lib.decDigits v.toNat with
        | nil => rfl
        | cons c r =>
          rw [hc] at hd
          have := isDg_iff.1 (hd c (.head _))
          unfold sgnB
          simp only [decide_eq_false_iff_not]
          omega
      rw [this]; rfl
    unfold parOk
    rw [e]
    exact key _ (by omega)
/-- Whether a text is a number's, by the reference. -/
def isNum (l : List UInt8) : Bool := parOk l && (inB (-1000000000) 1000000000 (parV l) && decide (itB (parV l) = bs l))
theorem numP_bs (l : List UInt8) : numP (bs l) = if isNum l then (parV l, 0) else (0, 5) := by
  have hl : (bs l).data.toList = l := by simp
  unfold numP isNum
  rw [hl]
  cases hp : parOk l with
  | true =>
    rw [parse_ok hp]
    simp only [Bool.true_and]
  | false =>
    simp only [Bool.false_and, Bool.false_eq_true, if_false]
    cases h : Lib.parseIntB 64 l with
    | ok v =>
      simp only
      rw [if_neg ?_]
      intro hc
      rw [Bool.and_eq_true, decide_eq_true_iff] at hc
      have hb := (@inB_iff lam0 _ _ _).1 hc.1
      have : l = Lib.itoa v := (bs_inj hc.2).symm
      rw [this, parOk_itoa hb.1 hb.2] at hp
      cases hp
    | _ => rfl
end Go.Proofs.YtohmmedckdialaaDoor.E
