/- Texts: bytes of a text, trimming by a set of bytes, names. -/
import Derived.Test.YtmmhaiidcfgbbaaGreatDoorP1
import Derived.Test.YtmmhaiidcfgbbaaGreatDoorGZ
set_option linter.unusedSectionVars false
set_option linter.unusedSimpArgs false
set_option linter.unusedVariables false
namespace Go.Proofs.YtmmhaiidcfgbbaaGreatDoor.E
open Go Go.RowKit
variable [L : Lam]
variable {σ : AH} {R : AEnd → AH → Prop}
abbrev u8v (n : Int) : AV := .val (.int .u8 n)
/-- A text of a list of bytes. -/
abbrev bs (l : List UInt8) : ByteArray := ⟨l.toArray⟩
abbrev by8 (s : ByteArray) : List UInt8 := s.data.toList
theorem bs_by8 (s : ByteArray) : bs (by8 s) = s := by cases s; simp
theorem size_by8 (s : ByteArray) : s.size = (by8 s).length := by show s.data.size = s.data.toList.length; simp
theorem size_bs (l : List UInt8) : (bs l).size = l.length := by show l.toArray.size = l.length; simp
theorem abd_nat (i d : Nat) : abd (some (iv (i : Nat))) d = some i := by simp [abd]
theorem by8_bs (l : List UInt8) : by8 (bs l) = l := by simp
theorem ga_bs {l : List UInt8} {i : Nat} (h : i < l.length) : (bs l)[i]? = some l[i] := by
  have h' : i < (bs l).size := by rw [size_bs]; exact h
  rw [getElem?_pos (bs l) i h']
  rfl
theorem idxStr_bs {l : List UInt8} {i : Nat} (h : i < l.length) : idxStr (str (bs l)) (.val (.int .i64 (i : Int))) = some (u8v (l[i].toNat : Nat)) := by
  simp only [idxStr, Int.toNat_natCast, ga_bs h]
  rw [if_pos (by omega)]
theorem slc_from1 {b : UInt8} {l : List UInt8} : slcStr (str (bs (b :: l))) (some (.val (.int .i64 1))) none = some (str (bs l)) := by
  have e1 : abd (some (AV.val (.int .i64 1))) 0 = some 1 := rfl
  have e2 : abd none (bs (b :: l)).size = some (bs (b :: l)).size := rfl
  simp only [slcStr, e1, e2]
  rw [if_pos ⟨by rw [size_bs]; simp, Nat.le_refl _⟩]
  congr 3
  apply ByteArray.ext
  rw [ByteArray.data_extract, size_bs]; simp
theorem slc_init {b : UInt8} {l : List UInt8} : slcStr (str (bs (l ++ [b]))) none (some (.val (.int .i64 (l.length : Nat)))) = some (str (bs l)) := by
  have e1 : abd none 0 = some 0 := rfl
  have e2 : abd (some (AV.val (.int .i64 ((l.length : Nat) : Int)))) (bs (l ++ [b])).size = some l.length := abd_nat _ _
  simp only [slcStr, e1, e2]
  rw [if_pos ⟨Nat.zero_le _, by rw [size_bs]; simp⟩]
  congr 3
  apply ByteArray.ext
  rw [ByteArray.data_extract]; simp
theorem ibin_cmp8 (a b : Int) : ibin .geq (u8v a) (u8v b) = some (bv (decide (b ≤ a))) ∧ ibin .leq (u8v a) (u8v b) = some (bv (decide (a ≤ b))) ∧ ibin .lss (u8v a) (u8v b) = some (bv (decide (a < b))) ∧ ibin .gtr (u8v a) (u8v b) = some (bv (decide (b < a))) ∧
    ibin .eql (u8v a) (u8v b) = some (bv (decide (a = b))) ∧ ibin .neq (u8v a) (u8v b) = some (bv (!decide (a = b))) := ⟨id rfl, id rfl, id rfl, id rfl, id rfl, id rfl⟩
/-- The bytes of a set, as cells. -/
theorem lod_rop {cs : List AV} {off : Nat} {σ : AH} : lod (.rop cs off) σ = cs[off]? := by
  unfold lod acellsAt
  simp only []
  rcases Nat.lt_or_ge off cs.length with h | h
  · rw [List.drop_eq_getElem_cons h, List.getElem?_eq_getElem h]
  · rw [List.drop_eq_nil_of_le h, List.getElem?_eq_none h]
theorem dropWhile_nil (p : UInt8 → Bool) : ∀ l : List UInt8, l.dropWhile p = [] ↔ ∀ b, b ∈ l → p b = true := by
  intro l
  induction l with
  | nil => simp
  | cons b l ih =>
    rw [List.dropWhile_cons]
    by_cases h : p b = true
    · rw [if_pos h, ih]; simp [h]
    · rw [if_neg h]; simp [h]
theorem any_contains (c : List UInt8) (b : UInt8) : (c.any fun x => x.toNat == b.toNat) = c.contains b := by
  induction c with
  | nil => rfl
  | cons x c ih =>
    rw [List.any_cons, List.contains_cons, ih]
    congr 1
    by_cases e : x = b
    · subst e; simp
    · have h1 : x.toNat ≠ b.toNat := fun h => e (UInt8.toNat_inj.1 h)
      have h2 : (x.toNat == b.toNat) = false := by simpa using h1
      have h3 : (b == x) = false := by simpa using Ne.symm e
      rw [h2, h3]
def setC (c : List UInt8) : List AV := (List.range 256).map fun j => bv (c.any fun b => b.toNat == j)
theorem setC_len (c : List UInt8) : (setC c).length = 256 := by simp [setC]
theorem setC_nil : setC [] = List.replicate 256 (bv false) := by
  unfold setC
  simp only [List.any_nil]
  rw [List.map_const', List.length_range]
theorem setC_at (c : List UInt8) {n : Nat} (h : n < 256) : (setC c)[n]? = some (bv (c.any fun b => b.toNat == n)) := by simp [setC, h]
theorem setC_snoc (c : List UInt8) (b : UInt8) : (setC c).set b.toNat (bv true) = setC (c ++ [b]) := by
  apply List.ext_getElem?
  intro j
  by_cases hj : j < 256
  · rw [setC_at _ hj, List.getElem?_set]
    by_cases e : b.toNat = j
    · rw [if_pos e, if_pos (by rw [setC_len]; exact e ▸ hj)]; simp [e]
    · rw [if_neg e, setC_at _ hj]; simp [e]
  · rw [List.getElem?_eq_none (by rw [List.length_set, setC_len]; omega), List.getElem?_eq_none (by rw [setC_len]; omega)]
theorem u8_lt (b : UInt8) : b.toNat < 256 := b.toNat_lt
theorem c_strings_makeASCIISet {c : List UInt8} (hc : ∀ b, b ∈ c → b.toNat < 128) (hl : c.length ≤ 1000000) (h : R (.ret (.tup [.agg (setC c), bv true])) σ) : acall TP fn_strings_makeASCIISet [str (bs c)] σ R := by
  refine s_strings_makeASCIISet_ok ?_
  unfold s_strings_makeASCIISet
  intro φ hφ
  simp only [List.length_replicate]
  refine lp_for c.length (fun i => (str (bs c), .ptr φ 0 0 0, iv (i : Int), ())) (fun i σ' => σ' = σ.set φ ⟨0, 256, [setC (c.take i)]⟩) rfl (by rw [List.take_zero, setC_nil]) ?_
  rintro i σ' hi rfl R' hR'
  have hF : (σ.set φ ⟨0, 256, [setC (c.take i)]⟩) φ = some ⟨0, 256, [setC (c.take i)]⟩ := AH.set_same ..
  have hsz : (bs c).size = c.length := size_bs c
  simp only [RR, hsz]
  by_cases hlt : i < c.length
  · have g : (i : Int) < (c.length : Int) := by omega
    have hb := hc _ (List.getElem_mem hlt)
    have g2 : ¬ (128 : Int) ≤ ((c[i].toNat : Nat) : Int) := by omega
    have e1 : idxArr 256 1 (.ptr φ 0 0 0) (u8v (c[i].toNat : Nat)) = some (.ptr φ 0 0 c[i].toNat) := by
      simp only [idxArr]
      rw [if_pos ⟨by omega, by omega⟩]; simp
    simp only [g, idxStr_bs hlt, ibin_cmp8, g2, e1, ibin_up hlt (by omega), RR]
    refine sto_fld (sz := 256) (off := c[i].toNat) (i := 0) (cs := setC (c.take i)) (v := bv true) hF rfl (u8_lt _) rfl rfl ?_
    have ht : c.take i ++ [c[i]] = c.take (i + 1) := List.take_append_getElem hlt
    simp only [List.set_cons_zero, AH.set_set, setC_snoc, ht]
    exact hR' hlt _ _ (.refl _) rfl
  · have g : ¬ (i : Int) < (c.length : Int) := by omega
    obtain rfl : i = c.length := by omega
    rw [List.take_length] at hF ⊢
    have e1 := lodA_at (σ := σ.set φ ⟨0, 256, [setC c]⟩) (st := 0) (i := 0) (n := 256) (cs := setC c) hF rfl rfl (setC_len c)
    simp only [g, e1, RR]
    refine sto_own (es := [setC c]) (cs := setC c) hF (by simp) (setC_len c) rfl (setC_len c) ?_ ?_
    · intro x hx
      obtain ⟨j, _, rfl⟩ := List.mem_map.1 hx; rfl
    simp only [List.set_cons_zero, AH.set_set, e1, RR]
    exact aret_sub (sub_set (.refl _) hφ) h
theorem c_strings_asciiSet_contains {c : List UInt8} {b : UInt8} (h : R (.ret (bv (c.contains b))) σ) : acall TP fn_strings_asciiSet_contains [.rop (setC c) 0, u8v (b.toNat : Nat)] σ R := by
  refine s_strings_asciiSet_contains_ok ?_
  unfold s_strings_asciiSet_contains
  have e1 : idxArr 256 1 (.rop (setC c) 0) (u8v (b.toNat : Nat)) = some (.rop (setC c) b.toNat) := by
    have := u8_lt b
    simp only [idxArr]
    rw [if_pos ⟨by omega, by omega⟩]; simp
  have e2 : lod (.rop (setC c) b.toNat) σ = some (bv (c.contains b)) := by
    have hb := u8_lt b
    have hi : b.toNat < (setC c).length := by rw [setC_len]; exact hb
    have e := setC_at c hb
    rw [lod_rop, e, any_contains]
  simp only [RR, e1, e2]
  exact ret_here h
def trimL (p : UInt8 → Bool) (l : List UInt8) : List UInt8 := l.dropWhile p
def trimR (p : UInt8 → Bool) (l : List UInt8) : List UInt8 := (l.reverse.dropWhile p).reverse
theorem trimR_snoc (p : UInt8 → Bool) (l : List UInt8) (b : UInt8) : trimR p (l ++ [b]) = if p b then trimR p l else l ++ [b] := by
  unfold trimR
  rw [List.reverse_append]
  simp only [List.reverse_cons, List.reverse_nil, List.nil_append, List.singleton_append, List.dropWhile_cons]
  split <;> simp
theorem trim_nil (p : UInt8 → Bool) : ∀ l : List UInt8, trimL p (trimR p l) = [] ↔ l.all p = true := by
  intro l
  have hR : trimR p l = [] ↔ l.all p = true := by
    unfold trimR
    rw [List.reverse_eq_nil_iff, dropWhile_nil]
    simp [List.all_eq_true]
  constructor
  · intro h
    unfold trimL at h
    rw [dropWhile_nil] at h
    refine hR.1 ?_
    by_cases e : trimR p l = []
    · exact e
    · exfalso
      have hne : l.reverse.dropWhile p ≠ [] := fun h' => e (by unfold trimR; rw [h']; rfl)
      have h1 := List.head_dropWhile_not p hne
      have h2 := h ((l.reverse.dropWhile p).head hne) (by unfold trimR; rw [List.mem_reverse]; exact List.head_mem hne)
      rw [h1] at h2; cases h2
  · intro h
    rw [hR.2 h]; rfl
theorem c_strings_trimRightASCII {c l : List UInt8} (hl : l.length ≤ 1000000) (h : R (.ret (str (bs (trimR c.contains l)))) σ) : acall TP fn_strings_trimRightASCII [str (bs l), .rop (setC c) 0] σ R := by
  refine s_strings_trimRightASCII_ok ?_
  unfold s_strings_trimRightASCII
  refine jn_of (fun x σ' => σ' = σ ∧ x = (str (bs (trimR c.contains l)), ())) ?_ ?_
  · rintro x σ' ⟨rfl, rfl⟩; exact ret_here h
  intro k hk
  refine lp_by (fun n x σ' => ∃ l', x = (str (bs l'), .rop (setC c) 0, ()) ∧ σ' = σ ∧ l'.length = n ∧ n ≤ 1000000 ∧ trimR c.contains l' = trimR c.contains l) l.length ⟨l, rfl, rfl, rfl, hl, rfl⟩ ?_
  rintro n x σ' ⟨l', rfl, rfl, hn, hn2, ht⟩ R' hR'
  have hsz : (bs l').size = l'.length := size_bs l'
  simp only [RR, hsz]
  rcases List.eq_nil_or_concat l' with rfl | ⟨m, b, rfl⟩
  · have e : trimR c.contains l = [] := ht.symm
    have g : ¬ (0 : Int) < (([] : List UInt8).length : Int) := by simp
    simp only [g, RR]
    exact hk _ _ ⟨rfl, by rw [e]; rfl⟩
  · rw [List.concat_eq_append] at ht hn hsz ⊢
    have hlen : (m ++ [b]).length = m.length + 1 := by simp
    have g : (0 : Int) < ((m ++ [b]).length : Int) := by omega
    have e1 : ibin .sub (.val (.int .i64 ((m ++ [b]).length : Int))) (.val (.int .i64 1)) = some (iv (m.length : Nat)) := by rw [ibin_sub (by omega) (by omega)]; congr 3; omega
    have e2 : idxStr (str (bs (m ++ [b]))) (.val (.int .i64 (m.length : Nat))) = some (u8v (b.toNat : Nat)) := by
      rw [idxStr_bs (by omega)]; simp
    rw [trimR_snoc] at ht
    simp only [g, e1, e2, hsz, RR]
    refine c_strings_asciiSet_contains ?_
    by_cases hb : c.contains b = true
    · rw [if_pos hb] at ht
      simp only [hb, e1, slc_init, RR]
      exact hR' _ _ m.length σ' (by omega) (.refl _) ⟨m, rfl, rfl, rfl, by omega, ht⟩
    · rw [if_neg hb] at ht
      have hb' : c.contains b = false := by simpa using hb
      simp only [hb', RR]
      exact hk _ _ ⟨rfl, by rw [ht]; rfl⟩
theorem c_strings_trimLeftASCII {c l : List UInt8} (hl : l.length ≤ 1000000) (h : R (.ret (str (bs (trimL c.contains l)))) σ) : acall TP fn_strings_trimLeftASCII [str (bs l), .rop (setC c) 0] σ R := by
  refine s_strings_trimLeftASCII_ok ?_
  unfold s_strings_trimLeftASCII
  refine jn_of (fun x σ' => σ' = σ ∧ x = (str (bs (trimL c.contains l)), ())) ?_ ?_
  · rintro x σ' ⟨rfl, rfl⟩; exact ret_here h
  intro k hk
  refine lp_by (fun n x σ' => ∃ l', x = (str (bs l'), .rop (setC c) 0, ()) ∧ σ' = σ ∧ l'.length = n ∧ n ≤ 1000000 ∧ trimL c.contains l' = trimL c.contains l) l.length ⟨l, rfl, rfl, rfl, hl, rfl⟩ ?_
  rintro n x σ' ⟨l', rfl, rfl, hn, hn2, ht⟩ R' hR'
  have hsz : (bs l').size = l'.length := size_bs l'
  simp only [RR, hsz]
  match l', ht, hn, hsz with
  | [], ht, hn, hsz =>
    have e : trimL c.contains l = [] := ht.symm
    have g : ¬ (0 : Int) < (([] : List UInt8).length : Int) := by simp
    simp only [g, RR]
    exact hk _ _ ⟨rfl, by rw [e]; rfl⟩
  | b :: m, ht, hn, hsz =>
    have g : (0 : Int) < ((b :: m).length : Int) := by rw [List.length_cons]; omega
    have e2 : idxStr (str (bs (b :: m))) (.val (.int .i64 0)) = some (u8v (b.toNat : Nat)) := idxStr_bs (l := b :: m) (i := 0) (by simp)
    unfold trimL at ht
    rw [List.dropWhile_cons] at ht
    simp only [g, e2, RR]
    refine c_strings_asciiSet_contains ?_
    by_cases hb : c.contains b = true
    · rw [if_pos hb] at ht
      simp only [hb, slc_from1, RR]
      exact hR' _ _ m.length σ' (by simp at hn; omega) (.refl _) ⟨m, rfl, rfl, rfl, by simp at hn; omega, ht⟩
    · rw [if_neg hb] at ht
      have hb' : c.contains b = false := by simpa using hb
      simp only [hb', RR]
      refine hk _ _ ⟨rfl, ?_⟩
      show (str (bs (b :: m)), ()) = (str (bs (trimL c.contains l)), ())
      unfold trimL; rw [← ht]
/-- Trimming by a set of bytes below 128. -/
theorem c_strings_Trim {c l : List UInt8} (hc : ∀ b, b ∈ c → b.toNat < 128) (hc2 : 2 ≤ c.length) (hcl : c.length ≤ 1000000) (hl : l.length ≤ 1000000) (h : R (.ret (str (bs (trimL c.contains (trimR c.contains l))))) σ) : acall TP fn_strings_Trim [str (bs l), str (bs c)] σ R := by
  refine s_strings_Trim_ok ?_
  unfold s_strings_Trim
  have hsz : (bs c).size = c.length := size_bs c
  have ce : ¬ bs c = (⟨#[]⟩ : ByteArray) := by
    intro e
    have := congrArg ByteArray.size e
    rw [size_bs] at this
    change c.length = 0 at this; omega
  have g1 : ¬ ((c.length : Int) = 1) := by omega
  by_cases le : l = []
  · subst le
    have e : (bs ([] : List UInt8)) = (⟨#[]⟩ : ByteArray) := rfl
    simp only [e, sbin_eql', RR]
    exact ret_here h
  · have e : ¬ bs l = (⟨#[]⟩ : ByteArray) := by
      intro e
      have := congrArg ByteArray.size e
      rw [size_bs] at this
      exact le (List.eq_nil_of_length_eq_zero this)
    simp only [e, ce, sbin_eql', hsz, g1, RR]
    refine c_strings_makeASCIISet hc hcl ?_
    simp only [aext_tup, List.getElem?_cons_zero, List.getElem?_cons_succ, RR]
    refine new_frz rfl (setC_len c) List.length_replicate (fun y hy => by obtain ⟨j, _, rfl⟩ := List.mem_map.1 hy; rfl) ?_
    refine c_strings_trimRightASCII hl ?_
    simp only [RR]
    refine c_strings_trimLeftASCII ?_ ?_
    · have : (trimR c.contains l).length ≤ l.length := by
        unfold trimR
        rw [List.length_reverse]
        have := (List.dropWhile_sublist c.contains (l := l.reverse)).length_le
        rwa [List.length_reverse] at this
      omega
    simp only [RR]
    exact ret_here h
end Go.Proofs.YtmmhaiidcfgbbaaGreatDoor.E
