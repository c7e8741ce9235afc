/- Numbers, names, kinds. -/
import Derived.Test.YtmmhaiidcfgbbaaGreatDoorP2
set_option linter.unusedSectionVars false
set_option linter.unusedSimpArgs false
set_option linter.unusedVariables false
namespace Go.Proofs.YtmmhaiidcfgbbaaGreatDoor.E
open Go Go.RowKit
variable [L : Lam]
variable {σ : AH} {R : AEnd → AH → Prop}
def inB (lo hi x : Int) : Bool := decide (lo ≤ x) && decide (x ≤ hi)
theorem inB_iff {lo hi x : Int} : inB lo hi x = true ↔ lo ≤ x ∧ x ≤ hi := by simp [inB]
theorem c_impl_in {x lo hi : Int} (h : R (.ret (bv (inB lo hi x))) σ) : acall TP fn_impl_in [iv x, iv lo, iv hi] σ R := by
  refine s_impl_in_ok ?_
  unfold s_impl_in
  unfold inB at h
  by_cases h1 : lo ≤ x
  · simp only [h1, RR, Bool.true_and] at h ⊢; exact ret_here h
  · simp only [h1, RR, Bool.false_and] at h ⊢; exact ret_here h
theorem c_spec_l1In {x lo hi : Int} (h : R (.ret (bv (inB lo hi x))) σ) : acall TP fn_spec_l1In [iv x, iv lo, iv hi] σ R := by
  refine s_spec_l1In_ok ?_
  unfold s_spec_l1In
  unfold inB at h
  by_cases h1 : lo ≤ x
  · simp only [h1, RR, Bool.true_and] at h ⊢; exact ret_here h
  · simp only [h1, RR, Bool.false_and] at h ⊢; exact ret_here h
def numB (n : Int) : Bool := inB (-1000000000) 1000000000 n
theorem c_spec_l1Num {n : Int} (h : R (.ret (bv (numB n))) σ) : acall TP fn_spec_l1Num [iv n] σ R := s_spec_l1Num_ok (c_spec_l1In (ret_here h))
theorem c_impl_NumFault {n : Int} (h : R (.ret (iv (if numB n then 0 else 3))) σ) : acall TP fn_impl_NumFault [iv n] σ R := by
  refine s_impl_NumFault_ok (c_impl_in ?_)
  change R (.ret (iv (if inB (-1000000000) 1000000000 n then 0 else 3))) σ at h
  cases c : inB (-1000000000) 1000000000 n <;> rw [c] at h <;> simp only [RR] <;> exact ret_here h
def cutset : List UInt8 := [97, 98, 99, 100, 101, 102, 103, 104, 105, 106, 107, 108, 109, 110, 111, 112, 113, 114, 115, 116, 117, 118, 119, 120, 121, 122, 43, 45, 42, 47, 60, 61, 63, 33]
def symB (b : UInt8) : Bool := cutset.contains b
/-- Is a text a name? -/
def symOk (s : ByteArray) : Bool := inB 1 12 s.size && (by8 s).all symB
theorem c_impl_SymFault {s : ByteArray} (h : R (.ret (iv (if symOk s then 0 else 5))) σ) : acall TP fn_impl_SymFault [str s] σ R := by
  refine s_impl_SymFault_ok ?_
  unfold s_impl_SymFault
  unfold symOk at h
  simp only [jn, RR]
  refine c_impl_in ?_
  cases c : inB 1 12 (s.size : Int)
  · rw [c] at h
    simp only [RR]; exact ret_here h
  · rw [c] at h
    have hi := inB_iff.1 c
    have hl : (by8 s).length ≤ 1000000 := by rw [← size_by8]; omega
    simp only [RR]
    rw [← bs_by8 s]
    refine c_strings_Trim (c := cutset) (by decide) (by decide) (by decide) hl ?_
    have ht := trim_nil symB (by8 s)
    have e : (bs (trimL cutset.contains (trimR cutset.contains (by8 s))) = (⟨#[]⟩ : ByteArray)) ↔ (by8 s).all symB = true := by
      rw [← ht]
      constructor
      · intro e
        have := congrArg (fun b : ByteArray => b.data.toList) e
        exact this
      · intro e
        have e : trimL cutset.contains (trimR cutset.contains (by8 s)) = [] := e
        rw [e]
    cases ha : (by8 s).all symB
    · rw [ha] at h e
      have e : ¬ bs (trimL cutset.contains (trimR cutset.contains (by8 s))) = (⟨#[]⟩ : ByteArray) := fun h => by have := e.1 h; cases this
      simp only [sbin_neq', e, RR]; exact ret_here h
    · rw [ha] at h e
      have e := e.2 rfl
      simp only [sbin_neq', e, RR]; exact ret_here h
def signs : List UInt8 := [43, 45, 42, 47, 60, 61, 63, 33]
theorem symB_eq (b : UInt8) : symB b = ((decide (97 ≤ b.toNat) && decide (b.toNat ≤ 122)) || signs.contains b) := by
  have key : ∀ n : Fin 256, symB (UInt8.ofNat n.val) = ((decide (97 ≤ n.val) && decide (n.val ≤ 122)) || signs.contains (UInt8.ofNat n.val)) := by decide +kernel
  have hk := key ⟨b.toNat, b.toNat_lt⟩
  rw [UInt8.ofNat_toNat] at hk
  exact hk
theorem c_spec_l2Byte {b : UInt8} (h : R (.ret (bv (symB b))) σ) : acall TP fn_spec_l2Byte [u8v (b.toNat : Nat)] σ R := by
  refine s_spec_l2Byte_ok ?_
  unfold s_spec_l2Byte
  rw [symB_eq] at h
  by_cases c : 97 ≤ b.toNat ∧ b.toNat ≤ 122
  · have g1 : (97 : Int) ≤ ((b.toNat : Nat) : Int) := by omega
    have g2 : ((b.toNat : Nat) : Int) ≤ 122 := by omega
    simp only [ibin_cmp8, g1, g2, RR]
    rw [decide_eq_true c.1, decide_eq_true c.2] at h
    exact ret_here h
  have e : (decide (97 ≤ b.toNat) && decide (b.toNat ≤ 122)) = false := by simpa using c
  rw [e, Bool.false_or] at h
  have loop : ∀ (i : Nat) (_ : i ≤ signs.length) (_ : ∀ j, j < i → signs[j]? ≠ some b) (R' : Tup [0, 3, 4] → AH → Prop), (i < signs.length → signs[i]? ≠ some b → R' (u8v (b.toNat : Nat), str (bs signs), iv ((i + 1 : Nat) : Int), ()) σ) →
      (og (lenStr (str (bs signs))) fun v13 => og (ibin .lss (iv (i : Int)) v13) fun v14 => apick v14
        (og (idxStr (str (bs signs)) (iv (i : Int))) fun v19 => og (ibin .eql v19 (u8v (b.toNat : Nat))) fun v21 => apick v21 (aret (bv true) σ R)
          (og (ibin .add (iv (i : Int)) (.val (.int .i64 1))) fun v16 => R' (u8v (b.toNat : Nat), str (bs signs), v16, ()) σ)) (aret (bv false) σ R)) := by
    intro i hi hj R' hR'
    have hsz : (bs signs).size = signs.length := size_bs _
    have hsg : signs.length = 8 := rfl
    by_cases hlt : i < signs.length
    · have g : (i : Int) < (signs.length : Int) := by omega
      simp only [RR, hsz, g, idxStr_bs hlt, ibin_cmp8, ibin_up hlt (by omega)]
      have e1 := List.getElem?_eq_getElem hlt
      by_cases q : signs[i] = b
      · have q1 : ((signs[i].toNat : Nat) : Int) = ((b.toNat : Nat) : Int) := by rw [q]
        simp only [q1, RR]
        refine ret_here ?_
        rw [List.contains_iff_mem.2 (List.mem_of_getElem? (e1.trans (congrArg some q)))] at h
        exact h
      · have q1 : ¬ ((signs[i].toNat : Nat) : Int) = ((b.toNat : Nat) : Int) := fun e => q (UInt8.toNat_inj.1 (by omega))
        simp only [q1, RR]
        exact hR' hlt (by rw [e1]; exact fun e => q (Option.some.inj e))
    · have g : ¬ (i : Int) < (signs.length : Int) := by omega
      simp only [RR, hsz, g]
      refine ret_here ?_
      have : signs.contains b = false := by
        rw [Bool.eq_false_iff]
        intro hc
        obtain ⟨j, hj1, hj2⟩ := List.getElem_of_mem (List.contains_iff_mem.1 hc)
        exact hj j (by omega) (by rw [List.getElem?_eq_getElem hj1, hj2])
      rw [this] at h; exact h
  have go : lp (X := Tup [0, 3, 4]) (fun R1 y1 σ => og (lenStr y1.2.1) fun v13 => og (ibin .lss y1.2.2.1 v13) fun v14 => apick v14
        (og (idxStr y1.2.1 y1.2.2.1) fun v19 => og (ibin .eql v19 y1.1) fun v21 => apick v21 (aret (bv true) σ R)
          (og (ibin .add y1.2.2.1 (.val (.int .i64 1))) fun v16 => R1 (y1.1, y1.2.1, v16, ()) σ)) (aret (bv false) σ R)) (u8v (b.toNat : Nat), str (bs signs), .val (.int .i64 0), ()) σ := by
    refine lp_same signs.length (fun i => (u8v (b.toNat : Nat), str (bs signs), iv (i : Int), ())) (fun i => ∀ j, j < i → signs[j]? ≠ some b) rfl (fun j hj => by omega) ?_
    intro i hi hj R' hR'
    refine loop i hi hj R' fun hlt hne => hR' hlt ?_ σ (.refl _)
    intro j hj'
    rcases Nat.lt_or_ge j i with h1 | h1
    · exact hj j h1
    · obtain rfl : j = i := by omega
      exact hne
  by_cases h1 : (97 : Int) ≤ ((b.toNat : Nat) : Int)
  · have g2 : ¬ ((b.toNat : Nat) : Int) ≤ 122 := by omega
    simp only [ibin_cmp8, h1, g2, RR]
    exact go
  · simp only [ibin_cmp8, h1, RR]
    exact go
/-- A round that is the last, or one of those that go on. -/
theorem all_below {i : Nat} {Q : Nat → Prop} (h : ∀ j, j < i → Q j) (hi : Q i) : ∀ j, j < i + 1 → Q j := by
  intro j hj
  rcases Nat.lt_or_ge j i with h1 | h1
  · exact h j h1
  · obtain rfl : j = i := by omega
    exact hi
theorem c_spec_l2Sym {s : ByteArray} (hs : s.size ≤ 1099511627776) (h : R (.ret (bv (symOk s))) σ) : acall TP fn_spec_l2Sym [str s] σ R := by
  refine s_spec_l2Sym_ok ?_
  unfold s_spec_l2Sym
  unfold symOk at h
  refine lp_same (by8 s).length (fun i => (str s, iv (i : Int), ())) (fun i => ∀ j (hj : j < (by8 s).length), j < i → symB (by8 s)[j] = true) rfl (fun j _ hj => by omega) ?_
  intro i hi hj R' hR'
  have hsz := size_by8 s
  by_cases hlt : i < (by8 s).length
  · have g : (i : Int) < (s.size : Int) := by omega
    have e1 : idxStr (str s) (iv (i : Int)) = some (u8v ((by8 s)[i].toNat : Nat)) := by
      have := idxStr_bs hlt
      rwa [bs_by8] at this
    simp only [RR, g, e1]
    refine c_spec_l2Byte ?_
    cases c : symB (by8 s)[i]
    · simp only [RR]
      refine ret_here ?_
      have : (by8 s).all symB = false := by
        rw [Bool.eq_false_iff]
        intro ha
        have := List.all_eq_true.1 ha _ (List.getElem_mem hlt)
        rw [c] at this; cases this
      rw [this, Bool.and_false] at h; exact h
    · simp only [ibin_up hlt (by omega), RR]
      refine hR' hlt ?_ σ (.refl _)
      intro j hj' hlt'
      rcases Nat.lt_or_ge j i with h1 | h1
      · exact hj j hj' h1
      · obtain rfl : j = i := by omega
        exact c
  · have g : ¬ (i : Int) < (s.size : Int) := by omega
    simp only [RR, g]
    refine c_spec_l1In ?_
    simp only [RR]
    refine ret_here ?_
    have : (by8 s).all symB = true := by
      rw [List.all_eq_true]
      intro b hb
      obtain ⟨j, hj1, rfl⟩ := List.getElem_of_mem hb
      exact hj j hj1 (by omega)
    rw [this, Bool.and_true] at h; exact h
def kindF (kind num : Int) (name : ByteArray) : Int :=
  if kind = 1 then (if numB num then 0 else 3) else if kind = 2 then (if inB 0 1 num then 0 else 3) else if kind = 3 then (if symOk name then 0 else 5) else 0
theorem c_impl_kindFault {kind n : Int} {s : ByteArray} (h : R (.ret (iv (kindF kind n s))) σ) : acall TP fn_impl_kindFault [iv kind, iv 1, iv 3, iv 2, iv n, str s] σ R := by
  refine s_impl_kindFault_ok ?_
  unfold s_impl_kindFault
  unfold kindF at h
  simp only [jn, RR]
  by_cases c1 : kind = 1
  · simp only [c1, RR]
    rw [if_pos c1] at h
    refine c_impl_NumFault ?_
    simp only [RR]; exact ret_here h
  rw [if_neg c1] at h
  simp only [c1, RR]
  by_cases c2 : kind = 2
  · simp only [c2, RR]
    rw [if_pos c2] at h
    refine c_impl_in ?_
    cases c : inB 0 1 n <;> rw [c] at h <;> simp only [RR] <;> exact ret_here h
  rw [if_neg c2] at h
  simp only [c2, RR]
  by_cases c3 : kind = 3
  · simp only [c3, RR]
    rw [if_pos c3] at h
    refine c_impl_SymFault ?_
    simp only [RR]; exact ret_here h
  rw [if_neg c3] at h
  simp only [c3, RR]
  exact ret_here h
end Go.Proofs.YtmmhaiidcfgbbaaGreatDoor.E
