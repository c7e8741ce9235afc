/- Words of a setting's text; numbers read from words: plain law. -/
import Derived.Test.YtohmmedckdialaaDoorC2a
import Derived.Lib.SplitLaws
import Derived.Lib.ParseIntB
import Derived.Lib.ItoaNum
set_option linter.unusedSectionVars false
set_option linter.unusedSimpArgs false
set_option linter.unusedVariables false
namespace Go.Proofs.YtohmmedckdialaaDoor.E
open Go Go.RowKit
variable [L : Lam]
/-! ### splitting at one byte -/
theorem occ_ne {c x : UInt8} {l r : List UInt8} {j : Nat} (e : l.drop j = x :: r) (h : c ≠ x) : Lib.occAt l [c] j = false := by
  unfold Lib.occAt
  rw [e]
  show (c == x && [].isPrefixOf r) = false
  rw [beq_eq_false_iff_ne.2 h]
  rfl
theorem index_at {c : UInt8} {a r : List UInt8} (h : c ∉ a) : Lib.index (a ++ c :: r) [c] = (a.length : Nat) := by
  refine Lib.index_first (by simp) ?_ ?_
  · simp [Lib.occAt]
  · intro j hj
    have e : (a ++ c :: r).drop j = a[j] :: (a ++ c :: r).drop (j + 1) := by
      rw [List.drop_eq_getElem_cons (by simp; omega), List.getElem_append_left hj]
    exact occ_ne e fun e => h (e ▸ List.getElem_mem hj)
theorem index_no {c : UInt8} {a : List UInt8} (h : c ∉ a) : Lib.index a [c] = -1 := by
  refine Lib.index_none fun j hj => ?_
  by_cases e : j < a.length
  · exact occ_ne (List.drop_eq_getElem_cons e) fun e => h (e ▸ List.getElem_mem _)
  · unfold Lib.occAt
    rw [List.drop_eq_nil_of_le (by omega)]; rfl
def lpc (c : UInt8) (l : List UInt8) : List (List UInt8) := Lib.splitK [c] 0 (Lib.count l [c]) l
theorem lpc_cons {c : UInt8} {a r : List UInt8} (h : c ∉ a) : lpc c (a ++ c :: r) = a :: lpc c r := by
  have e := index_at (r := r) h
  have e1 : (a ++ c :: r).drop (a.length + 1) = r := by rw [← List.drop_drop]; simp
  unfold lpc
  rw [Lib.count_hit (by simp) e, Nat.add_comm, Lib.splitK, e]
  have e2 : ((a.length : Nat) : Int).toNat = a.length := by omega
  rw [if_neg (by simp), e2]
  simp [e1]
theorem lpc_end {c : UInt8} {a : List UInt8} (h : c ∉ a) : lpc c a = [a] := by
  unfold lpc
  rw [Lib.count_miss (index_no h)]
  rfl
/-- The pieces of a text between bytes. -/
def pcs (sep s : ByteArray) : List ByteArray := Lib.splitB sep 0 (Lib.countB s sep) s
theorem pcs_data (c : UInt8) (s : ByteArray) : (pcs ⟨#[c]⟩ s).map (·.data.toList) = lpc c s.data.toList := Lib.splitB_data ⟨#[c]⟩ 0 _ s
theorem pcs_length (sep s : ByteArray) (h : 1 ≤ sep.size) : (pcs sep s).length = Lib.countB s sep + 1 := Lib.splitB_all sep h 0 _ s rfl
theorem splitB_le (sep : ByteArray) : ∀ (k : Nat) (s x : ByteArray), x ∈ Lib.splitB sep 0 k s → x.size ≤ s.size := by
  intro k
  induction k with
  | zero => intro s x h; simp [Lib.splitB] at h; subst h; exact Nat.le_refl _
  | succ k ih =>
    intro s x h
    unfold Lib.splitB at h
    split at h
    · simp at h; subst h; exact Nat.le_refl _
    · rcases List.mem_cons.1 h with rfl | h
      · rw [ByteArray.size_extract]; omega
      · have := ih _ _ h
        rw [ByteArray.size_extract] at this
        omega
theorem pcs_le {sep s x : ByteArray} (h : x ∈ pcs sep s) : x.size ≤ s.size := splitB_le sep _ _ _ h
theorem bytes_of_lists : ∀ {xs ys : List ByteArray}, xs.map (·.data.toList) = ys.map (·.data.toList) → xs = ys := by
  intro xs
  induction xs with
  | nil => intro ys h; cases ys <;> simp at h ⊢
  | cons x xs ih =>
    intro ys h
    cases ys with
    | nil => simp at h
    | cons y ys =>
      simp only [List.map_cons, List.cons.injEq] at h
      rw [ih h.2]
      have : x = y := by
        cases x with | mk dx => cases y with | mk dy =>
        have := h.1
        simp only at this
        rw [Array.toList_inj] at this
        rw [this]
      rw [this]
abbrev wdSeg : ByteArray := ⟨#[115, 101, 103]⟩
abbrev wdTab : ByteArray := ⟨#[116, 97, 98, 108, 101]⟩
set_option maxRecDepth 100000 in
theorem dig_no : ∀ n, n < 100 → (32 : UInt8) ∉ (dig n).data.toList := by decide +kernel
theorem pcs_cfgT {s t : Nat} (hs : s < 100) (ht : t < 100) (p q : Bool) : pcs wSp (cfgT s t p q) = [wdSeg, dig s, wdTab, dig t, cond p wPeep wPlain, cond q wCache wLook] := by
  refine bytes_of_lists ?_
  rw [pcs_data]
  have e : (cfgT s t p q).data.toList = wdSeg.data.toList ++ 32 :: ((dig s).data.toList ++ 32 :: (wdTab.data.toList ++ 32 :: ((dig t).data.toList ++ 32 :: ((cond p wPeep wPlain).data.toList ++ 32 :: (cond q wCache wLook).data.toList)))) := by
    unfold cfgT txA
    simp [ByteArray.data_append]
  rw [e, lpc_cons (by decide), lpc_cons (dig_no s hs), lpc_cons (by decide), lpc_cons (dig_no t ht), lpc_cons (by cases p <;> decide), lpc_end (by cases q <;> decide)]
  rfl
/-! ### numbers -/
def itB (n : Int) : ByteArray := ⟨(Lib.itoa n).toArray⟩
theorem itB_dig {n : Nat} (h : n < 100) : itB (n : Int) = dig n := by
  unfold itB Lib.itoa dig
  rw [if_neg (by omega)]
  have e : ((n : Int)).toNat = n := by omega
  rw [e]
  by_cases c : n < 10
  · rw [if_pos c, Lib.decDigits_one c]
  · rw [if_neg c, Lib.decDigits_two c h]
    apply ByteArray.ext
    simp [ByteArray.data_append]
/-- ParseNum: the number, the code. -/
def numP (s : ByteArray) : Int × Int := match Lib.parseIntB 64 s.data.toList with
  | .ok v => if inB (-1000000000) 1000000000 v && decide (itB v = s) then (v, 0) else (0, 5)
  | _ => (0, 5)
theorem parse_dig : ∀ n, n < 100 → (match Lib.parseIntB 64 (dig n).data.toList with | .ok v => decide (v = (n : Int)) | _ => false) = true := by decide +kernel
theorem numP_dig {n : Nat} (h : n < 100) : numP (dig n) = ((n : Int), 0) := by
  have := parse_dig n h
  unfold numP
  generalize Lib.parseIntB 64 (dig n).data.toList = x at this ⊢
  cases x with
  | ok v =>
    have e : v = (n : Int) := of_decide_eq_true this
    subst e
    have h1 : inB (-1000000000) 1000000000 (n : Int) = true := inB_iff.2 ⟨by omega, by omega⟩
    simp [h1, itB_dig h]
  | _ => cases this
end Go.Proofs.YtohmmedckdialaaDoor.E
