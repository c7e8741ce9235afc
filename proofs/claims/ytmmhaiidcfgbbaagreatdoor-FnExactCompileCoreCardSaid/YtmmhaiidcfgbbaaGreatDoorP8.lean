/- Operations: what they take and put, where they lead; heights. -/
import Derived.Test.YtmmhaiidcfgbbaaGreatDoorP7
set_option linter.unusedSectionVars false
set_option linter.unusedSimpArgs false
set_option linter.unusedVariables false
namespace Go.Proofs.YtmmhaiidcfgbbaaGreatDoor.E
open Go Go.RowKit
variable [L : Lam]
variable {σ : AH} {R : AEnd → AH → Prop}
def takesN (o : OpD) : Int := if o.kind = 6 ∨ o.kind = 7 ∨ o.kind = 8 ∨ o.kind = 9 then 1 else if o.kind = 10 then o.a + 1 else 0
def putsN (o : OpD) : Int := if o.kind = 1 ∨ o.kind = 2 ∨ o.kind = 3 ∨ o.kind = 4 ∨ o.kind = 8 ∨ o.kind = 9 ∨ o.kind = 10 then 1 else if o.kind = 15 then 2 else 0
def goesB (k : Int) : Bool := !(decide (k = 5) || decide (k = 11) || inB 12 14 k)
def tgtN (o : OpD) : Int := if o.kind = 5 ∨ o.kind = 6 then o.a else if o.kind = 16 then o.c else -1
def highB (o : OpD) (h : Int) : Bool := if o.kind = 12 then decide (h = 1) else if o.kind = 11 then decide (h = o.a + 1) else if o.kind = 13 ∨ o.kind = 14 then decide (h = 0) else decide (takesN o ≤ h)
def endsB (o : OpD) (h : Int) : Bool := if o.kind = 12 then decide (h = 1) else if o.kind = 11 then decide (h = o.a + 1) else if o.kind = 13 ∨ o.kind = 14 then decide (h = 0) else true
/-- The numbers of an operation are small. -/
def smO (o : OpD) : Prop := 0 ≤ o.a ∧ o.a ≤ 999 ∧ 0 ≤ o.b ∧ o.b ≤ 999 ∧ 0 ≤ o.c ∧ o.c ≤ 999 ∧ 0 ≤ o.d ∧ o.d ≤ 999
theorem opF_sm {o : OpD} (h : opF o = 0) : smO o := by
  unfold opF at h
  split at h
  · cases h
  split at h
  · cases h
  rename_i h2
  have h3 : opF2 o = false := by simpa using h2
  unfold opF2 at h3
  rw [Bool.or_eq_false_iff, List.any_eq_false] at h3
  have k : ∀ x, x ∈ opL o → inB 0 999 x = true := fun x hx => by simpa using h3.1 x hx
  have a1 := inB_iff.1 (k o.a (by simp [opL]))
  have a2 := inB_iff.1 (k o.b (by simp [opL]))
  have a3 := inB_iff.1 (k o.c (by simp [opL]))
  have a4 := inB_iff.1 (k o.d (by simp [opL]))
  exact ⟨a1.1, a1.2, a2.1, a2.2, a3.1, a3.2, a4.1, a4.2⟩
/-- Where an operation leads to, as a place. -/
def tgtP (o : OpD) : AV := if o.kind = 5 ∨ o.kind = 6 then .rop (encOp o) 1 else if o.kind = 16 then .rop (encOp o) 3 else .val (.pointer none)
def isPt (T : Tab) (t : TypeId) : Bool := match T t with
  | some ti => match ti.under with
    | .pointer _ => true
    | _ => false
  | none => false
theorem neq_rop {T : Tab} {t : TypeId} {cs : List AV} {off : Nat} {k : AV → Prop} (hu : isPt T t = true) (h : k (bv true)) : abin T .neq t (.rop cs off) (.val (.pointer none)) k := by
  unfold isPt at hu
  split at hu
  case h_2 => cases hu
  rename_i ti ht
  split at hu
  case h_2 => cases hu
  rename_i e he
  unfold abin
  simp only
  unfold aeql
  simp only [ht, he]
  exact h
theorem neq_nul {T : Tab} {t : TypeId} {k : AV → Prop} (hu : isPt T t = true) (h : k (bv false)) : abin T .neq t (.val (.pointer none)) (.val (.pointer none)) k := by
  unfold isPt at hu
  split at hu
  case h_2 => cases hu
  rename_i ti ht
  split at hu
  case h_2 => cases hu
  rename_i e he
  unfold abin
  simp only
  unfold aeql
  simp only [ht, he]
  exact h
/-- What a function does with where an operation leads to. -/
theorem tgt_cases {T : Tab} {t : TypeId} {o : OpD} {X Y : Prop} (hs : smO o) (hu : isPt T t = true) (h1 : 0 ≤ tgtN o → ∀ p, anil (tgtP o) = some p → (∀ τ, lod p τ = some (iv (tgtN o))) → X) (h2 : tgtN o = -1 → Y) :
    abin T .neq t (tgtP o) (.val (.pointer none)) fun v => apick v X Y := by
  unfold tgtP tgtN at *
  by_cases c1 : o.kind = 5 ∨ o.kind = 6
  · simp only [if_pos c1] at h1 ⊢
    refine neq_rop hu ?_
    simp only [RR]
    exact h1 hs.1 _ rfl fun _ => rfl
  · simp only [if_neg c1] at h1 h2 ⊢
    by_cases c2 : o.kind = 16
    · simp only [if_pos c2] at h1 ⊢
      refine neq_rop hu ?_
      simp only [RR]
      exact h1 hs.2.2.2.2.1 _ rfl fun _ => rfl
    · simp only [if_neg c2] at h2 ⊢
      refine neq_nul hu ?_
      simp only [RR]
      exact h2 trivial
/-! ### the reference's -/
end Go.Proofs.YtmmhaiidcfgbbaaGreatDoor.E
