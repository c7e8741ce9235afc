/- Operations: what they take and put, where they lead; heights. -/
import Derived.Test.YtlggnigbemghgaaGreatDoorP7
set_option linter.unusedSectionVars false
set_option linter.unusedSimpArgs false
set_option linter.unusedVariables false
namespace Go.Proofs.YtlggnigbemghgaaGreatDoor.E
open Go Go.RowKit
variable [L : Lam]
variable {σ : AH} {R : AEnd → AH → Prop}
def takesN (o : OpD) : Int := if o.kind = 6 ∨ o.kind = 7 ∨ o.kind = 8 ∨ o.kind = 9 then 1 else if o.kind = 10 then o.a + 1 else 0
def putsN (o : OpD) : Int := if o.kind = 1 ∨ o.kind = 2 ∨ o.kind = 3 ∨ o.kind = 4 ∨ o.kind = 8 ∨ o.kind = 9 ∨ o.kind = 10 then 1 else if o.kind = 15 then 2 else 0
def goesB (k : Int) : Bool := !(decide (k = 5) || decide (k = 11) || inB 12 14 k)
def tgtN (o : OpD) : Int := if o.kind = 5 ∨ o.kind = 6 then o.a else if o.kind = 16 then o.c else -1
def highB (o : OpD) (h : Int) : Bool := if o.kind = 12 then decide (h = 1) else if o.kind = 11 then decide (h = o.a + 1) else if o.kind = 13 ∨ o.kind = 14 then decide (h = 0) else decide (takesN o ≤ h)
def endsB (o : OpD) (h : Int) : Bool := if o.kind = 12 then decide (h = 1) else if o.kind = 11 then decide (h = o.a + 1) else if o.kind = 13 ∨ o.kind = 14 then decide (h = 0) else true
/-- The numbers of an operation are small. -/
def smO (o : OpD) : Prop := 0 ≤ o.a ∧ o.a ≤ 999 ∧ 0 ≤ o.b ∧ o.b ≤ 999 ∧ 0 ≤ o.c ∧ o.c ≤ 999 ∧ 0 ≤ o.d ∧ o.d ≤ 999
theorem opF_sm {o : OpD} (h : opF o = 0) : smO o := by
  unfold opF at h
  split at h
  · cases h
  split at h
  · cases h
  rename_i h2
  have h3 : opF2 o = false := by simpa using h2
  unfold opF2 at h3
  rw [Bool.or_eq_false_iff, List.any_eq_false] at h3
  have k : ∀ x, x ∈ opL o → inB 0 999 x = true := fun x hx => by simpa using h3.1 x hx
  have a1 := inB_iff.1 (k o.a (by simp [opL]))
  have a2 := inB_iff.1 (k o.b (by simp [opL]))
  have a3 := inB_iff.1 (k o.c (by simp [opL]))
  have a4 := inB_iff.1 (k o.d (by simp [opL]))
  exact ⟨a1.1, a1.2, a2.1, a2.2, a3.1, a3.2, a4.1, a4.2⟩
theorem c_impl_Op_takes {o : OpD} (hs : smO o) (h : R (.ret (iv (takesN o))) σ) : acall TP fn_impl_Op_takes [.agg (encOp o)] σ R := by
  refine s_impl_Op_takes_ok ?_
  unfold s_impl_Op_takes
  refine box_encOp ?_
  unfold takesN at h
  have e : ibin .add (iv o.a) (.val (.int .i64 1)) = some (iv (o.a + 1)) := by rw [ibin_add (by have := hs.1; omega) (by have := hs.2.1; omega)]
  simp only [RR, RT, jn]
  by_cases c1 : o.kind = 6
  · rw [if_pos (by omega)] at h; simp only [c1, RR]; exact ret_here h
  by_cases c2 : o.kind = 7
  · rw [if_pos (by omega)] at h; simp only [c2, RR]; exact ret_here h
  by_cases c3 : o.kind = 8
  · rw [if_pos (by omega)] at h; simp only [c3, RR]; exact ret_here h
  by_cases c4 : o.kind = 9
  · rw [if_pos (by omega)] at h; simp only [c4, RR]; exact ret_here h
  rw [if_neg (by omega)] at h
  by_cases c5 : o.kind = 10
  · rw [if_pos c5] at h; simp only [c5, RR, RT, e]; exact ret_here h
  rw [if_neg c5] at h
  simp only [c1, c2, c3, c4, c5, RR]; exact ret_here h
theorem c_impl_Op_puts {o : OpD} (h : R (.ret (iv (putsN o))) σ) : acall TP fn_impl_Op_puts [.agg (encOp o)] σ R := by
  refine s_impl_Op_puts_ok ?_
  unfold s_impl_Op_puts
  refine box_encOp ?_
  unfold putsN at h
  simp only [RR, RT, jn]
  by_cases c1 : o.kind = 1
  · rw [if_pos (by omega)] at h; simp only [c1, RR]; exact ret_here h
  by_cases c2 : o.kind = 2
  · rw [if_pos (by omega)] at h; simp only [c2, RR]; exact ret_here h
  by_cases c3 : o.kind = 3
  · rw [if_pos (by omega)] at h; simp only [c3, RR]; exact ret_here h
  by_cases c4 : o.kind = 4
  · rw [if_pos (by omega)] at h; simp only [c4, RR]; exact ret_here h
  by_cases c5 : o.kind = 8
  · rw [if_pos (by omega)] at h; simp only [c5, RR]; exact ret_here h
  by_cases c6 : o.kind = 9
  · rw [if_pos (by omega)] at h; simp only [c6, RR]; exact ret_here h
  by_cases c7 : o.kind = 10
  · rw [if_pos (by omega)] at h; simp only [c7, RR]; exact ret_here h
  rw [if_neg (by omega)] at h
  by_cases c8 : o.kind = 15
  · rw [if_pos c8] at h; simp only [c8, RR]; exact ret_here h
  rw [if_neg c8] at h
  simp only [c1, c2, c3, c4, c5, c6, c7, c8, RR]; exact ret_here h
theorem c_impl_Op_goesOn {o : OpD} (h : R (.ret (bv (goesB o.kind))) σ) : acall TP fn_impl_Op_goesOn [.agg (encOp o)] σ R := by
  refine s_impl_Op_goesOn_ok ?_
  unfold s_impl_Op_goesOn
  refine box_encOp ?_
  simp only [RR, RT, jn]
  by_cases c1 : o.kind = 5
  · rw [c1] at h; simp only [c1, RR]; exact ret_here h
  by_cases c2 : o.kind = 11
  · rw [c2] at h; simp only [c2, RR]; exact ret_here h
  by_cases c3 : o.kind = 12
  · rw [c3] at h; simp only [c3, RR]; exact ret_here h
  by_cases c4 : o.kind = 13
  · rw [c4] at h; simp only [c4, RR]; exact ret_here h
  by_cases c5 : o.kind = 14
  · rw [c5] at h; simp only [c5, RR]; exact ret_here h
  have : goesB o.kind = true := by
    unfold goesB
    rw [decide_eq_false c1, decide_eq_false c2, show inB 12 14 o.kind = false from by rw [Bool.eq_false_iff]; intro h; have := inB_iff.1 h; omega]
    rfl
  rw [this] at h
  simp only [c1, c2, c3, c4, c5, RR]; exact ret_here h
theorem c_impl_Op_ends {o : OpD} {n : Int} (hs : smO o) (h : R (.ret (bv (endsB o n))) σ) : acall TP fn_impl_Op_ends [.agg (encOp o), iv n] σ R := by
  refine s_impl_Op_ends_ok ?_
  unfold s_impl_Op_ends
  refine box_encOp ?_
  unfold endsB at h
  have e : ibin .add (iv o.a) (.val (.int .i64 1)) = some (iv (o.a + 1)) := by rw [ibin_add (by have := hs.1; omega) (by have := hs.2.1; omega)]
  simp only [RR, RT, jn]
  by_cases c1 : o.kind = 12
  · rw [if_pos c1] at h; simp only [c1, RR]; exact ret_here h
  rw [if_neg c1] at h
  by_cases c2 : o.kind = 11
  · rw [if_pos c2] at h; simp only [c2, RR, RT, e]; exact ret_here h
  rw [if_neg c2] at h
  by_cases c3 : o.kind = 13
  · rw [if_pos (by omega)] at h; simp only [c3, RR]; exact ret_here h
  by_cases c4 : o.kind = 14
  · rw [if_pos (by omega)] at h; simp only [c4, RR]; exact ret_here h
  rw [if_neg (by omega)] at h
  simp only [c1, c2, c3, c4, RR]; exact ret_here h
/-- Where an operation leads to, as a place. -/
def tgtP (o : OpD) : AV := if o.kind = 5 ∨ o.kind = 6 then .rop (encOp o) 1 else if o.kind = 16 then .rop (encOp o) 3 else .val (.pointer none)
theorem c_impl_Op_target {o : OpD} (h : R (.ret (tgtP o)) σ) : acall TP fn_impl_Op_target [.rop (encOp o) 0] σ R := by
  refine s_impl_Op_target_ok ?_
  unfold s_impl_Op_target
  unfold tgtP at h
  simp only [RR, RT, jn]
  by_cases c1 : o.kind = 5
  · rw [if_pos (by omega)] at h; simp only [c1, RR]; exact ret_here h
  by_cases c2 : o.kind = 6
  · rw [if_pos (by omega)] at h; simp only [c2, RR]; exact ret_here h
  rw [if_neg (by omega)] at h
  by_cases c3 : o.kind = 16
  · rw [if_pos c3] at h; simp only [c3, RR]; exact ret_here h
  rw [if_neg c3] at h
  simp only [c1, c2, c3, RR]; exact ret_here h
def isPt (T : Tab) (t : TypeId) : Bool := match T t with
  | some ti => match ti.under with
    | .pointer _ => true
    | _ => false
  | none => false
theorem neq_rop {T : Tab} {t : TypeId} {cs : List AV} {off : Nat} {k : AV → Prop} (hu : isPt T t = true) (h : k (bv true)) : abin T .neq t (.rop cs off) (.val (.pointer none)) k := by
  unfold isPt at hu
  split at hu
  case h_2 => cases hu
  rename_i ti ht
  split at hu
  case h_2 => cases hu
  rename_i e he
  unfold abin
  simp only
  unfold aeql
  simp only [ht, he]
  exact h
theorem neq_nul {T : Tab} {t : TypeId} {k : AV → Prop} (hu : isPt T t = true) (h : k (bv false)) : abin T .neq t (.val (.pointer none)) (.val (.pointer none)) k := by
  unfold isPt at hu
  split at hu
  case h_2 => cases hu
  rename_i ti ht
  split at hu
  case h_2 => cases hu
  rename_i e he
  unfold abin
  simp only
  unfold aeql
  simp only [ht, he]
  exact h
/-- What a function does with where an operation leads to. -/
theorem tgt_cases {T : Tab} {t : TypeId} {o : OpD} {X Y : Prop} (hs : smO o) (hu : isPt T t = true) (h1 : 0 ≤ tgtN o → ∀ p, anil (tgtP o) = some p → (∀ τ, lod p τ = some (iv (tgtN o))) → X) (h2 : tgtN o = -1 → Y) :
    abin T .neq t (tgtP o) (.val (.pointer none)) fun v => apick v X Y := by
  unfold tgtP tgtN at *
  by_cases c1 : o.kind = 5 ∨ o.kind = 6
  · simp only [if_pos c1] at h1 ⊢
    refine neq_rop hu ?_
    simp only [RR]
    exact h1 hs.1 _ rfl fun _ => rfl
  · simp only [if_neg c1] at h1 h2 ⊢
    by_cases c2 : o.kind = 16
    · simp only [if_pos c2] at h1 ⊢
      refine neq_rop hu ?_
      simp only [RR]
      exact h1 hs.2.2.2.2.1 _ rfl fun _ => rfl
    · simp only [if_neg c2] at h2 ⊢
      refine neq_nul hu ?_
      simp only [RR]
      exact h2 trivial
/-! ### the reference's -/
theorem c_spec_l10Takes {o : OpD} (hs : smO o) (h : R (.ret (.tup [iv (takesN o), iv (putsN o)])) σ) : acall TP fn_spec_l10Takes [.rop (encOp o) 0] σ R := by
  refine s_spec_l10Takes_ok ?_
  unfold s_spec_l10Takes
  unfold takesN putsN at h
  have e : ibin .add (iv o.a) (.val (.int .i64 1)) = some (iv (o.a + 1)) := by rw [ibin_add (by have := hs.1; omega) (by have := hs.2.1; omega)]
  simp only [RR, RT, jn]
  by_cases c1 : o.kind = 1
  · simp only [c1, RR]; simp [c1] at h; exact ret_here h
  by_cases c2 : o.kind = 2
  · simp only [c2, RR]; simp [c2] at h; exact ret_here h
  by_cases c3 : o.kind = 3
  · simp only [c3, RR]; simp [c3] at h; exact ret_here h
  by_cases c4 : o.kind = 4
  · simp only [c4, RR]; simp [c4] at h; exact ret_here h
  by_cases c5 : o.kind = 6
  · simp only [c5, RR]; simp [c5] at h; exact ret_here h
  by_cases c6 : o.kind = 7
  · simp only [c6, RR]; simp [c6] at h; exact ret_here h
  by_cases c7 : o.kind = 8
  · simp only [c7, RR]; simp [c7] at h; exact ret_here h
  by_cases c8 : o.kind = 9
  · simp only [c8, RR]; simp [c8] at h; exact ret_here h
  by_cases c9 : o.kind = 10
  · simp only [c9, RR, RT, e]; simp [c9] at h; exact ret_here h
  by_cases c10 : o.kind = 15
  · simp only [c10, RR]; simp [c10] at h; exact ret_here h
  simp only [c1, c2, c3, c4, c5, c6, c7, c8, c9, c10, RR]; simp [c1, c2, c3, c4, c5, c6, c7, c8, c9, c10] at h; exact ret_here h
theorem c_spec_l10Ends {k : Int} (h : R (.ret (bv (!goesB k))) σ) : acall TP fn_spec_l10Ends [iv k] σ R := by
  refine s_spec_l10Ends_ok ?_
  unfold s_spec_l10Ends
  unfold goesB at h
  simp only [RR, jn, Bool.not_not] at h ⊢
  by_cases c1 : k = 5
  · simp only [c1, RR]; subst c1; exact ret_here h
  by_cases c2 : k = 11
  · simp only [c1, c2, RR]; subst c2; exact ret_here h
  simp only [c1, c2, RR]
  refine c_spec_l1In ?_
  simp only [RR]
  rw [decide_eq_false c1, decide_eq_false c2] at h
  exact ret_here h
theorem c_spec_l10High {o : OpD} {n : Int} (hs : smO o) (h : R (.ret (bv (highB o n))) σ) : acall TP fn_spec_l10High [.rop (encOp o) 0, iv n] σ R := by
  refine s_spec_l10High_ok ?_
  unfold s_spec_l10High
  unfold highB at h
  have e : ibin .add (iv o.a) (.val (.int .i64 1)) = some (iv (o.a + 1)) := by rw [ibin_add (by have := hs.1; omega) (by have := hs.2.1; omega)]
  simp only [RR, RT, jn]
  by_cases c1 : o.kind = 12
  · rw [if_pos c1] at h; simp only [c1, RR]; exact ret_here h
  rw [if_neg c1] at h
  by_cases c2 : o.kind = 11
  · rw [if_pos c2] at h; simp only [c2, RR, RT, e]; exact ret_here h
  rw [if_neg c2] at h
  by_cases c3 : o.kind = 13
  · rw [if_pos (by omega)] at h; simp only [c3, RR]; exact ret_here h
  by_cases c4 : o.kind = 14
  · rw [if_pos (by omega)] at h; simp only [c4, RR]; exact ret_here h
  rw [if_neg (by omega)] at h
  simp only [c1, c2, c3, c4, RR]
  refine c_spec_l10Takes hs ?_
  have e0 : aext (.tup [iv (takesN o), iv (putsN o)]) 0 = some (iv (takesN o)) := rfl
  have e1 : aext (.tup [iv (takesN o), iv (putsN o)]) 1 = some (iv (putsN o)) := rfl
  simp only [e0, e1, RR]
  exact ret_here h
theorem c_spec_l9Target {o : OpD} (h : R (.ret (iv (tgtN o))) σ) : acall TP fn_spec_l9Target [.rop (encOp o) 0] σ R := by
  refine s_spec_l9Target_ok ?_
  unfold s_spec_l9Target
  unfold tgtN at h
  simp only [RR, RT, jn]
  by_cases c1 : o.kind = 5
  · rw [if_pos (by omega)] at h; simp only [c1, RR]; exact ret_here h
  by_cases c2 : o.kind = 6
  · rw [if_pos (by omega)] at h; simp only [c2, RR]; exact ret_here h
  rw [if_neg (by omega)] at h
  by_cases c3 : o.kind = 16
  · rw [if_pos c3] at h; simp only [c3, RR, RT]; exact ret_here h
  rw [if_neg c3] at h
  simp only [c1, c2, c3, RR]; exact ret_here h
end Go.Proofs.YtlggnigbemghgaaGreatDoor.E
