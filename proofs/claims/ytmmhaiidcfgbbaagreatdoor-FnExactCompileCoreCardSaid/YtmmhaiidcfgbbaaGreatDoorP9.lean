/- Heights of a block: the plain law. -/
import Derived.Test.YtmmhaiidcfgbbaaGreatDoorP8
set_option linter.unusedSectionVars false
set_option linter.unusedSimpArgs false
set_option linter.unusedVariables false
namespace Go.Proofs.YtmmhaiidcfgbbaaGreatDoor.E
open Go Go.RowKit
variable [L : Lam]
def opA (os : List OpD) (i : Nat) : OpD := os.getD i default
def leads (o : OpD) (i : Nat) : List Int := (if goesB o.kind then [(i : Int) + 1] else []) ++ (if 0 ≤ tgtN o then [tgtN o] else [])
def nextH (o : OpD) (h : Int) : Int := h - takesN o + putsN o
inductive Reach (os : List OpD) : Nat → Int → Prop
  | start : Reach os 0 0
  | step {i : Nat} {h t : Int} (hr : Reach os i h) (hi : i < os.length) (hh : highB (opA os i) h = true) (ht : t ∈ leads (opA os i) i) : Reach os t.toNat (nextH (opA os i) h)
def smB (os : List OpD) : Prop := ∀ o, o ∈ os → smO o
theorem smB_at {os : List OpD} (h : smB os) {i : Nat} (hi : i < os.length) : smO (opA os i) := by
  unfold opA
  rw [← op_at hi]
  exact h _ (List.getElem_mem hi)
theorem lead_high {o : OpD} {i : Nat} {t : Int} (ht : t ∈ leads o i) : goesB o.kind = true ∨ 0 ≤ tgtN o := by
  unfold leads at ht
  rw [List.mem_append] at ht
  rcases ht with h | h
  · split at h
    · rename_i c; exact .inl c
    · cases h
  · split at h
    · rename_i c; exact .inr c
    · cases h
theorem lead_nn {o : OpD} {i : Nat} {t : Int} (ht : t ∈ leads o i) : 0 ≤ t := by
  unfold leads at ht
  rw [List.mem_append] at ht
  rcases ht with h | h
  · split at h
    · rw [List.mem_singleton] at h; omega
    · cases h
  · split at h
    · rw [List.mem_singleton] at h; omega
    · cases h
theorem goesB_iff {k : Int} : goesB k = true ↔ k ≠ 5 ∧ k ≠ 11 ∧ (k < 12 ∨ 14 < k) := by
  unfold goesB
  rw [Bool.not_eq_true', Bool.or_eq_false_iff, Bool.or_eq_false_iff, decide_eq_false_iff_not, decide_eq_false_iff_not, Bool.eq_false_iff, ne_eq, inB_iff]
  omega
theorem takes_of_lead {o : OpD} {i : Nat} {t h : Int} (ht : t ∈ leads o i) (hh : highB o h = true) : takesN o ≤ h := by
  have h1 := lead_high ht
  have h2 : ¬ (o.kind = 11 ∨ o.kind = 12 ∨ o.kind = 13 ∨ o.kind = 14) := by
    rcases h1 with h1 | h1
    · have := goesB_iff.1 h1; omega
    · intro c
      unfold tgtN at h1
      rw [if_neg (by omega), if_neg (by omega)] at h1
      omega
  unfold highB at hh
  rw [if_neg (by omega), if_neg (by omega), if_neg (by omega)] at hh
  exact of_decide_eq_true hh
theorem puts_le (o : OpD) : 0 ≤ putsN o ∧ putsN o ≤ 2 := by unfold putsN; repeat' split <;> try omega
theorem takes_le {o : OpD} (hs : smO o) : 0 ≤ takesN o ∧ takesN o ≤ 1000 := by
  have := hs.1; have := hs.2.1
  unfold takesN; repeat' split <;> try omega
theorem Reach.nn {os : List OpD} {i : Nat} {v : Int} (h : Reach os i v) : 0 ≤ v := by
  induction h with
  | start => exact Int.le_refl 0
  | step hr hi hh ht ih =>
    rename_i j u t
    have h1 := takes_of_lead ht hh
    have h2 := puts_le (opA os j)
    unfold nextH
    omega
def atH (out : List Int) (i : Nat) : Int := out.getD i (-1)
/-- Heights as they have to be. -/
structure HOk (os : List OpD) (out : List Int) : Prop where
  len : out.length = os.length
  pos : 0 < os.length
  tgt : ∀ o, o ∈ os → tgtN o < os.length
  sound : ∀ i v, Reach os i v → i < os.length ∧ atH out i = v ∧ highB (opA os i) v = true
  own : ∀ i, i < os.length → atH out i = -1 ∨ (0 ≤ atH out i ∧ Reach os i (atH out i))
  bnd : ∀ i, i < os.length → atH out i ≤ 1000000
/-- What is not right. -/
def HBad (os : List OpD) : Prop := os.length = 0 ∨ (∃ o, o ∈ os ∧ (os.length : Int) ≤ tgtN o) ∨ ∃ i v, Reach os i v ∧ (os.length ≤ i ∨ highB (opA os i) v = false ∨ ∃ v', v' ≠ v ∧ Reach os i v')
theorem HOk.not_bad {os : List OpD} {out : List Int} (h : HOk os out) (k : HBad os) : False := by
  rcases k with k | ⟨o, ho, k⟩ | ⟨i, v, hr, k⟩
  · have := h.pos; omega
  · have := h.tgt o ho; omega
  · obtain ⟨h1, h2, h3⟩ := h.sound i v hr
    rcases k with k | k | ⟨v', k1, k2⟩
    · omega
    · rw [h3] at k; cases k
    · have := (h.sound i v' k2).2.1
      exact k1 (this.symm.trans h2)
theorem HOk.unique {os : List OpD} {a b : List Int} (h : HOk os a) (k : HOk os b) : a = b := by
  refine List.ext_getElem (h.len.trans k.len.symm) fun i h1 h2 => ?_
  have hi : i < os.length := by rw [← h.len]; exact h1
  have ea : a[i] = atH a i := by simp [atH, List.getD, h1]
  have eb : b[i] = atH b i := by simp [atH, List.getD, h2]
  rw [ea, eb]
  rcases h.own i hi with c | ⟨c1, c2⟩
  · rcases k.own i hi with d | ⟨d1, d2⟩
    · rw [c, d]
    · have := (h.sound i _ d2).2.1; omega
  · exact ((k.sound i _ c2).2.1).symm
open Classical in
noncomputable def hts (os : List OpD) : Option (List Int) := if h : ∃ out, HOk os out then some h.choose else none
theorem hts_ok {os : List OpD} {out : List Int} (h : HOk os out) : hts os = some out := by
  unfold hts
  rw [dif_pos ⟨out, h⟩]
  congr 1
  exact (Exists.choose_spec (⟨out, h⟩ : ∃ out, HOk os out)).unique h
theorem hts_bad {os : List OpD} (h : HBad os) : hts os = none := by
  unfold hts
  rw [dif_neg (fun ⟨out, k⟩ => k.not_bad h)]
theorem hts_some {os : List OpD} {out : List Int} (h : hts os = some out) : HOk os out := by
  unfold hts at h
  split at h
  · rename_i c
    cases h
    exact c.choose_spec
  · cases h
def Done (os : List OpD) (out : List Int) (i : Nat) : Prop := highB (opA os i) (atH out i) = true ∧ ∀ t, t ∈ leads (opA os i) i → t < os.length ∧ atH out t.toNat = nextH (opA os i) (atH out i)
/-- What holds while heights are looked for; P: whose leads are still to be looked at; m: as high as they may be. -/
structure HInv (os : List OpD) (out : List Int) (P : Nat → Prop) (m : Int) : Prop where
  len : out.length = os.length
  pos : 0 < os.length
  own : ∀ i, i < os.length → atH out i = -1 ∨ (0 ≤ atH out i ∧ atH out i ≤ m ∧ Reach os i (atH out i))
  first : atH out 0 = 0
  done : ∀ i, i < os.length → 0 ≤ atH out i → P i ∨ Done os out i
theorem HInv.fin {os : List OpD} {out : List Int} {m : Int} (hm : m ≤ 1000000) (h : HInv os out (fun _ => False) m) (ht : ∀ o, o ∈ os → tgtN o < os.length) : HOk os out := by
  have key : ∀ i v, Reach os i v → i < os.length ∧ atH out i = v := by
    intro i v hr
    induction hr with
    | start => exact ⟨h.pos, h.first⟩
    | step hr hi hh ht ih =>
      rename_i i v t
      have hv := hr.nn
      rcases h.done i ih.1 (by rw [ih.2]; exact hv) with c | c
      · exact c.elim
      · obtain ⟨c1, c2⟩ := c.2 t ht
        have := lead_nn ht
        exact ⟨by omega, by rw [c2, ih.2]⟩
  refine ⟨h.len, h.pos, ht, fun i v hr => ?_, fun i hi => ?_, fun i hi => ?_⟩
  · obtain ⟨k1, k2⟩ := key i v hr
    refine ⟨k1, k2, ?_⟩
    rcases h.done i k1 (by rw [k2]; exact hr.nn) with c | c
    · exact c.elim
    · rw [← k2]; exact c.1
  · rcases h.own i hi with c | ⟨c1, c2, c3⟩
    · exact .inl c
    · exact .inr ⟨c1, c3⟩
  · rcases h.own i hi with c | ⟨c1, c2, c3⟩ <;> omega
theorem atH_set {out : List Int} {i j : Nat} {v : Int} (hi : i < out.length) : atH (out.set i v) j = if i = j then v else atH out j := by
  unfold atH
  simp only [List.getD]
  rw [List.getElem?_set]
  split
  · rename_i c; subst c; simp [hi]
  · rfl
theorem Done.set {os : List OpD} {out : List Int} {i t : Nat} {v : Int} (h : Done os out i) (hi : 0 ≤ atH out i) (ht : atH out t < 0) (hl : t < out.length) : Done os (out.set t v) i := by
  have e : atH (out.set t v) i = atH out i := by rw [atH_set hl, if_neg (by rintro rfl; omega)]
  refine ⟨by rw [e]; exact h.1, fun s hs => ?_⟩
  obtain ⟨h1, h2⟩ := h.2 s hs
  have h3 := takes_of_lead hs h.1
  have h4 := puts_le (opA os i)
  have h5 : 0 ≤ nextH (opA os i) (atH out i) := by unfold nextH; omega
  refine ⟨h1, ?_⟩
  rw [e, atH_set hl, if_neg (by rintro rfl; omega)]
  exact h2
/-- A place that was not come to takes its height. -/
theorem HInv.set {os : List OpD} {out : List Int} {P P' : Nat → Prop} {m m' : Int} {t i : Nat} {s : Int} (h : HInv os out P m) (hi : i < os.length) (h0 : 0 ≤ atH out i) (hh : highB (opA os i) (atH out i) = true) (hs : s ∈ leads (opA os i) i) (hst : s.toNat = t)
    (ht : t < os.length) (hn : atH out t < 0) (hP : ∀ j, P j → P' j) (ht' : P' t) (hm : m ≤ m') (hm' : nextH (opA os i) (atH out i) ≤ m') : HInv os (out.set t (nextH (opA os i) (atH out i))) P' m' := by
  have hl : t < out.length := by rw [h.len]; exact ht
  have hr : Reach os i (atH out i) := by
    rcases h.own i hi with c | ⟨_, _, c⟩
    · omega
    · exact c
  have hr2 : Reach os t (nextH (opA os i) (atH out i)) := hst ▸ Reach.step hr hi hh hs
  refine ⟨by simpa using h.len, h.pos, fun j hj => ?_, ?_, fun j hj hj0 => ?_⟩
  · rw [atH_set hl]
    split
    · rename_i c; subst c
      exact .inr ⟨hr2.nn, hm', hr2⟩
    · rcases h.own j hj with c | ⟨c1, c2, c3⟩
      · exact .inl c
      · exact .inr ⟨c1, by omega, c3⟩
  · have h00 := h.first
    rw [atH_set hl, if_neg (by rintro rfl; omega)]
    exact h00
  · rw [atH_set hl] at hj0
    split at hj0
    · rename_i c; subst c; exact .inl ht'
    · rcases h.done j hj hj0 with c | c
      · exact .inl (hP j c)
      · exact .inr (c.set hj0 hn hl)
theorem HInv.weak {os : List OpD} {out : List Int} {P P' : Nat → Prop} {m m' : Int} (h : HInv os out P m) (hm : m ≤ m') (hP : ∀ j, j < os.length → 0 ≤ atH out j → P j → P' j ∨ Done os out j) : HInv os out P' m' :=
  ⟨h.len, h.pos, fun i hi => by
    rcases h.own i hi with c | ⟨c1, c2, c3⟩
    · exact .inl c
    · exact .inr ⟨c1, by omega, c3⟩, h.first, fun i hi h0 => by
    rcases h.done i hi h0 with c | c
    · exact hP i hi h0 c
    · exact .inr c⟩
theorem HInv.reach {os : List OpD} {out : List Int} {P : Nat → Prop} {m : Int} (h : HInv os out P m) {i : Nat} (hi : i < os.length) (h0 : 0 ≤ atH out i) : Reach os i (atH out i) := by
  rcases h.own i hi with c | ⟨_, _, c⟩
  · omega
  · exact c
theorem HInv.bad_high {os : List OpD} {out : List Int} {P : Nat → Prop} {m : Int} (h : HInv os out P m) {i : Nat} (hi : i < os.length) (h0 : 0 ≤ atH out i) (hh : highB (opA os i) (atH out i) = false) : HBad os :=
  .inr (.inr ⟨i, _, h.reach hi h0, .inr (.inl hh)⟩)
theorem HInv.bad_lead {os : List OpD} {out : List Int} {P : Nat → Prop} {m : Int} (h : HInv os out P m) {i : Nat} {t : Int} (hi : i < os.length) (h0 : 0 ≤ atH out i) (hh : highB (opA os i) (atH out i) = true) (ht : t ∈ leads (opA os i) i)
    (hb : (os.length : Int) ≤ t ∨ (0 ≤ atH out t.toNat ∧ atH out t.toNat ≠ nextH (opA os i) (atH out i))) : HBad os := by
  have hr := Reach.step (h.reach hi h0) hi hh ht
  have h1 := lead_nn ht
  by_cases c : (os.length : Int) ≤ t
  · exact .inr (.inr ⟨t.toNat, _, hr, .inl (by omega)⟩)
  · rcases hb with hb | ⟨hb1, hb2⟩
    · exact absurd hb c
    · exact .inr (.inr ⟨t.toNat, _, hr, .inr (.inr ⟨_, hb2, h.reach (by omega) hb1⟩)⟩)
theorem HInv.init {os : List OpD} (hp : 0 < os.length) {P : Nat → Prop} (h0 : P 0) : HInv os (0 :: List.replicate (os.length - 1) (-1)) P 0 := by
  have e : ∀ i, i < os.length → atH (0 :: List.replicate (os.length - 1) (-1)) i = if i = 0 then 0 else -1 := by
    intro i hi
    cases i with
    | zero => rfl
    | succ i =>
      have : i < os.length - 1 := by omega
      simp [atH, List.getD, List.getElem?_replicate, this]
  refine ⟨by simp; omega, hp, fun i hi => ?_, rfl, fun i hi hi0 => ?_⟩
  · rw [e i hi]
    split
    · rename_i c; subst c; exact .inr ⟨by omega, by omega, .start⟩
    · exact .inl rfl
  · rw [e i hi] at hi0
    split at hi0
    · rename_i c; subst c; exact .inl h0
    · omega
theorem high_iff {o : OpD} {h : Int} (h0 : 0 ≤ h) : (decide (h < takesN o) || !endsB o h) = !highB o h := by
  unfold highB endsB
  by_cases c1 : o.kind = 12
  · rw [if_pos c1, if_pos c1]
    have : takesN o = 0 := by unfold takesN; rw [if_neg (by omega), if_neg (by omega)]
    rw [this, decide_eq_false (by omega)]; rfl
  rw [if_neg c1, if_neg c1]
  by_cases c2 : o.kind = 11
  · rw [if_pos c2, if_pos c2]
    have : takesN o = 0 := by unfold takesN; rw [if_neg (by omega), if_neg (by omega)]
    rw [this, decide_eq_false (by omega)]; rfl
  rw [if_neg c2, if_neg c2]
  by_cases c3 : o.kind = 13 ∨ o.kind = 14
  · rw [if_pos c3, if_pos c3]
    have : takesN o = 0 := by unfold takesN; rw [if_neg (by omega), if_neg (by omega)]
    rw [this, decide_eq_false (by omega)]; rfl
  rw [if_neg c3, if_neg c3]
  by_cases c : h < takesN o
  · rw [decide_eq_true c, decide_eq_false (by omega)]; rfl
  · rw [decide_eq_false c, decide_eq_true (by omega)]; rfl
end Go.Proofs.YtmmhaiidcfgbbaaGreatDoor.E
