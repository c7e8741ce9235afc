/- The engine, part 6: what is built, made and appended. -/
import Derived.Test.YtjfdgijgkbojnaaE5
set_option linter.unusedSectionVars false
namespace Go.Proofs.Ytjfdgijgkbojnaa.E
open Go Go.RowKit
variable [Lam]

/-! ### parts filled in -/
theorem VRs.set {κ : Kap} {as : List AV} {vs : List Value} (h : VRs κ as vs) (i : Nat) {x : AV} {v : Value} (hv : VR κ x v) : VRs κ (as.set i x) (vs.set i v) := by
  refine ⟨by simp [h.1], fun k hk => ?_⟩
  have hk' : k < as.length := by simpa using hk
  rw [getD_set, getD_set, ← h.1]
  split
  · exact hv
  · exact h.2 k hk'
theorem fill_fold (vs : List Value) : ∀ (off k : Nat) (arr : Array Value) (κ : Kap) (cs xs : List AV), VRs κ cs arr.toList → VRs κ xs vs →
    VRs κ (spl cs (off + k) xs) ((vs.zipIdx k).foldl (fun cs (c, j) => cs.setIfInBounds (off + j) c) arr).toList := by
  induction vs with
  | nil =>
    intro off k arr κ cs xs h hx
    have : xs = [] := by cases xs with
      | nil => rfl
      | cons x xs => exact absurd hx.1 (by simp)
    subst this; exact h
  | cons v vs ih =>
    intro off k arr κ cs xs h hx
    cases xs with
    | nil => exact absurd hx.1 (by simp)
    | cons x xs =>
      obtain ⟨v', us, e, h1, h2⟩ := hx.uncons
      obtain ⟨rfl, rfl⟩ := List.cons.inj e
      simp only [List.zipIdx_cons, List.foldl_cons, spl]
      have := ih off (k + 1) (arr.setIfInBounds (off + k) v) κ (cs.set (off + k) x) xs (by simpa using h.set (off + k) h1) h2
      exact this
def afill (place : Nat → Option (Nat × Nat)) (cells : List AV) : List (Nat × AV) → Option (List AV)
  | [] => some cells
  | (i, x) :: rest => match place i, acells x with
    | some (off, size), some xs => if xs.length = size ∧ off + xs.length ≤ cells.length then afill place (spl cells off xs) rest else none
    | _, _ => none
/-- Parts in step with the values that they are. -/
def PR (κ : Kap) (ps : List (Nat × AV)) (qs : List (Nat × Value)) : Prop := ps.length = qs.length ∧ ∀ i, i < ps.length → (ps.getD i (0, .any)).1 = (qs.getD i (0, undef)).1 ∧ VR κ (ps.getD i (0, .any)).2 (qs.getD i (0, undef)).2
theorem PR.uncons {κ : Kap} {i : Nat} {x : AV} {ps : List (Nat × AV)} {qs : List (Nat × Value)} (h : PR κ ((i, x) :: ps) qs) : ∃ v rs, qs = (i, v) :: rs ∧ VR κ x v ∧ PR κ ps rs := by
  cases qs with
  | nil => exact absurd h.1 (by simp)
  | cons q qs =>
    obtain ⟨j, v⟩ := q
    have h0 := h.2 0 (by simp)
    simp at h0
    exact ⟨v, qs, by rw [h0.1], h0.2, by have := h.1; simpa using this, fun k hk => h.2 (k + 1) (by simpa using hk)⟩
theorem PR.unnil {κ : Kap} {qs : List (Nat × Value)} (h : PR κ [] qs) : qs = [] := by
  cases qs with
  | nil => rfl
  | cons v us => exact absurd h.1 (by simp)
theorem PR.map {κ : Kap} {t : List AV} {a : Act} (h : EnvR κ t a.tmps) (ps : List (Nat × Operand)) : PR κ (ps.map fun p => (p.1, aeval t p.2)) (ps.map fun p => (p.1, a.eval p.2)) := by
  refine ⟨by simp, fun i hi => ?_⟩
  have hi' : i < ps.length := by simpa using hi
  simp only [List.getD, List.getElem?_map, List.getElem?_eq_getElem hi', Option.map_some, Option.getD_some]
  exact ⟨trivial, h.eval _⟩
theorem afill_ok {κ : Kap} {place : Nat → Option (Nat × Nat)} (ps : List (Nat × AV)) : ∀ (qs : List (Nat × Value)) (cs out : List AV) (arr : Array Value), PR κ ps qs → VRs κ cs arr.toList → afill place cs ps = some out →
    ∃ arr', Instr.fill place arr qs = some arr' ∧ VRs κ out arr'.toList := by
  induction ps with
  | nil =>
    intro qs cs out arr hp hc e
    obtain rfl := hp.unnil
    obtain rfl := Option.some.inj e
    exact ⟨arr, rfl, hc⟩
  | cons p ps ih =>
    obtain ⟨i, x⟩ := p
    intro qs cs out arr hp hc e
    obtain ⟨v, rs, rfl, hv, hp'⟩ := hp.uncons
    simp only [afill] at e
    split at e
    case h_2 => cases e
    rename_i off size xs hpl hx
    split at e
    case isFalse => cases e
    rename_i hcond
    have hxs := acells_ok hx hv
    have h1 : v.cells.size = size := by rw [← hcond.1, hxs.1]; simp
    have h2 : ¬ off + v.cells.size > arr.size := by
      have a := hc.1; have b := hxs.1; simp at a b; omega
    have hf := fill_fold v.cells.toList off 0 arr κ cs xs hc hxs
    obtain ⟨arr', g1, g2⟩ := ih rs _ out _ hp' hf e
    refine ⟨arr', ?_, g2⟩
    simp only [Instr.fill, hpl, h1, ne_eq, not_true_eq_false, decide_false, Bool.false_or, decide_eq_true_eq]
    rw [if_neg (by rw [h1] at h2; exact h2), ← g1]
    congr 1
    rw [← Array.foldl_toList, Array.toList_zipIdx]

section
variable {P : Program} {T : Tab} (hT : TabOk P T)
include hT
omit hT in
def aplaces (T : Tab) : List Field → Option (List (Nat × Nat))
  | [] => some []
  | f :: fs => match T f.type, aplaces T fs with
    | some ti, some r => some ((f.offset, ti.size) :: r)
    | _, _ => none
theorem run_places {w : World} (fs : List Field) : ∀ r, aplaces T fs = some r → (fs.mapM fun f => do pure (f.offset, ← sizeOf f.type) : Sem (List (Nat × Nat))).run P w = .ok r w := by
  induction fs with
  | nil => intro r e; obtain rfl := Option.some.inj e; rfl
  | cons f fs ih =>
    intro r e
    simp only [aplaces] at e
    split at e
    case h_2 => cases e
    rename_i ti r' ht hr
    obtain rfl := Option.some.inj e
    rw [List.mapM_cons]
    simp only [Sem.run_bind, run_sizeOf hT w ht, Result.andThen_ok, Sem.run_pure]
    rw [ih r' hr]; rfl
omit hT in
def abuild (T : Tab) (t : TypeId) (ps : List (Nat × AV)) : Option AV :=
  match T t with
  | some ti => match ti.under with
    | .struct fs => match aplaces T fs.toList with
      | some pl => (afill (fun i => pl[i]?) (ti.zero.cells.toList.map .val) ps).map .agg
      | none => none
    | .array _ e => match T e with
      | some te => (afill (fun i => some (i * te.size, te.size)) (ti.zero.cells.toList.map .val) ps).map .agg
      | none => none
    | _ => none
  | none => none
theorem run_build {κ : Kap} {w : World} {t : TypeId} {ps : List (Nat × AV)} {qs : Array (Nat × Value)} {y : AV} (hp : PR κ ps qs.toList) (e : abuild T t ps = some y) :
    ∃ u, (Instr.build t qs).run P w = .ok u w ∧ VR κ y u := by
  unfold abuild at e
  split at e
  case h_2 => cases e
  rename_i ti ht
  have hU := run_underlying hT w ht
  have hz := run_zeroValue hT w ht
  have hzero : VRs κ (ti.zero.cells.toList.map AV.val) ti.zero.cells.toList := ⟨by simp, fun i hi => VR.map_val κ _ i (by simpa using hi)⟩
  split at e
  case h_3 => cases e
  · rename_i fs hu
    rw [hu] at hU
    split at e
    case h_2 => cases e
    rename_i pl hpl
    obtain ⟨out, e1, rfl⟩ := Option.map_eq_some_iff.mp e
    obtain ⟨arr', g1, g2⟩ := afill_ok ps _ _ _ _ hp hzero e1
    refine ⟨.agg arr', ?_, ?_⟩
    · have hpm : (fs.mapM fun f => do pure (f.offset, ← sizeOf f.type) : Sem (Array (Nat × Nat))).run P w = .ok pl.toArray w := by
        rw [Array.mapM_eq_mapM_toList, Sem.run_map, run_places hT fs.toList pl hpl]; rfl
      have g1' : Instr.fill (fun x => pl.toArray[x]?) ti.zero.cells qs.toList = some arr' := by simpa using g1
      simp only [Instr.build, Sem.run_bind, hz, Result.andThen_ok, hU, hpm, g1']
      rfl
    · have := VR.agg (κ := κ) g2.1 g2.2
      simpa using this
  · rename_i n el hu
    rw [hu] at hU
    split at e
    case h_2 => cases e
    rename_i te hte
    obtain ⟨out, e1, rfl⟩ := Option.map_eq_some_iff.mp e
    obtain ⟨arr', g1, g2⟩ := afill_ok ps _ _ _ _ hp hzero e1
    refine ⟨.agg arr', ?_, ?_⟩
    · simp only [Instr.build, Sem.run_bind, hz, Result.andThen_ok, hU, run_sizeOf hT w hte, g1]
      rfl
    · have := VR.agg (κ := κ) g2.1 g2.2
      simpa using this
end

/-! ### rows of elements -/
/-- A row of cells, read element by element. -/
structure RowR (κ : Kap) (s : Nat) (es : List (List AV)) (arr : List Value) : Prop where
  len : arr.length = es.length * s
  esz : ∀ i, i < es.length → (es.getD i []).length = s
  get : ∀ i j, i < es.length → j < s → VR κ ((es.getD i []).getD j .any) (arr.getD (i * s + j) undef)
theorem RowR.mono {κ κ' : Kap} (E : Ext κ κ') {s : Nat} {es : List (List AV)} {arr : List Value} (h : RowR κ s es arr) : RowR κ' s es arr := ⟨h.len, h.esz, fun i j hi hj => (h.get i j hi hj).mono E⟩
theorem idx_lt {i j n s : Nat} (hi : i < n) (hj : j < s) : i * s + j < n * s := by
  have : (i + 1) * s ≤ n * s := Nat.mul_le_mul_right _ hi
  rw [Nat.add_mul, Nat.one_mul] at this; omega
theorem RowR.nil (κ : Kap) (s : Nat) : RowR κ s [] [] := ⟨by simp, fun i hi => absurd hi (Nat.not_lt_zero i), fun i j hi => absurd hi (Nat.not_lt_zero i)⟩
theorem RowR.append {κ : Kap} {s : Nat} {es fs : List (List AV)} {a b : List Value} (h : RowR κ s es a) (k : RowR κ s fs b) : RowR κ s (es ++ fs) (a ++ b) := by
  refine ⟨by rw [List.length_append, List.length_append, h.len, k.len, Nat.add_mul], fun i hi => ?_, fun i j hi hj => ?_⟩
  · by_cases c : i < es.length
    · have := h.esz i c; simpa [List.getD, List.getElem?_append, c] using this
    · have := k.esz (i - es.length) (by simp at hi; omega); simpa [List.getD, List.getElem?_append, c] using this
  · by_cases c : i < es.length
    · have := h.get i j c hj
      have c2 : i * s + j < a.length := by rw [h.len]; exact idx_lt c hj
      simpa [List.getD, List.getElem?_append, c, c2] using this
    · have := k.get (i - es.length) j (by simp at hi; omega) hj
      have c2 : ¬ i * s + j < a.length := by
        rw [h.len]
        have : es.length * s ≤ i * s := Nat.mul_le_mul_right _ (by omega)
        omega
      have e : i * s + j - a.length = (i - es.length) * s + j := by
        rw [h.len, Nat.sub_mul]
        have : es.length * s ≤ i * s := Nat.mul_le_mul_right _ (by omega)
        omega
      simp only [List.getD, List.getElem?_append, c, c2, if_false, e] at this ⊢
      exact this
/-- A new family out of a row. -/
theorem Stp.row {κ : Kap} {σ : AH} {w : World} (hr : Rel κ σ w) {φ st : Nat} {s lo cap : Nat} {pre es : List (List AV)} (row rest : List Value) (e : TypeId)
    (hnew : κ.ρ φ st = none) (hst : ∀ t, st < t → κ.ρ φ t = none) (hid : σ φ = none → ∀ t, κ.ρ φ t = none) (hpre : pre.length = lo)
    (hrow : RowR κ s es row) (hcap : es.length ≤ cap) (hsz : cap * s ≤ row.length + rest.length) :
    Stp κ σ w (κ.put φ st ⟨w.heap.size, 0, lo, cap, s⟩) (σ.set φ ⟨st, s, pre ++ es⟩) (w.alloc (.cells (row ++ rest).toArray e)) := by
  refine Stp.fresh (F' := ⟨st, s, pre ++ es⟩) hr _ e hnew hst hid (by simp [hpre]; exact hcap) (by simpa using hsz) ?_ ?_
  · intro i hlo hi
    have := hrow.esz (i - lo) (by simp at hi; omega)
    simp only [List.getD, List.getElem?_append, hpre, show ¬ i < lo by omega, if_false] at this ⊢
    exact this
  · intro i j hlo hi hj
    have hi' : i - lo < es.length := by simp at hi; omega
    have h1 := hrow.get (i - lo) j hi' hj
    have h2 : (i - lo) * s + j < row.length := by rw [hrow.len]; exact idx_lt hi' hj
    refine ⟨row.getD ((i - lo) * s + j) undef, ?_, ?_⟩
    · simp [List.getElem?_append, h2, List.getD]
    · simp only [List.getD, List.getElem?_append, hpre, show ¬ i < lo by omega, if_false] at h1 ⊢
      exact h1

/-! ### slices written out -/
def afillS (size : Nat) (es : List (List AV)) : List (Nat × AV) → Option (List (List AV))
  | [] => some es
  | (i, x) :: rest => match acells x with
    | some xs => if xs.length = size ∧ i < es.length then afillS size (es.set i xs) rest else none
    | none => none
theorem getD_fold (vs : List Value) : ∀ (off k : Nat) (arr : Array Value) (m : Nat), off + k + vs.length ≤ arr.size →
    ((vs.zipIdx k).foldl (fun cs (c, j) => cs.setIfInBounds (off + j) c) arr).toList.getD m undef = if off + k ≤ m ∧ m < off + k + vs.length then vs.getD (m - (off + k)) undef else arr.toList.getD m undef := by
  induction vs with
  | nil => intro off k arr m _; simp; omega
  | cons v vs ih =>
    intro off k arr m hle
    simp only [List.length_cons] at hle
    simp only [List.zipIdx_cons, List.foldl_cons]
    rw [ih off (k + 1) _ m (by simp; omega)]
    by_cases c : off + (k + 1) ≤ m ∧ m < off + (k + 1) + vs.length
    · rw [if_pos c, if_pos (by simp; omega)]
      have : m - (off + k) = (m - (off + (k + 1))) + 1 := by omega
      rw [this]; rfl
    · rw [if_neg c]
      by_cases c2 : m = off + k
      · subst c2
        rw [if_pos (by simp)]
        simp only [Array.toList_setIfInBounds, getD_set, true_and]
        rw [if_pos (by simp; omega)]; simp
      · rw [if_neg (by simp; omega)]
        simp only [Array.toList_setIfInBounds, getD_set]
        rw [if_neg (fun h => c2 h.1.symm)]
theorem size_fold (vs : List Value) : ∀ (off k : Nat) (arr : Array Value), ((vs.zipIdx k).foldl (fun cs (c, j) => cs.setIfInBounds (off + j) c) arr).size = arr.size := by
  induction vs with
  | nil => intro off k arr; rfl
  | cons v vs ih => intro off k arr; simp only [List.zipIdx_cons, List.foldl_cons]; rw [ih]; simp
theorem afillS_ok {κ : Kap} {s : Nat} (ps : List (Nat × AV)) : ∀ (qs : List (Nat × Value)) (es out : List (List AV)) (arr : Array Value), PR κ ps qs → RowR κ s es arr.toList → afillS s es ps = some out →
    ∃ arr', Instr.fill (fun i => some (i * s, s)) arr qs = some arr' ∧ RowR κ s out arr'.toList ∧ out.length = es.length := by
  induction ps with
  | nil =>
    intro qs es out arr hp hc e
    obtain rfl := hp.unnil
    obtain rfl := Option.some.inj e
    exact ⟨arr, rfl, hc, rfl⟩
  | cons p ps ih =>
    obtain ⟨i, x⟩ := p
    intro qs es out arr hp hc e
    obtain ⟨v, rs, rfl, hv, hp'⟩ := hp.uncons
    simp only [afillS] at e
    split at e
    case h_2 => cases e
    rename_i xs hx
    split at e
    case isFalse => cases e
    rename_i hcond
    have hxs := acells_ok hx hv
    have h1 : v.cells.size = s := by rw [← hcond.1, hxs.1]; simp
    have hle : i * s + s ≤ arr.size := by
      have a := hc.len
      have : (i + 1) * s ≤ es.length * s := Nat.mul_le_mul_right _ hcond.2
      rw [Nat.add_mul, Nat.one_mul] at this
      simp at a; omega
    have hlen : v.cells.toList.length = s := by simpa using h1
    have hnew : RowR κ s (es.set i xs) ((v.cells.toList.zipIdx 0).foldl (fun cs (c, j) => cs.setIfInBounds (i * s + j) c) arr).toList := by
      refine ⟨?_, fun k hk => ?_, fun k j hk hj => ?_⟩
      · have := hc.len; simp only [Array.length_toList] at this ⊢; rw [size_fold, this]; simp
      · rw [getD_set]; split
        · exact hcond.1
        · exact hc.esz k (by simpa using hk)
      · have hk' : k < es.length := by simpa using hk
        rw [getD_fold _ _ _ _ _ (by omega), getD_set]
        by_cases c : i = k
        · subst c
          rw [if_pos ⟨rfl, hcond.2⟩, if_pos (by omega)]
          have := hxs.2 j (by rw [hcond.1]; exact hj)
          rw [show i * s + j - (i * s + 0) = j by omega]; exact this
        · rw [if_neg (fun h => c h.1), if_neg ?_]
          · exact hc.get k j hk' hj
          · rintro ⟨a1, a2⟩
            apply c
            rcases Nat.lt_trichotomy i k with h | h | h
            · have : (i + 1) * s ≤ k * s := Nat.mul_le_mul_right _ h
              rw [Nat.add_mul, Nat.one_mul] at this; omega
            · exact h
            · have : (k + 1) * s ≤ i * s := Nat.mul_le_mul_right _ h
              rw [Nat.add_mul, Nat.one_mul] at this; omega
    obtain ⟨arr', g1, g2, g3⟩ := ih rs _ out _ hp' hnew e
    refine ⟨arr', ?_, g2, by rw [g3]; simp⟩
    simp only [Instr.fill, h1, ne_eq, not_true_eq_false, decide_false, Bool.false_or, decide_eq_true_eq]
    rw [if_neg (by omega), ← g1]
    congr 1
    rw [← Array.foldl_toList, Array.toList_zipIdx]
theorem RowR.zeros {κ : Kap} {ti : TI} (hz : ti.zero.cells.size = ti.size) (n : Nat) :
    RowR κ ti.size (List.replicate n (ti.zero.cells.toList.map .val)) ((Array.range (n * ti.size)).map (fun k => ti.zero.cells[k % ti.zero.cells.size]!)).toList := by
  refine ⟨by simp, fun i hi => ?_, fun i j hi hj => ?_⟩
  · have : i < n := by simpa using hi
    simp [List.getD, this, hz]
  · have hi' : i < n := by simpa using hi
    have hlt := idx_lt hi' hj
    have hmod : (i * ti.size + j) % ti.size = j := by rw [Nat.mul_comm, Nat.mul_add_mod]; exact Nat.mod_eq_of_lt hj
    have hj' : j < ti.zero.cells.size := by omega
    have e1 : (List.replicate n (ti.zero.cells.toList.map AV.val)).getD i [] = ti.zero.cells.toList.map AV.val := by simp [List.getD, hi']
    rw [e1]
    have e2 : ((Array.range (n * ti.size)).map (fun k => ti.zero.cells[k % ti.zero.cells.size]!)).toList.getD (i * ti.size + j) undef = ti.zero.cells.toList.getD j undef := by
      simp [List.getD, hlt, hz, hmod]
      rw [getElem!_pos ti.zero.cells j hj']; simp [hj']
    rw [e2]
    exact VR.map_val κ _ j (by simpa using hj')
end Go.Proofs.Ytjfdgijgkbojnaa.E
