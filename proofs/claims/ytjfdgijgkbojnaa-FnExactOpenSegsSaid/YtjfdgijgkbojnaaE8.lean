/- The engine, part 8: append. -/
import Derived.Test.YtjfdgijgkbojnaaE7
set_option linter.unusedSectionVars false
namespace Go.Proofs.Ytjfdgijgkbojnaa.E
open Go Go.RowKit
variable [Lam]

/-! ### a run of cells stored -/
structure Stored (w w' : World) (b o : Nat) (vs : List Value) : Prop where
  size : w'.heap.size = w.heap.size
  other : ∀ k, k ≠ b → w'.heap[k]? = w.heap[k]?
  cell : ∀ i, w'.cell? ⟨b, i, none⟩ = if o ≤ i ∧ i < o + vs.length then some (vs.getD (i - o) undef) else w.cell? ⟨b, i, none⟩
  frozen : ∀ i, w'.frozen? ⟨b, i, none⟩ = w.frozen? ⟨b, i, none⟩
  row : ∀ c e fz, w.heap[b]? = some (.cells c e fz) → ∃ c', w'.heap[b]? = some (.cells c' e fz) ∧ c'.size = c.size
  os : w'.os = w.os
  tape : w'.tape = w.tape
  output : w'.output = w.output
theorem Stored.nil (w : World) (b o : Nat) : Stored w w b o [] :=
  ⟨rfl, fun _ _ => rfl, fun i => by rw [if_neg (by simp)], fun _ => rfl, fun c e fz h => ⟨c, h, rfl⟩, rfl, rfl, rfl⟩
theorem run_storeRow {P : Program} (vs : List Value) : ∀ (w : World) (b o n : Nat), (∀ j, j < vs.length → ∃ u, w.cell? ⟨b, o + n + j, none⟩ = some u) → (∀ j, j < vs.length → w.frozen? ⟨b, o + n + j, none⟩ = false) →
    (∀ v, v ∈ vs → v.oneCell' = true) → ∃ w', (storeCells ⟨b, o, none⟩ vs n).run P w = .ok () w' ∧ Stored w w' b (o + n) vs := by
  induction vs with
  | nil => intro w b o n _ _ _; exact ⟨w, rfl, Stored.nil ..⟩
  | cons v vs ih =>
    intro w b o n hc hf h1
    obtain ⟨u, hu⟩ := hc 0 (by simp)
    have hf0 := hf 0 (by simp)
    simp only [Nat.add_zero] at hu hf0
    have hst : (store ((⟨b, o, none⟩ : Addr).add n) v).run P w = .ok () (w.setCell ⟨b, o + n, none⟩ v) := by
      rw [addr_add, run_store P w _ v .plain (h1 v (by simp)), hu]; simp [hf0]
    have hsame : (w.setCell ⟨b, o + n, none⟩ v).cell? ⟨b, o + n, none⟩ = some v := World.cell?_setCell_same _ _ _ hu
    have hoth : ∀ i, i ≠ o + n → (w.setCell ⟨b, o + n, none⟩ v).cell? ⟨b, i, none⟩ = w.cell? ⟨b, i, none⟩ := by
      intro i hi; apply World.cell?_setCell_other; intro h; exact hi (congrArg Addr.off h).symm
    obtain ⟨w', e, hs⟩ := ih (w.setCell ⟨b, o + n, none⟩ v) b o (n + 1)
      (fun j hj => by
        obtain ⟨u, hu⟩ := hc (j + 1) (by simp; omega)
        refine ⟨u, ?_⟩
        rw [hoth _ (by omega), ← hu]; congr 2; omega)
      (fun j hj => by rw [World.frozen?_setCell]; have := hf (j + 1) (by simp; omega); rw [← this]; congr 2; omega)
      (fun x hx => h1 x (by simp [hx]))
    refine ⟨w', ?_, ?_⟩
    · simp only [storeCells, Sem.run_bind, hst, Result.andThen_ok]; exact e
    · refine ⟨by rw [hs.size]; simp, fun k hk => ?_, fun i => ?_, fun i => by rw [hs.frozen, World.frozen?_setCell], fun c el fz h => ?_, hs.os, hs.tape, hs.output⟩
      · rw [hs.other k hk, Below.heap_setCell _ _ _ _ hk]
      · rw [hs.cell i]
        by_cases c : i = o + n
        · subst c
          rw [if_neg (by omega), hsame, if_pos (by simp)]; simp
        · rw [hoth i c]
          by_cases c2 : o + (n + 1) ≤ i ∧ i < o + (n + 1) + vs.length
          · rw [if_pos c2, if_pos (by simp; omega)]
            have : i - (o + n) = (i - (o + (n + 1))) + 1 := by omega
            rw [this]; rfl
          · rw [if_neg c2, if_neg (by simp; omega)]
      · have h2 : (w.setCell ⟨b, o + n, none⟩ v).heap[b]? = some (.cells (c.setIfInBounds (o + n) v) el fz) := by
          simp only [World.setCell, Array.getElem?_modify, ↓reduceIte, h, Option.map_some]; rfl
        obtain ⟨c', g1, g2⟩ := hs.row _ _ _ h2
        exact ⟨c', g1, by rw [g2]; simp⟩

/-! ### what is appended -/
def aelems (σ : AH) : AV → Option (List (List AV))
  | .ro es => some es
  | .own φ st off n => match σ φ with
    | some F => if F.st = st ∧ off + n ≤ F.es.length then some ((F.es.drop off).take n) else none
    | none => none
  | .vw φ st off n => match σ φ with
    | some F => if F.st = st ∧ off + n ≤ F.es.length then some ((F.es.drop off).take n) else none
    | none => none
  | .emp => some []
  | .val (.slice none 0 0) => some []
  | .val (.string s) => some (s.data.toList.map fun b => [.val (.int .u8 b.toNat)])
  | _ => none
theorem div_parts {k n s : Nat} (hk : k < n * s) : ∃ q m, q < n ∧ m < s ∧ q * s + m = k := by
  have hspos : 0 < s := Nat.pos_of_ne_zero (by rintro rfl; simp at hk)
  exact ⟨k / s, k % s, Nat.div_lt_of_lt_mul (by rw [Nat.mul_comm]; exact hk), Nat.mod_lt _ hspos, by rw [Nat.mul_comm]; exact Nat.div_add_mod ..⟩
theorem getD_eq {α : Type} {l : List α} {i : Nat} (h : i < l.length) (d : α) : l.getD i d = l[i] := by simp [List.getD, h]
theorem run_source {P : Program} {κ : Kap} {σ : AH} {w : World} (hr : Rel κ σ w) {x : AV} {v : Value} {xs : List (List AV)} {s : Nat} (h : VR κ x v) (e : aelems σ x = some xs) (hs : ∀ c, c ∈ xs → c.length = s) :
    (Builtin.lenOf v).run P w = .ok xs.length w ∧ ∃ new : List Value, RowR κ s xs new ∧ ∀ w', (∀ b o u, w.cell? ⟨b, o, none⟩ = some u → w'.cell? ⟨b, o, none⟩ = some u) → (Builtin.firstCells s xs.length v).run P w' = .ok new.toArray w' := by
  have hs' : ∀ i, i < xs.length → (xs.getD i []).length = s := fun i hi => hs _ (by rw [getD_eq hi]; exact List.getElem_mem hi)
  cases h with
  | roEnd a =>
    obtain rfl := Option.some.inj e
    refine ⟨rfl, [], .nil κ s, fun w' _ => ?_⟩
    cases a with
    | none => rfl
    | some a => simp [Builtin.firstCells, loadCells, loadCellsFrom]
  | @ro xs b off cap sz vals hc hz hm hv =>
    obtain rfl := Option.some.inj e
    refine ⟨rfl, (List.range (xs.length * s)).map (fun k => (w.cell? ⟨b, off + k, none⟩).getD undef), ⟨by simp, hs', fun i j hi hj => ?_⟩, fun w' hw' => ?_⟩
    · have hsz : sz = s := by rw [← hz i hi, hs' i hi]
      subst hsz
      have hlt := idx_lt hi hj
      have h1 := hr.mem _ _ _ (hm i j hi hj)
      rw [Nat.add_assoc] at h1
      have : ((List.range (xs.length * sz)).map (fun k => (w.cell? ⟨b, off + k, none⟩).getD undef)).getD (i * sz + j) undef = vals i j := by
        simp [List.getD, hlt, h1]
      rw [this]; exact hv i j hi hj
    · have := run_loadCells (P := P) w' ⟨b, off, none⟩ (xs.length * s) (fun k => (w.cell? ⟨b, off + k, none⟩).getD undef) (fun k hk => ?_)
      · simpa [Builtin.firstCells] using this
      · rw [addr_add]
        obtain ⟨q, m, hi, hj, hk'⟩ := div_parts hk
        have hsz : sz = s := by rw [← hz _ hi, hs' _ hi]
        subst hsz
        have h1 := hr.mem _ _ _ (hm _ _ hi hj)
        rw [Nat.add_assoc, hk'] at h1
        rw [hw' _ _ _ h1, h1]; rfl
  | @own φ st off n r hρ hlo hn =>
    simp only [aelems] at e
    split at e
    case h_2 => cases e
    rename_i F hF
    split at e
    case isFalse => cases e
    rename_i hc
    obtain ⟨rfl, hle⟩ := hc
    obtain rfl := Option.some.inj e
    have hlen : ((F.es.drop off).take n).length = n := by simp; omega
    obtain ⟨r', e1, _, H⟩ := hr.has φ F hF
    rw [hρ] at e1; obtain rfl := Option.some.inj e1
    have hget : ∀ i, i < n → ((F.es.drop off).take n).getD i [] = F.es.getD (off + i) [] := fun i hi => by rw [getD_take _ _ _ _ hi, getD_drop]
    rw [hlen]
    refine ⟨rfl, (List.range (n * s)).map (fun k => (w.cell? ⟨r.b, r.base + (off - r.lo) * r.sz + k, none⟩).getD undef), ⟨by simp [hlen], hs', fun i j hi hj => ?_⟩, fun w' hw' => ?_⟩
    · have hi' : i < n := by omega
      have hsz : r.sz = s := by rw [H.sz, ← H.esz (off + i) (by omega) (by omega), ← hget i hi', hs' i hi]
      have hlt := idx_lt hi' hj
      obtain ⟨u, h1, h2⟩ := H.cell (off + i) j (by omega) (by omega) (by rw [← H.sz, hsz]; exact hj)
      have e2 : r.base + (off + i - r.lo) * r.sz + j = r.base + (off - r.lo) * r.sz + (i * s + j) := by
        rw [show off + i - r.lo = (off - r.lo) + i by omega, Nat.add_mul, hsz]; omega
      rw [e2] at h1
      have : ((List.range (n * s)).map (fun k => (w.cell? ⟨r.b, r.base + (off - r.lo) * r.sz + k, none⟩).getD undef)).getD (i * s + j) undef = u := by
        simp [List.getD, hlt, h1]
      rw [this, hget i hi']; exact h2
    · have := run_loadCells (P := P) w' ⟨r.b, r.base + (off - r.lo) * r.sz, none⟩ (n * s) (fun k => (w.cell? ⟨r.b, r.base + (off - r.lo) * r.sz + k, none⟩).getD undef) (fun k hk => ?_)
      · simpa [Builtin.firstCells] using this
      · rw [addr_add]
        obtain ⟨q, m, hi, hj, hk'⟩ := div_parts hk
        have hsz : r.sz = s := by rw [H.sz, ← H.esz (off + q) (by omega) (by omega), ← hget _ hi, hs' _ (by omega)]
        obtain ⟨u, h1, h2⟩ := H.cell (off + q) m (by omega) (by omega) (by rw [← H.sz, hsz]; exact hj)
        have e2 : r.base + (off + q - r.lo) * r.sz + m = r.base + (off - r.lo) * r.sz + k := by
          rw [show off + q - r.lo = (off - r.lo) + q by omega, Nat.add_mul, hsz]; omega
        rw [e2] at h1
        rw [hw' _ _ _ h1, h1]; rfl
  | @vw φ st off n cap r hρ hlo hn =>
    simp only [aelems] at e
    split at e
    case h_2 => cases e
    rename_i F hF
    split at e
    case isFalse => cases e
    rename_i hc
    obtain ⟨rfl, hle⟩ := hc
    obtain rfl := Option.some.inj e
    have hlen : ((F.es.drop off).take n).length = n := by simp; omega
    obtain ⟨r', e1, _, H⟩ := hr.has φ F hF
    rw [hρ] at e1; obtain rfl := Option.some.inj e1
    have hget : ∀ i, i < n → ((F.es.drop off).take n).getD i [] = F.es.getD (off + i) [] := fun i hi => by rw [getD_take _ _ _ _ hi, getD_drop]
    rw [hlen]
    refine ⟨rfl, (List.range (n * s)).map (fun k => (w.cell? ⟨r.b, r.base + (off - r.lo) * r.sz + k, none⟩).getD undef), ⟨by simp [hlen], hs', fun i j hi hj => ?_⟩, fun w' hw' => ?_⟩
    · have hi' : i < n := by omega
      have hsz : r.sz = s := by rw [H.sz, ← H.esz (off + i) (by omega) (by omega), ← hget i hi', hs' i hi]
      have hlt := idx_lt hi' hj
      obtain ⟨u, h1, h2⟩ := H.cell (off + i) j (by omega) (by omega) (by rw [← H.sz, hsz]; exact hj)
      have e2 : r.base + (off + i - r.lo) * r.sz + j = r.base + (off - r.lo) * r.sz + (i * s + j) := by
        rw [show off + i - r.lo = (off - r.lo) + i by omega, Nat.add_mul, hsz]; omega
      rw [e2] at h1
      have : ((List.range (n * s)).map (fun k => (w.cell? ⟨r.b, r.base + (off - r.lo) * r.sz + k, none⟩).getD undef)).getD (i * s + j) undef = u := by
        simp [List.getD, hlt, h1]
      rw [this, hget i hi']; exact h2
    · have := run_loadCells (P := P) w' ⟨r.b, r.base + (off - r.lo) * r.sz, none⟩ (n * s) (fun k => (w.cell? ⟨r.b, r.base + (off - r.lo) * r.sz + k, none⟩).getD undef) (fun k hk => ?_)
      · simpa [Builtin.firstCells] using this
      · rw [addr_add]
        obtain ⟨q, m, hi, hj, hk'⟩ := div_parts hk
        have hsz : r.sz = s := by rw [H.sz, ← H.esz (off + q) (by omega) (by omega), ← hget _ hi, hs' _ (by omega)]
        obtain ⟨u, h1, h2⟩ := H.cell (off + q) m (by omega) (by omega) (by rw [← H.sz, hsz]; exact hj)
        have e2 : r.base + (off + q - r.lo) * r.sz + m = r.base + (off - r.lo) * r.sz + k := by
          rw [show off + q - r.lo = (off - r.lo) + q by omega, Nat.add_mul, hsz]; omega
        rw [e2] at h1
        rw [hw' _ _ _ h1, h1]; rfl
  | @ownEnd φ st off r a hρ hoff =>
    simp only [aelems] at e
    split at e
    case h_2 => cases e
    split at e
    case isFalse => cases e
    obtain rfl := Option.some.inj e
    refine ⟨by simp [Builtin.lenOf], [], by simpa using RowR.nil κ s, fun w' _ => ?_⟩
    obtain ⟨ab, ao, as⟩ := a
    simp [Builtin.firstCells, loadCells, loadCellsFrom]
  | emp a =>
    obtain rfl := Option.some.inj e
    refine ⟨rfl, [], .nil κ s, fun w' _ => ?_⟩
    cases a with
    | none => rfl
    | some a => simp [Builtin.firstCells, loadCells, loadCellsFrom]
  | val v =>
    unfold aelems at e
    split at e <;> first | (cases e; done) | skip
    · rename_i hh; cases hh
    · rename_i hh; cases hh
    · rename_i hh; cases hh
    · rename_i hh; cases hh
    · rename_i hh
      obtain rfl := AV.val.inj hh
      obtain rfl := Option.some.inj e
      exact ⟨rfl, [], .nil κ s, fun w' _ => rfl⟩
    · rename_i st hh
      obtain rfl := AV.val.inj hh
      obtain rfl := Option.some.inj e
      refine ⟨by simp [Builtin.lenOf], st.data.toList.map (fun b => .int .u8 b.toNat), ?_, fun w' _ => ?_⟩
      · refine ⟨?_, hs', fun i j hi hj => ?_⟩
        · by_cases h0 : st.data.toList.length = 0
          · simp [h0]
          · have := hs [.val (.int .u8 (st.data.toList[0]'(by omega)).toNat)] (by simp only [List.mem_map]; exact ⟨_, List.getElem_mem _, rfl⟩)
            simp at this; simp [← this]
        · have hi' : i < st.data.toList.length := by simpa using hi
          have e1 : ((st.data.toList.map fun b => [AV.val (.int .u8 b.toNat)]).getD i []) = [AV.val (.int .u8 (st.data.toList[i]).toNat)] := by
            rw [getD_eq (by simpa using hi')]; simp
          have := hs' i hi
          rw [e1] at this; simp at this; subst this
          obtain rfl : j = 0 := by omega
          rw [e1]
          have e2 : (st.data.toList.map (fun b => Value.int .u8 b.toNat)).getD (i * 1 + 0) undef = .int .u8 (st.data.toList[i]).toNat := by
            rw [getD_eq (by simpa using hi')]; simp
          rw [e2]; exact .val _
      · have hsz : st.size = st.data.size := rfl
        simp only [Builtin.firstCells, Sem.run_pure, List.length_map]
        congr 1
        have : st.extract 0 st.data.toList.length = st := by
          have h := ByteArray.extract_zero_size (b := st)
          exact h
        rw [this]
        apply Array.ext'; simp
  | _ => cases e
end Go.Proofs.Ytjfdgijgkbojnaa.E
