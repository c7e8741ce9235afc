/- The engine, part 7: a slice written out, a slice made, append. -/
import Derived.Test.YtjfdgijgkbojnaaE6
set_option linter.unusedSectionVars false
namespace Go.Proofs.Ytjfdgijgkbojnaa.E
open Go Go.RowKit
variable [Lam]

theorem range0 (f : Nat → Value) : (Array.range 0).map f = #[] := by
  apply Array.ext'; simp [Array.toList_range]
section
variable {P : Program} {T : Tab} (hT : TabOk P T)
include hT
omit hT in
def abuildSlice (T : Tab) (t : TypeId) (len : Nat) (ps : List (Nat × AV)) (σ : AH) (k : AV → AH → Prop) : Prop :=
  match T t with
  | some ti => match ti.under with
    | .slice e => match T e with
      | some te => match afillS te.size (List.replicate len (te.zero.cells.toList.map .val)) ps with
        | some es => len * te.size ≤ 2 ^ 24 ∧ ∀ φ, σ φ = none → k (.own φ 0 0 len) (σ.set φ ⟨0, te.size, es⟩)
        | none => False
      | none => False
    | _ => False
  | none => False
theorem run_buildSlice {κ : Kap} {σ : AH} {w : World} (hr : Rel κ σ w) {t : TypeId} {len : Nat} {ps : List (Nat × AV)} {qs : Array (Nat × Value)} {k : AV → AH → Prop} (hp : PR κ ps qs.toList) (e : abuildSlice T t len ps σ k) :
    ∃ v w' κ' σ' x, (Instr.buildSlice t len qs).run P w = .ok v w' ∧ k x σ' ∧ Stp κ σ w κ' σ' w' ∧ VR κ' x v := by
  unfold abuildSlice at e
  split at e
  case h_2 => exact e.elim
  rename_i ti ht
  have hU := run_underlying hT w ht
  split at e
  case h_2 => exact e.elim
  rename_i el hu
  rw [hu] at hU
  split at e
  case h_2 => exact e.elim
  rename_i te hte
  split at e
  case h_2 => exact e.elim
  rename_i es hes
  obtain ⟨hb, hk⟩ := e
  have hS := run_sizeOf hT w hte
  have hZ := run_zeroValue hT w hte
  have hz0 := RowR.zeros (κ := κ) (hT.zsz el te hte) len
  obtain ⟨arr', g1, g2, g3⟩ := afillS_ok ps _ _ _ _ hp hz0 hes
  obtain ⟨φ, h0, h1⟩ := hr.newId
  have hlen : es.length = len := by rw [g3]; simp
  have key := Stp.row hr (φ := φ) (st := 0) (lo := 0) (cap := len) (pre := []) arr'.toList [] el (h1 0) (fun t _ => h1 t) (fun _ => h1) rfl g2 (by omega) (by rw [g2.len, hlen]; simp)
  refine ⟨.slice (some ⟨w.heap.size, 0, none⟩) len len, _, _, _, .own φ 0 0 len, ?_, hk φ h0, key, ?_⟩
  · have hzz : ∀ (z : Array Value), z = (if len * te.size = 0 then #[] else te.zero.cells) → (Array.range (len * te.size)).map (fun k => z[k % z.size]!) = (Array.range (len * te.size)).map (fun k => te.zero.cells[k % te.zero.cells.size]!) := by
      intro z hz
      by_cases c : len * te.size = 0
      · rw [c, range0, range0]
      · rw [if_neg c] at hz; rw [hz]
    by_cases c : len * te.size = 0
    · have c' := hzz #[] (by rw [if_pos c])
      have g1' : Instr.fill (fun i => some (i * te.size, te.size)) ((Array.range (len * te.size)).map (fun k => (#[] : Array Value)[k % (#[] : Array Value).size]!)) qs.toList = some arr' := by rw [c']; exact g1
      simp only [Instr.buildSlice, Sem.run_bind, hU, Result.andThen_ok, hS]
      rw [if_neg (by omega), if_pos c]
      simp only [Sem.run_pure, Result.andThen_ok, g1', newRow, Sem.run_bind, run_newObj]
      simp
    · simp only [Instr.buildSlice, Sem.run_bind, hU, Result.andThen_ok, hS]
      rw [if_neg (by omega), if_neg c]
      simp only [Sem.run_bind, hZ, Sem.run_pure, Result.andThen_ok, g1, newRow, run_newObj]
      simp
  · have h := VR.own (κ := κ.put φ 0 ⟨w.heap.size, 0, 0, len, te.size⟩) (off := 0) (n := len) (Kap.put_same κ φ 0 ⟨w.heap.size, 0, 0, len, te.size⟩) (Nat.le_refl _) (by simp)
    simpa using h

omit hT in
def amake (T : Tab) (t : TypeId) (l c : AV) (σ : AH) (k : AV → AH → Prop) : Prop :=
  match T t, l, c with
  | some ti, .val (.int _ n), .val (.int _ m) => match ti.under with
    | .slice e => match T e with
      | some te => 0 ≤ n ∧ n ≤ m ∧ m ≤ 1099511627776 ∧ te.bytes ≤ 128 ∧ ∀ φ, σ φ = none → k (.own φ 0 0 n.toNat) (σ.set φ ⟨0, te.size, List.replicate m.toNat (te.zero.cells.toList.map .val)⟩)
      | none => False
    | _ => False
  | _, _, _ => False
omit hT in
theorem wrap_small {n : Int} (h0 : 0 ≤ n) (h1 : n ≤ 1099511627776) : IntKind.i64.wrap n = n := by
  have e : n % (2 ^ IntKind.i64.bits : Int) = n := Int.emod_eq_of_lt h0 (by simp [IntKind.bits]; omega)
  unfold IntKind.wrap
  simp only [e]
  have : ¬ (IntKind.i64.signed = true ∧ n ≥ (2 ^ (IntKind.i64.bits - 1) : Int)) := by
    simp [IntKind.bits, IntKind.signed]; omega
  simp only [Bool.and_eq_true, decide_eq_true_eq, this, if_false]
theorem run_make {κ : Kap} {σ : AH} {w : World} (hr : Rel κ σ w) {t : TypeId} {l c : AV} {lv cv : Value} {k : AV → AH → Prop} (hl : VR κ l lv) (hc : VR κ c cv) (e : amake T t l c σ k) :
    ∃ v w' κ' σ' x, (Instr.makeSlice t lv cv).run P w = .ok v w' ∧ k x σ' ∧ Stp κ σ w κ' σ' w' ∧ VR κ' x v := by
  unfold amake at e
  split at e
  case h_2 => exact e.elim
  rename_i ti k1 n k2 m ht
  cases hl; cases hc
  have hU := run_underlying hT w ht
  split at e
  case h_2 => exact e.elim
  rename_i el hu
  rw [hu] at hU
  split at e
  case h_2 => exact e.elim
  rename_i te hte
  obtain ⟨a1, a2, a3, a4, hk⟩ := e
  obtain ⟨φ, h0, h1⟩ := hr.newId
  obtain ⟨inf, i1, i2, i3, i4⟩ := run_typeInfo hT w hte
  have hS := run_sizeOf hT w hte
  have hZ := run_zeroValue hT w hte
  have hz0 := RowR.zeros (κ := κ) (hT.zsz el te hte) m.toNat
  have hbm : (te.bytes : Int) * m ≤ 2 ^ 48 := by
    have : (te.bytes : Int) * m ≤ 128 * m := Int.mul_le_mul_of_nonneg_right (by omega) (by omega)
    omega
  have key := Stp.row hr (φ := φ) (st := 0) (lo := 0) (cap := m.toNat) (pre := []) _ [] el (h1 0) (fun t _ => h1 t) (fun _ => h1) rfl hz0 (by simp) (by simp)
  refine ⟨.slice (some ⟨w.heap.size, 0, none⟩) n.toNat m.toNat, _, _, _, .own φ 0 0 n.toNat, ?_, hk φ h0, key, ?_⟩
  · have w1 := wrap_small a1 (by omega : n ≤ 1099511627776)
    have w2 := wrap_small (by omega : 0 ≤ m) a3
    have c1 : ¬ (m < 0) := by omega
    have c2 : ¬ ((te.bytes : Int) * m > 2 ^ 48) := by omega
    have c3 : ¬ (n < 0) := by omega
    have c4 : ¬ (n > m) := by omega
    have hcond : ((decide (m < 0) || decide ((te.bytes : Int) * m > 2 ^ 48) || decide (n < 0) || decide (n > m)) = true) = False := by
      simp only [c1, c2, c3, c4, decide_false, Bool.or_self]; simp
    simp only [Instr.makeSlice, Sem.run_bind, hU, Result.andThen_ok, asInt, asIntOf, Sem.run_pure, i1, i3, w1, w2]
    simp only [hcond, if_false, Sem.run_bind, run_askRoom, Result.andThen_ok, hS]
    by_cases cz : m.toNat * te.size = 0
    · rw [if_pos cz]
      simp only [Sem.run_pure, Result.andThen_ok, newRow, Sem.run_bind, run_newObj]
      rw [cz]; simp only [range0]; simp
    · rw [if_neg cz]
      simp only [Sem.run_bind, hZ, Sem.run_pure, Result.andThen_ok, newRow, run_newObj]
      simp
      congr 2; apply Array.ext'; simp [Array.toList_range]
  · have h := VR.own (κ := κ.put φ 0 ⟨w.heap.size, 0, 0, m.toNat, te.size⟩) (off := 0) (n := n.toNat) (Kap.put_same κ φ 0 ⟨w.heap.size, 0, 0, m.toNat, te.size⟩) (Nat.le_refl _) (by simp; omega)
    simpa using h
end
end Go.Proofs.Ytjfdgijgkbojnaa.E
