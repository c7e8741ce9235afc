/- strings.Split and ParseNum as calls in abstract values. -/
import Derived.Test.YtohmmedckdialaaDoorN2
import Derived.Test.YtohmmedckdialaaDoorPX
set_option linter.unusedSectionVars false
set_option linter.unusedSimpArgs false
set_option linter.unusedVariables false
namespace Go.Proofs.YtohmmedckdialaaDoor.E
open Go Go.RowKit
set_option maxRecDepth 100000
/-- What the first world is known to hold. -/
def QS (w : World) : Prop := NumW w ∧ ∃ m : Int, w.cell? ⟨0, 0, none⟩ = some (.int .i64 m)
variable [L : Lam] [K : Knows QS]
theorem QS_at {κ : Kap} {σ : AH} {w : World} (hr : Rel κ σ w) : QS w := by
  obtain ⟨⟨h1, m, h2⟩, hB⟩ := K.knows κ hr.kp
  exact ⟨h1.below hr.bel hB, m, cell_below h2 hr.bel hB⟩
variable {σ : AH} {R : AEnd → AH → Prop}
theorem c_impl_ParseNum {s : ByteArray} (hs : s.size ≤ 1048576) (h : R (.ret (.agg [iv (numP s).2, iv (numP s).1])) σ) : acall TP fn_impl_ParseNum [str s] σ R := by
  refine ⟨_, Tryd.func36, rfl, by decide, fun κ w vs hr hv => ?_⟩
  obtain ⟨v, rfl⟩ : ∃ v, vs = [v] := by
    have := hv.1
    match vs, this with
    | [a], _ => exact ⟨a, rfl⟩
  have e1 : v = .string s := by have h : VR κ (str s) v := hv.2 0 (by simp); cases h; rfl
  subst e1
  refine (w_ParseNum s (by omega) w (QS_at hr).1).mono ?_
  rintro e w' ⟨rfl, hw⟩
  refine ⟨κ, _, σ, h, .below hr hw, ?_⟩
  show VR κ (.agg [iv (numP s).2, iv (numP s).1]) (.agg [Value.int .i64 (numP s).2, Value.int .i64 (numP s).1].toArray)
  refine .agg rfl fun i hi => ?_
  match i, hi with
  | 0, _ => exact .val _
  | 1, _ => exact .val _
theorem c_strings_Split {s : ByteArray} {c : UInt8} (hs : s.size ≤ 1048576) (h : ∀ φ, σ φ = none → R (.ret (.own φ 0 0 (pcs ⟨#[c]⟩ s).length)) (σ.set φ ⟨0, 1, (pcs ⟨#[c]⟩ s).map fun x => [str x]⟩)) : acall TP fn_strings_Split [str s, str ⟨#[c]⟩] σ R := by
  refine acall_split (g := 0) (el := 9) (xs := pcs ⟨#[c]⟩) Tryd.func27 rfl (by decide) (fun κ σ w hr => (QS_at hr).2) (fun s => by rw [pcs_length _ _ (by show 1 ≤ 1; omega)]; omega) (fun s m w h1 h2 => ?_) (by omega) h
  have := sh_strings_Split s ⟨#[c]⟩ m w h1 h2 (by show 1 ≤ 1; omega)
  rw [← pcs_length _ _ (by show 1 ≤ 1; omega)] at this
  exact this
theorem fz_strs {φ : Nat} {xs : List ByteArray} (hφ : σ φ = none) : Fz σ (σ.set φ ⟨0, 1, xs.map fun x => [str x]⟩) (.own φ 0 0 xs.length) (.ro (xs.map fun x => [str x])) := by
  refine .own (AH.set_same ..) hφ rfl (by simp) (by simp) (fun i hi => ?_) (fun i j hi hj => ?_)
  · simp [hi]
  · simp only [Nat.zero_add]
    exact .same _
theorem c_strings_Split_ro {s : ByteArray} {c : UInt8} (hs : s.size ≤ 1048576) (h : R (.ret (.ro ((pcs ⟨#[c]⟩ s).map fun x => [str x]))) σ) : acall TP fn_strings_Split [str s, str ⟨#[c]⟩] σ R := by
  refine acall_imp (c_strings_Split (R := fun e σ' => ∃ φ, σ φ = none ∧ e = .ret (.own φ 0 0 (pcs ⟨#[c]⟩ s).length) ∧ σ' = σ.set φ ⟨0, 1, (pcs ⟨#[c]⟩ s).map fun x => [str x]⟩) hs (fun φ hφ => ⟨φ, hφ, rfl, rfl⟩)) ?_
  rintro e σ' ⟨φ, hφ, rfl, rfl⟩
  exact ⟨_, rfl, _, σ, imp_freeze (.set (.refl σ) _ hφ) (fz_strs hφ), h⟩
end Go.Proofs.YtohmmedckdialaaDoor.E
