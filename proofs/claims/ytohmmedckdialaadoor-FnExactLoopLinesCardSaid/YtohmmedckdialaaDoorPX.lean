/- From the library's contract on strings.Split to a call in abstract values. -/
import Derived.Test.YtohmmedckdialaaDoorMF
set_option linter.unusedSectionVars false
set_option linter.unusedSimpArgs false
set_option linter.unusedVariables false
namespace Go.Proofs.YtohmmedckdialaaDoor.E
open Go Go.RowKit
variable [L : Lam]
theorem acall_split {P : Program} {f g : Nat} {fn : Func} {el : TypeId} {sep : ByteArray} {xs : ByteArray → List ByteArray} (hf : P.funcs[f]? = some fn) (hb : fn.body.isNone = false) (hg : (fn.name == "runtime.NumGoroutine") = false)
    (hk : ∀ κ σ w, Rel κ σ w → ∃ m : Int, w.cell? ⟨g, 0, none⟩ = some (.int .i64 m)) (hx : ∀ s, 1 ≤ (xs s).length)
    (hc : ∀ (s : ByteArray) (m : Int) (w : World), s.size < 4294967281 → w.cell? ⟨g, 0, none⟩ = some (.int .i64 m) →
      Calls P f #[.string s, .string sep] w fun e w' => e = .returned (.slice (some ⟨w.heap.size, 0, none⟩) (xs s).length (xs s).length) ∧ w' = w.alloc (.cells ((xs s).map Value.string).toArray el))
    {σ : AH} {R : AEnd → AH → Prop} {s : ByteArray} (hs : s.size < 4294967281) (h : ∀ φ, σ φ = none → R (.ret (.own φ 0 0 (xs s).length)) (σ.set φ ⟨0, 1, (xs s).map fun x => [str x]⟩)) : acall P f [str s, str sep] σ R := by
  refine ⟨fn, hf, hb, hg, fun κ w vs hr hv => ?_⟩
  obtain ⟨v1, v2, rfl⟩ : ∃ v1 v2, vs = [v1, v2] := by
    have := hv.1
    match vs, this with
    | [a, b], _ => exact ⟨a, b, rfl⟩
  have e1 : v1 = .string s := by have h : VR κ (str s) v1 := hv.2 0 (by simp); cases h; rfl
  have e2 : v2 = .string sep := by have h : VR κ (str sep) v2 := hv.2 1 (by simp); cases h; rfl
  subst e1; subst e2
  obtain ⟨m, hm⟩ := hk κ σ w hr
  obtain ⟨φ, h0, h1⟩ := hr.newId
  refine (hc s m w hs hm).mono ?_
  rintro e w' ⟨rfl, rfl⟩
  have hrow : RowR κ 1 ((xs s).map fun x => [str x]) ((xs s).map Value.string) := by
    refine ⟨by simp, fun i hi => ?_, fun i j hi hj => ?_⟩
    · have : i < (xs s).length := by simpa using hi
      simp [this]
    · have hi' : i < (xs s).length := by simpa using hi
      obtain rfl : j = 0 := by omega
      have a1 : (((xs s).map fun x => [str x]).getD i []).getD 0 .any = str (xs s)[i] := by simp [List.getD, hi']
      have a2 : ((xs s).map Value.string).getD (i * 1 + 0) undef = .string (xs s)[i] := by simp [List.getD, hi']
      rw [a1, a2]
      exact .val _
  have key := Stp.row hr (φ := φ) (st := 0) (lo := 0) (cap := (xs s).length) (pre := []) ((xs s).map Value.string) [] el (h1 0) (fun t _ => h1 t) (fun _ => h1) rfl hrow (by simp) (by simp)
  rw [List.append_nil] at key
  refine ⟨_, _, _, h φ h0, key, ?_⟩
  have h3 := VR.own (κ := κ.put φ 0 ⟨w.heap.size, 0, 0, (xs s).length, 1⟩) (off := 0) (n := (xs s).length) (Kap.put_same κ φ 0 ⟨w.heap.size, 0, 0, (xs s).length, 1⟩) (Nat.le_refl _) (by simp)
  show VR _ _ _
  simpa using h3
end Go.Proofs.YtohmmedckdialaaDoor.E
