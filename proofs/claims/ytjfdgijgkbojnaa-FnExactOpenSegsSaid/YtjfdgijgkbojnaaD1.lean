/- Stacks of pieces as arguments of rows. -/
import Derived.Test.YtjfdgijgkbojnaaH4
set_option linter.unusedSectionVars false
set_option linter.unusedSimpArgs false
set_option linter.unusedVariables false
namespace Go.Proofs.Ytjfdgijgkbojnaa.E
open Go Go.RowKit
variable [Lam]
theorem one_of {c : List AV} {x : AV} (hl : c.length = 1) (h : (c.drop 0).take 1 = [x]) : c = [x] := by
  match c, hl with
  | [y], _ => simpa using h
theorem two_of {c : List AV} {x y : AV} (hl : c.length = 2) (h : (c.drop 0).take 1 = [x]) (k : (c.drop 1).take 1 = [y]) : c = [x, y] := by
  match c, hl with
  | [a, b], _ => simp at h k; rw [h, k]
theorem dec_part {P : Program} {m : Nat} {e u : TypeId} {g : Field} {c : List AV} (he : P.underlying e = some (.struct #[g])) (hc : P.cellsOf e = 1) (g0 : g.offset = 0) (gc : P.cellsOf g.type = 1) (hg : P.underlying g.type = some (.slice u))
    (hu : P.underlying u = some (.int .i64)) (h : Sh P (m + 3) e c) : ∃ p : List Int, c = [roN p] ∧ p.length ≤ maxLen := by
  obtain ⟨h1, h2⟩ := dec_struct he h
  have h3 := h2 g (by simp)
  rw [g0, gc] at h3
  obtain ⟨ns, k1, k2, _⟩ := dec_ints hg hu h3
  exact ⟨ns, one_of (by rw [h1, hc]) k1, k2⟩
theorem dec_segs {P : Program} {m : Nat} {t e u : TypeId} {f0 f1 g : Field} {cs : List AV} (ht : P.underlying t = some (.struct #[f0, f1])) (tc : P.cellsOf t = 2) (o0 : f0.offset = 0) (o1 : f1.offset = 1) (c0 : P.cellsOf f0.type = 1) (c1 : P.cellsOf f1.type = 1)
    (hf0 : P.underlying f0.type = some (.int .i64)) (hf1 : P.underlying f1.type = some (.slice e)) (he : P.underlying e = some (.struct #[g])) (hc : P.cellsOf e = 1) (g0 : g.offset = 0) (gc : P.cellsOf g.type = 1) (hg : P.underlying g.type = some (.slice u))
    (hu : P.underlying u = some (.int .i64)) (h : Sh P (m + 5) t cs) : ∃ (size : Int) (ps : List (List Int)), cs = [iv size, roP ps] ∧ (Lit.int .i64 size).wf = true ∧ ps.length ≤ maxLen ∧ ∀ p, p ∈ ps → p.length ≤ maxLen := by
  obtain ⟨h1, h2⟩ := dec_struct ht h
  have h3 := h2 f0 (by simp)
  have h4 := h2 f1 (by simp)
  rw [o0, c0] at h3
  rw [o1, c1] at h4
  obtain ⟨n, k1, k2⟩ := dec_int hf0 h3
  obtain ⟨es, k3, k4, k5⟩ := dec_slice hf1 h4
  obtain ⟨ps, rfl, k6⟩ := exists_map (f := fun p : List Int => [roN p]) (Q := fun p => p.length ≤ maxLen) es fun c hcm => dec_part he hc g0 gc hg hu (k5 c hcm)
  exact ⟨n, ps, two_of (by rw [h1, tc]) k1 k3, k2, by simpa using k4, k6⟩
end Go.Proofs.Ytjfdgijgkbojnaa.E
