/- How an argument reads as a setting. -/
import Derived.Test.YtjfdgijgkbojnaaDoorC2
import Derived.Test.YtjfdgijgkbojnaaDoorProg
set_option linter.unusedSectionVars false
set_option linter.unusedSimpArgs false
set_option linter.unusedVariables false
set_option maxRecDepth 100000
namespace Go.Proofs.YtjfdgijgkbojnaaDoor.E
open Go Go.RowKit
attribute [local instance] lam0
theorem dec_cfg {m : Nat} {cs : List AV} (h : Sh Tryd.prog (m + 2) 23 cs) : ∃ (s t : Int) (p q : Bool), cs = encF s t p q := by
  obtain ⟨h1, h2⟩ := dec_struct Tryd.underlying23 h
  rw [show Tryd.prog.cellsOf 23 = 4 from by decide +kernel] at h1
  obtain ⟨a, b, c, e, rfl⟩ : ∃ a b c e, cs = [a, b, c, e] := by match cs, h1 with | [a, b, c, e], _ => exact ⟨_, _, _, _, rfl⟩
  have g0 : Sh Tryd.prog (m + 1) 2 (([a, b, c, e].drop 0).take (Tryd.prog.cellsOf 2)) := h2 _ (.head _)
  rw [show Tryd.prog.cellsOf 2 = 1 from by decide +kernel] at g0
  have k0 : Sh Tryd.prog (m + 1) 2 [a] := g0
  obtain ⟨n0, e0, _⟩ := dec_int Tryd.underlying2 k0
  cases e0
  have g1 : Sh Tryd.prog (m + 1) 2 (([_, b, c, e].drop 1).take (Tryd.prog.cellsOf 2)) := h2 _ (.tail _ (.head _))
  rw [show Tryd.prog.cellsOf 2 = 1 from by decide +kernel] at g1
  have k1 : Sh Tryd.prog (m + 1) 2 [b] := g1
  obtain ⟨n1, e1, _⟩ := dec_int Tryd.underlying2 k1
  cases e1
  have g2 : Sh Tryd.prog (m + 1) 4 (([_, _, c, e].drop 2).take (Tryd.prog.cellsOf 4)) := h2 _ (.tail _ (.tail _ (.head _)))
  rw [show Tryd.prog.cellsOf 4 = 1 from by decide +kernel] at g2
  have k2 : Sh Tryd.prog (m + 1) 4 [c] := g2
  obtain ⟨p, e2⟩ := dec_bool Tryd.underlying4 k2
  cases e2
  have g3 : Sh Tryd.prog (m + 1) 4 (([_, _, _, e].drop 3).take (Tryd.prog.cellsOf 4)) := h2 _ (.tail _ (.tail _ (.tail _ (.head _))))
  rw [show Tryd.prog.cellsOf 4 = 1 from by decide +kernel] at g3
  have k3 : Sh Tryd.prog (m + 1) 4 [e] := g3
  obtain ⟨q, e3⟩ := dec_bool Tryd.underlying4 k3
  cases e3
  exact ⟨n0, n1, p, q, rfl⟩
end Go.Proofs.YtjfdgijgkbojnaaDoor.E
