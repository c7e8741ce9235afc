/- How arguments read as lists of blocks. Printed by mkdec.py. -/
import Derived.Test.YtinhodpfgjddmaaDoorP7
import Derived.Test.YtinhodpfgjddmaaDoorProg
set_option linter.unusedSectionVars false
set_option linter.unusedSimpArgs false
set_option linter.unusedVariables false
set_option maxRecDepth 100000
namespace Go.Proofs.YtinhodpfgjddmaaDoor.E
open Go Go.RowKit
attribute [local instance] lam0
theorem dec_dat {m : Nat} {cs : List AV} (h : Sh Tryd.prog (m + 2) 74 cs) : ∃ x : Dat, cs = encDat x ∧ x.name.size ≤ 9223372036854775807 := by
  obtain ⟨h1, h2⟩ := dec_struct Tryd.underlying74 h
  rw [show Tryd.prog.cellsOf 74 = 4 from by decide +kernel] at h1
  obtain ⟨a, b, c, e, rfl⟩ : ∃ a b c e, cs = [a, b, c, e] := by match cs, h1 with | [a, b, c, e], _ => exact ⟨_, _, _, _, rfl⟩
  have g0 : Sh Tryd.prog (m + 1) 2 (([a, b, c, e].drop 0).take (Tryd.prog.cellsOf 2)) := h2 _ (.head _)
  rw [show Tryd.prog.cellsOf 2 = 1 from by decide +kernel] at g0
  have k0 : Sh Tryd.prog (m + 1) 2 [a] := g0
  obtain ⟨n0, e0, w0⟩ := dec_int Tryd.underlying2 k0
  cases e0
  have g1 : Sh Tryd.prog (m + 1) 2 (([_, b, c, e].drop 1).take (Tryd.prog.cellsOf 2)) := h2 _ (.tail _ (.head _))
  rw [show Tryd.prog.cellsOf 2 = 1 from by decide +kernel] at g1
  have k1 : Sh Tryd.prog (m + 1) 2 [b] := g1
  obtain ⟨n1, e1, w1⟩ := dec_int Tryd.underlying2 k1
  cases e1
  have g2 : Sh Tryd.prog (m + 1) 2 (([_, _, c, e].drop 2).take (Tryd.prog.cellsOf 2)) := h2 _ (.tail _ (.tail _ (.head _)))
  rw [show Tryd.prog.cellsOf 2 = 1 from by decide +kernel] at g2
  have k2 : Sh Tryd.prog (m + 1) 2 [c] := g2
  obtain ⟨n2, e2, w2⟩ := dec_int Tryd.underlying2 k2
  cases e2
  have g3 : Sh Tryd.prog (m + 1) 9 (([_, _, _, e].drop 3).take (Tryd.prog.cellsOf 9)) := h2 _ (.tail _ (.tail _ (.tail _ (.head _))))
  rw [show Tryd.prog.cellsOf 9 = 1 from by decide +kernel] at g3
  have k3 : Sh Tryd.prog (m + 1) 9 [e] := g3
  obtain ⟨n3, e3, w3⟩ := dec_str Tryd.underlying9 k3
  cases e3
  exact ⟨⟨n0, n1, n2, n3⟩, rfl, w3⟩
theorem dec_dats {m : Nat} {cs : List AV} (h : Sh Tryd.prog (m + 3) 49 cs) : ∃ xs : List Dat, cs = [roD xs] ∧ bD 9223372036854775807 xs := by
  obtain ⟨es, e1, e2, e3⟩ := dec_slice Tryd.underlying49 h
  obtain ⟨xs, rfl, hx⟩ := exists_map (f := encDat) (Q := fun x => x.name.size ≤ 9223372036854775807) es fun c hc => dec_dat (e3 c hc)
  exact ⟨xs, e1, by simpa [maxLen] using e2, hx⟩
theorem dec_op {m : Nat} {cs : List AV} (h : Sh Tryd.prog (m + 4) 51 cs) : ∃ x : OpD, cs = encOp x ∧ x.name.size ≤ 9223372036854775807 ∧ bD 9223372036854775807 x.data := by
  obtain ⟨h1, h2⟩ := dec_struct Tryd.underlying51 h
  rw [show Tryd.prog.cellsOf 51 = 7 from by decide +kernel] at h1
  obtain ⟨a, b, c, d, e, f, g, rfl⟩ : ∃ a b c d e f g, cs = [a, b, c, d, e, f, g] := by match cs, h1 with | [a, b, c, d, e, f, g], _ => exact ⟨_, _, _, _, _, _, _, rfl⟩
  have g0 : Sh Tryd.prog (m + 3) 2 (([a, b, c, d, e, f, g].drop 0).take (Tryd.prog.cellsOf 2)) := h2 _ (.head _)
  rw [show Tryd.prog.cellsOf 2 = 1 from by decide +kernel] at g0
  have k0 : Sh Tryd.prog (m + 3) 2 [a] := g0
  obtain ⟨n0, e0, w0⟩ := dec_int Tryd.underlying2 k0
  cases e0
  have g1 : Sh Tryd.prog (m + 3) 2 (([_, b, c, d, e, f, g].drop 1).take (Tryd.prog.cellsOf 2)) := h2 _ (.tail _ (.head _))
  rw [show Tryd.prog.cellsOf 2 = 1 from by decide +kernel] at g1
  have k1 : Sh Tryd.prog (m + 3) 2 [b] := g1
  obtain ⟨n1, e1, w1⟩ := dec_int Tryd.underlying2 k1
  cases e1
  have g2 : Sh Tryd.prog (m + 3) 2 (([_, _, c, d, e, f, g].drop 2).take (Tryd.prog.cellsOf 2)) := h2 _ (.tail _ (.tail _ (.head _)))
  rw [show Tryd.prog.cellsOf 2 = 1 from by decide +kernel] at g2
  have k2 : Sh Tryd.prog (m + 3) 2 [c] := g2
  obtain ⟨n2, e2, w2⟩ := dec_int Tryd.underlying2 k2
  cases e2
  have g3 : Sh Tryd.prog (m + 3) 2 (([_, _, _, d, e, f, g].drop 3).take (Tryd.prog.cellsOf 2)) := h2 _ (.tail _ (.tail _ (.tail _ (.head _))))
  rw [show Tryd.prog.cellsOf 2 = 1 from by decide +kernel] at g3
  have k3 : Sh Tryd.prog (m + 3) 2 [d] := g3
  obtain ⟨n3, e3, w3⟩ := dec_int Tryd.underlying2 k3
  cases e3
  have g4 : Sh Tryd.prog (m + 3) 2 (([_, _, _, _, e, f, g].drop 4).take (Tryd.prog.cellsOf 2)) := h2 _ (.tail _ (.tail _ (.tail _ (.tail _ (.head _)))))
  rw [show Tryd.prog.cellsOf 2 = 1 from by decide +kernel] at g4
  have k4 : Sh Tryd.prog (m + 3) 2 [e] := g4
  obtain ⟨n4, e4, w4⟩ := dec_int Tryd.underlying2 k4
  cases e4
  have g5 : Sh Tryd.prog (m + 3) 9 (([_, _, _, _, _, f, g].drop 5).take (Tryd.prog.cellsOf 9)) := h2 _ (.tail _ (.tail _ (.tail _ (.tail _ (.tail _ (.head _))))))
  rw [show Tryd.prog.cellsOf 9 = 1 from by decide +kernel] at g5
  have k5 : Sh Tryd.prog (m + 3) 9 [f] := g5
  obtain ⟨n5, e5, w5⟩ := dec_str Tryd.underlying9 k5
  cases e5
  have g6 : Sh Tryd.prog (m + 3) 49 (([_, _, _, _, _, _, g].drop 6).take (Tryd.prog.cellsOf 49)) := h2 _ (.tail _ (.tail _ (.tail _ (.tail _ (.tail _ (.tail _ (.head _)))))))
  rw [show Tryd.prog.cellsOf 49 = 1 from by decide +kernel] at g6
  have k6 : Sh Tryd.prog (m + 3) 49 [g] := g6
  obtain ⟨n6, e6, w6⟩ := dec_dats k6
  cases e6
  exact ⟨⟨n0, n1, n2, n3, n4, n5, n6⟩, rfl, w5, w6⟩
theorem dec_ops {m : Nat} {cs : List AV} (h : Sh Tryd.prog (m + 5) 33 cs) : ∃ xs : List OpD, cs = [roO xs] ∧ bO 9223372036854775807 xs := by
  obtain ⟨es, e1, e2, e3⟩ := dec_slice Tryd.underlying33 h
  obtain ⟨xs, rfl, hx⟩ := exists_map (f := encOp) (Q := fun x => x.name.size ≤ 9223372036854775807 ∧ bD 9223372036854775807 x.data) es fun c hc => dec_op (e3 c hc)
  exact ⟨xs, e1, by simpa [maxLen] using e2, hx⟩
theorem dec_blk {m : Nat} {cs : List AV} (h : Sh Tryd.prog (m + 6) 35 cs) : ∃ x : Blk, cs = encBlk x ∧ bO 9223372036854775807 x.ops := by
  obtain ⟨h1, h2⟩ := dec_struct Tryd.underlying35 h
  rw [show Tryd.prog.cellsOf 35 = 2 from by decide +kernel] at h1
  obtain ⟨a, b, rfl⟩ : ∃ a b, cs = [a, b] := by match cs, h1 with | [a, b], _ => exact ⟨_, _, rfl⟩
  have g0 : Sh Tryd.prog (m + 5) 2 (([a, b].drop 0).take (Tryd.prog.cellsOf 2)) := h2 _ (.head _)
  rw [show Tryd.prog.cellsOf 2 = 1 from by decide +kernel] at g0
  have k0 : Sh Tryd.prog (m + 5) 2 [a] := g0
  obtain ⟨n0, e0, w0⟩ := dec_int Tryd.underlying2 k0
  cases e0
  have g1 : Sh Tryd.prog (m + 5) 33 (([_, b].drop 1).take (Tryd.prog.cellsOf 33)) := h2 _ (.tail _ (.head _))
  rw [show Tryd.prog.cellsOf 33 = 1 from by decide +kernel] at g1
  have k1 : Sh Tryd.prog (m + 5) 33 [b] := g1
  obtain ⟨n1, e1, w1⟩ := dec_ops k1
  cases e1
  exact ⟨⟨n0, n1⟩, rfl, w1⟩
theorem dec_blks {m : Nat} {cs : List AV} (h : Sh Tryd.prog (m + 7) 22 cs) : ∃ xs : List Blk, cs = [roBk xs] ∧ bC 9223372036854775807 xs := by
  obtain ⟨es, e1, e2, e3⟩ := dec_slice Tryd.underlying22 h
  obtain ⟨xs, rfl, hx⟩ := exists_map (f := encBlk) (Q := fun x => bO 9223372036854775807 x.ops) es fun c hc => dec_blk (e3 c hc)
  exact ⟨xs, e1, by simpa [maxLen] using e2, hx⟩
end Go.Proofs.YtinhodpfgjddmaaDoor.E
