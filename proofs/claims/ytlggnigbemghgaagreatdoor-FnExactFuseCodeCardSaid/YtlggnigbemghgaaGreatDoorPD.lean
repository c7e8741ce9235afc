/- How arguments read as lists of blocks. Printed by mkdec.py. -/
import Derived.Test.YtlggnigbemghgaaGreatDoorP7
import Derived.Test.YtlggnigbemghgaaGreatDoorProg
set_option linter.unusedSectionVars false
set_option linter.unusedSimpArgs false
set_option linter.unusedVariables false
set_option maxRecDepth 100000
namespace Go.Proofs.YtlggnigbemghgaaGreatDoor.E
open Go Go.RowKit
attribute [local instance] lam0
theorem dec_dat {m : Nat} {cs : List AV} (h : Sh Tryz.prog (m + 2) 118 cs) : ∃ x : Dat, cs = encDat x ∧ x.name.size ≤ 9223372036854775807 := by
  obtain ⟨h1, h2⟩ := dec_struct Tryz.underlying118 h
  rw [show Tryz.prog.cellsOf 118 = 4 from by decide +kernel] at h1
  obtain ⟨a, b, c, e, rfl⟩ : ∃ a b c e, cs = [a, b, c, e] := by match cs, h1 with | [a, b, c, e], _ => exact ⟨_, _, _, _, rfl⟩
  have g0 : Sh Tryz.prog (m + 1) 2 (([a, b, c, e].drop 0).take (Tryz.prog.cellsOf 2)) := h2 _ (.head _)
  rw [show Tryz.prog.cellsOf 2 = 1 from by decide +kernel] at g0
  have k0 : Sh Tryz.prog (m + 1) 2 [a] := g0
  obtain ⟨n0, e0, w0⟩ := dec_int Tryz.underlying2 k0
  cases e0
  have g1 : Sh Tryz.prog (m + 1) 2 (([_, b, c, e].drop 1).take (Tryz.prog.cellsOf 2)) := h2 _ (.tail _ (.head _))
  rw [show Tryz.prog.cellsOf 2 = 1 from by decide +kernel] at g1
  have k1 : Sh Tryz.prog (m + 1) 2 [b] := g1
  obtain ⟨n1, e1, w1⟩ := dec_int Tryz.underlying2 k1
  cases e1
  have g2 : Sh Tryz.prog (m + 1) 2 (([_, _, c, e].drop 2).take (Tryz.prog.cellsOf 2)) := h2 _ (.tail _ (.tail _ (.head _)))
  rw [show Tryz.prog.cellsOf 2 = 1 from by decide +kernel] at g2
  have k2 : Sh Tryz.prog (m + 1) 2 [c] := g2
  obtain ⟨n2, e2, w2⟩ := dec_int Tryz.underlying2 k2
  cases e2
  have g3 : Sh Tryz.prog (m + 1) 9 (([_, _, _, e].drop 3).take (Tryz.prog.cellsOf 9)) := h2 _ (.tail _ (.tail _ (.tail _ (.head _))))
  rw [show Tryz.prog.cellsOf 9 = 1 from by decide +kernel] at g3
  have k3 : Sh Tryz.prog (m + 1) 9 [e] := g3
  obtain ⟨n3, e3, w3⟩ := dec_str Tryz.underlying9 k3
  cases e3
  exact ⟨⟨n0, n1, n2, n3⟩, rfl, w3⟩
theorem dec_dats {m : Nat} {cs : List AV} (h : Sh Tryz.prog (m + 3) 89 cs) : ∃ xs : List Dat, cs = [roD xs] ∧ bD 9223372036854775807 xs := by
  obtain ⟨es, e1, e2, e3⟩ := dec_slice Tryz.underlying89 h
  obtain ⟨xs, rfl, hx⟩ := exists_map (f := encDat) (Q := fun x => x.name.size ≤ 9223372036854775807) es fun c hc => dec_dat (e3 c hc)
  exact ⟨xs, e1, by simpa [maxLen] using e2, hx⟩
theorem dec_op {m : Nat} {cs : List AV} (h : Sh Tryz.prog (m + 4) 91 cs) : ∃ x : OpD, cs = encOp x ∧ x.name.size ≤ 9223372036854775807 ∧ bD 9223372036854775807 x.data := by
  obtain ⟨h1, h2⟩ := dec_struct Tryz.underlying91 h
  rw [show Tryz.prog.cellsOf 91 = 7 from by decide +kernel] at h1
  obtain ⟨a, b, c, d, e, f, g, rfl⟩ : ∃ a b c d e f g, cs = [a, b, c, d, e, f, g] := by match cs, h1 with | [a, b, c, d, e, f, g], _ => exact ⟨_, _, _, _, _, _, _, rfl⟩
  have g0 : Sh Tryz.prog (m + 3) 2 (([a, b, c, d, e, f, g].drop 0).take (Tryz.prog.cellsOf 2)) := h2 _ (.head _)
  rw [show Tryz.prog.cellsOf 2 = 1 from by decide +kernel] at g0
  have k0 : Sh Tryz.prog (m + 3) 2 [a] := g0
  obtain ⟨n0, e0, w0⟩ := dec_int Tryz.underlying2 k0
  cases e0
  have g1 : Sh Tryz.prog (m + 3) 2 (([_, b, c, d, e, f, g].drop 1).take (Tryz.prog.cellsOf 2)) := h2 _ (.tail _ (.head _))
  rw [show Tryz.prog.cellsOf 2 = 1 from by decide +kernel] at g1
  have k1 : Sh Tryz.prog (m + 3) 2 [b] := g1
  obtain ⟨n1, e1, w1⟩ := dec_int Tryz.underlying2 k1
  cases e1
  have g2 : Sh Tryz.prog (m + 3) 2 (([_, _, c, d, e, f, g].drop 2).take (Tryz.prog.cellsOf 2)) := h2 _ (.tail _ (.tail _ (.head _)))
  rw [show Tryz.prog.cellsOf 2 = 1 from by decide +kernel] at g2
  have k2 : Sh Tryz.prog (m + 3) 2 [c] := g2
  obtain ⟨n2, e2, w2⟩ := dec_int Tryz.underlying2 k2
  cases e2
  have g3 : Sh Tryz.prog (m + 3) 2 (([_, _, _, d, e, f, g].drop 3).take (Tryz.prog.cellsOf 2)) := h2 _ (.tail _ (.tail _ (.tail _ (.head _))))
  rw [show Tryz.prog.cellsOf 2 = 1 from by decide +kernel] at g3
  have k3 : Sh Tryz.prog (m + 3) 2 [d] := g3
  obtain ⟨n3, e3, w3⟩ := dec_int Tryz.underlying2 k3
  cases e3
  have g4 : Sh Tryz.prog (m + 3) 2 (([_, _, _, _, e, f, g].drop 4).take (Tryz.prog.cellsOf 2)) := h2 _ (.tail _ (.tail _ (.tail _ (.tail _ (.head _)))))
  rw [show Tryz.prog.cellsOf 2 = 1 from by decide +kernel] at g4
  have k4 : Sh Tryz.prog (m + 3) 2 [e] := g4
  obtain ⟨n4, e4, w4⟩ := dec_int Tryz.underlying2 k4
  cases e4
  have g5 : Sh Tryz.prog (m + 3) 9 (([_, _, _, _, _, f, g].drop 5).take (Tryz.prog.cellsOf 9)) := h2 _ (.tail _ (.tail _ (.tail _ (.tail _ (.tail _ (.head _))))))
  rw [show Tryz.prog.cellsOf 9 = 1 from by decide +kernel] at g5
  have k5 : Sh Tryz.prog (m + 3) 9 [f] := g5
  obtain ⟨n5, e5, w5⟩ := dec_str Tryz.underlying9 k5
  cases e5
  have g6 : Sh Tryz.prog (m + 3) 89 (([_, _, _, _, _, _, g].drop 6).take (Tryz.prog.cellsOf 89)) := h2 _ (.tail _ (.tail _ (.tail _ (.tail _ (.tail _ (.tail _ (.head _)))))))
  rw [show Tryz.prog.cellsOf 89 = 1 from by decide +kernel] at g6
  have k6 : Sh Tryz.prog (m + 3) 89 [g] := g6
  obtain ⟨n6, e6, w6⟩ := dec_dats k6
  cases e6
  exact ⟨⟨n0, n1, n2, n3, n4, n5, n6⟩, rfl, w5, w6⟩
theorem dec_ops {m : Nat} {cs : List AV} (h : Sh Tryz.prog (m + 5) 37 cs) : ∃ xs : List OpD, cs = [roO xs] ∧ bO 9223372036854775807 xs := by
  obtain ⟨es, e1, e2, e3⟩ := dec_slice Tryz.underlying37 h
  obtain ⟨xs, rfl, hx⟩ := exists_map (f := encOp) (Q := fun x => x.name.size ≤ 9223372036854775807 ∧ bD 9223372036854775807 x.data) es fun c hc => dec_op (e3 c hc)
  exact ⟨xs, e1, by simpa [maxLen] using e2, hx⟩
theorem dec_blk {m : Nat} {cs : List AV} (h : Sh Tryz.prog (m + 6) 39 cs) : ∃ x : Blk, cs = encBlk x ∧ bO 9223372036854775807 x.ops := by
  obtain ⟨h1, h2⟩ := dec_struct Tryz.underlying39 h
  rw [show Tryz.prog.cellsOf 39 = 2 from by decide +kernel] at h1
  obtain ⟨a, b, rfl⟩ : ∃ a b, cs = [a, b] := by match cs, h1 with | [a, b], _ => exact ⟨_, _, rfl⟩
  have g0 : Sh Tryz.prog (m + 5) 2 (([a, b].drop 0).take (Tryz.prog.cellsOf 2)) := h2 _ (.head _)
  rw [show Tryz.prog.cellsOf 2 = 1 from by decide +kernel] at g0
  have k0 : Sh Tryz.prog (m + 5) 2 [a] := g0
  obtain ⟨n0, e0, w0⟩ := dec_int Tryz.underlying2 k0
  cases e0
  have g1 : Sh Tryz.prog (m + 5) 37 (([_, b].drop 1).take (Tryz.prog.cellsOf 37)) := h2 _ (.tail _ (.head _))
  rw [show Tryz.prog.cellsOf 37 = 1 from by decide +kernel] at g1
  have k1 : Sh Tryz.prog (m + 5) 37 [b] := g1
  obtain ⟨n1, e1, w1⟩ := dec_ops k1
  cases e1
  exact ⟨⟨n0, n1⟩, rfl, w1⟩
theorem dec_blks {m : Nat} {cs : List AV} (h : Sh Tryz.prog (m + 7) 22 cs) : ∃ xs : List Blk, cs = [roBk xs] ∧ bC 9223372036854775807 xs := by
  obtain ⟨es, e1, e2, e3⟩ := dec_slice Tryz.underlying22 h
  obtain ⟨xs, rfl, hx⟩ := exists_map (f := encBlk) (Q := fun x => bO 9223372036854775807 x.ops) es fun c hc => dec_blk (e3 c hc)
  exact ⟨xs, e1, by simpa [maxLen] using e2, hx⟩
end Go.Proofs.YtlggnigbemghgaaGreatDoor.E
