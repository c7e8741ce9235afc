/- How arguments read as lists of blocks. Printed by mkdec.py. -/
import Derived.Test.YtmmhaiidcfgbbaaGreatDoorV16
import Derived.Test.YtmmhaiidcfgbbaaGreatDoorProg
set_option linter.unusedSectionVars false
set_option linter.unusedSimpArgs false
set_option linter.unusedVariables false
set_option maxRecDepth 100000
namespace Go.Proofs.YtmmhaiidcfgbbaaGreatDoor.E
open Go Go.RowKit
attribute [local instance] lam0
theorem dec_dat {m : Nat} {cs : List AV} (h : Sh Tryz.prog (m + 2) 85 cs) : ∃ x : Dat, cs = encDat x ∧ x.name.size ≤ 9223372036854775807 := by
  obtain ⟨h1, h2⟩ := dec_struct Tryz.underlying85 h
  rw [show Tryz.prog.cellsOf 85 = 4 from by decide +kernel] at h1
  obtain ⟨a, b, c, e, rfl⟩ : ∃ a b c e, cs = [a, b, c, e] := by match cs, h1 with | [a, b, c, e], _ => exact ⟨_, _, _, _, rfl⟩
  have g0 : Sh Tryz.prog (m + 1) 2 (([a, b, c, e].drop 0).take (Tryz.prog.cellsOf 2)) := h2 _ (.head _)
  rw [show Tryz.prog.cellsOf 2 = 1 from by decide +kernel] at g0
  have k0 : Sh Tryz.prog (m + 1) 2 [a] := g0
  obtain ⟨n0, e0, w0⟩ := dec_int Tryz.underlying2 k0
  cases e0
  have g1 : Sh Tryz.prog (m + 1) 2 (([_, b, c, e].drop 1).take (Tryz.prog.cellsOf 2)) := h2 _ (.tail _ (.head _))
  rw [show Tryz.prog.cellsOf 2 = 1 from by decide +kernel] at g1
  have k1 : Sh Tryz.prog (m + 1) 2 [b] := g1
  obtain ⟨n1, e1, w1⟩ := dec_int Tryz.underlying2 k1
  cases e1
  have g2 : Sh Tryz.prog (m + 1) 2 (([_, _, c, e].drop 2).take (Tryz.prog.cellsOf 2)) := h2 _ (.tail _ (.tail _ (.head _)))
  rw [show Tryz.prog.cellsOf 2 = 1 from by decide +kernel] at g2
  have k2 : Sh Tryz.prog (m + 1) 2 [c] := g2
  obtain ⟨n2, e2, w2⟩ := dec_int Tryz.underlying2 k2
  cases e2
  have g3 : Sh Tryz.prog (m + 1) 9 (([_, _, _, e].drop 3).take (Tryz.prog.cellsOf 9)) := h2 _ (.tail _ (.tail _ (.tail _ (.head _))))
  rw [show Tryz.prog.cellsOf 9 = 1 from by decide +kernel] at g3
  have k3 : Sh Tryz.prog (m + 1) 9 [e] := g3
  obtain ⟨n3, e3, w3⟩ := dec_str Tryz.underlying9 k3
  cases e3
  exact ⟨⟨n0, n1, n2, n3⟩, rfl, w3⟩
theorem dec_dats {m : Nat} {cs : List AV} (h : Sh Tryz.prog (m + 3) 36 cs) : ∃ xs : List Dat, cs = [roD xs] ∧ bD 9223372036854775807 xs := by
  obtain ⟨es, e1, e2, e3⟩ := dec_slice Tryz.underlying36 h
  obtain ⟨xs, rfl, hx⟩ := exists_map (f := encDat) (Q := fun x => x.name.size ≤ 9223372036854775807) es fun c hc => dec_dat (e3 c hc)
  exact ⟨xs, e1, by simpa [maxLen] using e2, hx⟩
theorem wf_le {n : Int} (h : (Lit.int .i64 n).wf = true) : n ≤ 9223372036854775807 := by
  simp only [Lit.wf, Bool.and_eq_true, decide_eq_true_eq] at h
  exact h.2
theorem dec_cor {m : Nat} {cs : List AV} (h : Sh Tryz.prog (m + 4) 38 cs) : ∃ x : Cor, cs = encCor x ∧ x.name.size ≤ 9223372036854775807 ∧ bD 9223372036854775807 x.data ∧ x.a ≤ 9223372036854775807 := by
  obtain ⟨h1, h2⟩ := dec_struct Tryz.underlying38 h
  rw [show Tryz.prog.cellsOf 38 = 6 from by decide +kernel] at h1
  obtain ⟨a, b, c, d, e, f, rfl⟩ : ∃ a b c d e f, cs = [a, b, c, d, e, f] := by match cs, h1 with | [a, b, c, d, e, f], _ => exact ⟨_, _, _, _, _, _, rfl⟩
  have g0 : Sh Tryz.prog (m + 3) 2 (([a, b, c, d, e, f].drop 0).take (Tryz.prog.cellsOf 2)) := h2 _ (.head _)
  rw [show Tryz.prog.cellsOf 2 = 1 from by decide +kernel] at g0
  have k0 : Sh Tryz.prog (m + 3) 2 [a] := g0
  obtain ⟨n0, e0, w0⟩ := dec_int Tryz.underlying2 k0
  cases e0
  have g1 : Sh Tryz.prog (m + 3) 2 (([_, b, c, d, e, f].drop 1).take (Tryz.prog.cellsOf 2)) := h2 _ (.tail _ (.head _))
  rw [show Tryz.prog.cellsOf 2 = 1 from by decide +kernel] at g1
  have k1 : Sh Tryz.prog (m + 3) 2 [b] := g1
  obtain ⟨n1, e1, w1⟩ := dec_int Tryz.underlying2 k1
  cases e1
  have g2 : Sh Tryz.prog (m + 3) 2 (([_, _, c, d, e, f].drop 2).take (Tryz.prog.cellsOf 2)) := h2 _ (.tail _ (.tail _ (.head _)))
  rw [show Tryz.prog.cellsOf 2 = 1 from by decide +kernel] at g2
  have k2 : Sh Tryz.prog (m + 3) 2 [c] := g2
  obtain ⟨n2, e2, w2⟩ := dec_int Tryz.underlying2 k2
  cases e2
  have g3 : Sh Tryz.prog (m + 3) 2 (([_, _, _, d, e, f].drop 3).take (Tryz.prog.cellsOf 2)) := h2 _ (.tail _ (.tail _ (.tail _ (.head _))))
  rw [show Tryz.prog.cellsOf 2 = 1 from by decide +kernel] at g3
  have k3 : Sh Tryz.prog (m + 3) 2 [d] := g3
  obtain ⟨n3, e3, w3⟩ := dec_int Tryz.underlying2 k3
  cases e3
  have g4 : Sh Tryz.prog (m + 3) 9 (([_, _, _, _, e, f].drop 4).take (Tryz.prog.cellsOf 9)) := h2 _ (.tail _ (.tail _ (.tail _ (.tail _ (.head _)))))
  rw [show Tryz.prog.cellsOf 9 = 1 from by decide +kernel] at g4
  have k4 : Sh Tryz.prog (m + 3) 9 [e] := g4
  obtain ⟨n4, e4, w4⟩ := dec_str Tryz.underlying9 k4
  cases e4
  have g5 : Sh Tryz.prog (m + 3) 36 (([_, _, _, _, _, f].drop 5).take (Tryz.prog.cellsOf 36)) := h2 _ (.tail _ (.tail _ (.tail _ (.tail _ (.tail _ (.head _))))))
  rw [show Tryz.prog.cellsOf 36 = 1 from by decide +kernel] at g5
  have k5 : Sh Tryz.prog (m + 3) 36 [f] := g5
  obtain ⟨n5, e5, w5⟩ := dec_dats k5
  cases e5
  exact ⟨⟨n0, n1, n2, n3, n4, n5⟩, rfl, w4, w5, wf_le w2⟩
theorem dec_cors {m : Nat} {cs : List AV} (h : Sh Tryz.prog (m + 5) 22 cs) : ∃ xs : List Cor, cs = [roC xs] ∧ bCo 9223372036854775807 xs ∧ aOk xs := by
  obtain ⟨es, e1, e2, e3⟩ := dec_slice Tryz.underlying22 h
  obtain ⟨xs, rfl, hx⟩ := exists_map (f := encCor) (Q := fun x => x.name.size ≤ 9223372036854775807 ∧ bD 9223372036854775807 x.data ∧ x.a ≤ 9223372036854775807) es fun c hc => dec_cor (e3 c hc)
  refine ⟨xs, e1, ⟨by simpa [maxLen] using e2, fun x hm => ⟨(hx x hm).1, (hx x hm).2.1⟩⟩, fun i => ?_⟩
  by_cases hi : i < xs.length
  · rw [← corAt_eq hi]; exact (hx _ (List.getElem_mem hi)).2.2
  · have : corAt xs i = default := by simp [corAt, List.getD, List.getElem?_eq_none (Nat.le_of_not_lt hi)]
    rw [this]; show (0 : Int) ≤ _; omega
end Go.Proofs.YtmmhaiidcfgbbaaGreatDoor.E
