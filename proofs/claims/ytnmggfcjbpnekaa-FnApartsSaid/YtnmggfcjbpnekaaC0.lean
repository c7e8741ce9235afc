/- What texts of several seats share. -/
import Derived.Test.YtnmggfcjbpnekaaP1
set_option linter.unusedSectionVars false
set_option linter.unusedSimpArgs false
set_option linter.unusedVariables false
namespace Go.Proofs.Ytnmggfcjbpnekaa.E
open Go Go.RowKit
variable [L : Lam]
variable {σ τ : AH} {R : AEnd → AH → Prop}
theorem fin_cell {φ n : Nat} {zs cs : List AV} (hφ : σ φ = none) (hz : zs.length = n) (hc : cs.length = n) (h1 : ∀ x, x ∈ cs → x.one = true) (h : R (.ret (.agg cs)) σ) :
    sto n (.ptr φ 0 0 0) (.agg cs) (σ.set φ ⟨0, n, [zs]⟩) fun σ => og (lodA n (.ptr φ 0 0 0) σ) fun r => aret r σ R := by
  refine sto_own (es := [zs]) (cs := cs) (AH.set_same ..) (by simp) (by simpa using hz) rfl hc h1 ?_
  simp only [List.set_cons_zero, AH.set_set]
  have e := lodA_at (σ := σ.set φ ⟨0, n, [cs]⟩) (φ := φ) (st := 0) (i := 0) (n := n) (cs := cs) (AH.set_same ..) rfl rfl hc
  simp only [e, RR]
  exact aret_sub (sub_set (.refl _) hφ) h
theorem one2 {a b : AV} (ha : a.one = true) (hb : b.one = true) : ∀ x, x ∈ [a, b] → x.one = true := by
  intro x hx
  simp only [List.mem_cons, List.not_mem_nil, or_false] at hx
  rcases hx with rfl | rfl <;> assumption
theorem lodA_all {cs : List AV} {n : Nat} (h : cs.length = n) : lodA n (.rop cs 0) σ = some (.agg cs) := by
  have := (At.rop σ cs).lodA (n := n) (by omega)
  rw [this, List.take_of_length_le (by omega)]
theorem acells_one {v : AV} (h : v.one = true) : acells v = some [v] := by
  cases v <;> first | rfl | (cases h) | (rename_i u; cases u <;> first | rfl | cases h)
theorem sto_cell {φ n off : Nat} {zs : List AV} {v : AV} {k : AH → Prop} (ho : off < n) (h1 : v.one = true) (h : k (σ.set φ ⟨0, n, [zs.set off v]⟩)) : sto 1 (.ptr φ 0 0 off) v (σ.set φ ⟨0, n, [zs]⟩) k := by
  refine sto_fld (es := [zs]) (cs := zs) (AH.set_same ..) rfl ho (acells_one h1) h1 ?_
  simp only [List.set_cons_zero, AH.set_set]
  exact h
/-- The frame of a function that copies a structure: its box, its result, the copy. -/
theorem conv_frame {x : AV} {xs z1 z2 : List AV} {k : AV → AV → AV → AH → Prop} (hx : acells x = some xs)
    (h : ∀ φ2 φ3 : Nat, φ2 ≠ φ3 → σ φ2 = none → σ φ3 = none → k (.rop xs 0) (.ptr φ2 0 0 0) (.ptr φ3 0 0 0) ((σ.set φ2 ⟨0, z1.length, [z1]⟩).set φ3 ⟨0, z2.length, [z2]⟩)) :
    abox x σ fun v1 σ => new z1 σ fun v2 σ => frz v1 σ fun f1 σ => new z2 σ fun v3 σ => k f1 v2 v3 σ := by
  unfold abox; rw [hx]
  intro φ1 h1
  intro φ2 h2
  rw [AH.set_none] at h2
  rw [AH.set_comm _ _ _ (Ne.symm h2.1)]
  refine frz_cell (AH.set_none.2 ⟨Ne.symm h2.1, h1⟩) rfl ?_
  intro φ3 h3
  rw [AH.set_none] at h3
  exact h φ2 φ3 (Ne.symm h3.1) h2.2 h3.2
/-- Its end. -/
theorem conv_end {φ2 φ3 n : Nat} {z cs : List AV} (hne : φ2 ≠ φ3) (h2 : σ φ2 = none) (h3 : σ φ3 = none) (hz : z.length = n) (hc : cs.length = n) (h1 : ∀ x, x ∈ cs → x.one = true) (h : R (.ret (.agg cs)) σ) :
    frz (.ptr φ3 0 0 0) ((σ.set φ2 ⟨0, n, [z]⟩).set φ3 ⟨0, n, [cs]⟩) fun f3 σ => og (lodA n f3 σ) fun v16 => sto n (.ptr φ2 0 0 0) v16 σ fun σ => og (lodA n (.ptr φ2 0 0 0) σ) fun r2 => aret r2 σ R := by
  refine frz_cell (AH.set_none.2 ⟨Ne.symm hne, h3⟩) hc ?_
  simp only [lodA_all hc, RR]
  exact fin_cell h2 hz hc h1 h
theorem dec_self {α : Type} [DecidableEq α] (a : α) : (!decide (a = a)) = false := by simp
theorem box2_frz {x y : AV} {xs ys : List AV} {k : AV → AV → AH → Prop} (hx : acells x = some xs) (hy : acells y = some ys) (h : k (.rop xs 0) (.rop ys 0) σ) :
    abox x σ fun v2 σ => abox y σ fun v3 σ => frz v2 σ fun f2 σ => frz v3 σ fun f3 σ => k f2 f3 σ := by
  unfold abox; rw [hx, hy]
  intro φ1 h1 φ2 h2
  rw [AH.set_none] at h2
  rw [AH.set_comm _ _ _ (Ne.symm h2.1)]
  refine frz_cell (AH.set_none.2 ⟨Ne.symm h2.1, h1⟩) rfl ?_
  exact frz_cell h2.2 rfl h
theorem aconv_bytes {T : Tab} {s d : TypeId} {x : AV} {es : List (List AV)} {bs : List UInt8} {k : AV → AH → Prop} (hb : bytesT T s d = true) (hx : aelems σ x = some es) (ha : abytes es = some bs) (hn : ∀ u, x ≠ .val (.string u)) (hi : ∀ kd n, x ≠ .val (.int kd n))
    (h : k (.val (.string ⟨bs.toArray⟩)) σ) : aconv T s d x σ k := by
  unfold bytesT at hb
  split at hb
  case h_2 => cases hb
  rename_i ts td h1 h2
  split at hb
  case h_2 => cases hb
  rename_i e h3 h4
  split at hb
  case h_2 => cases hb
  rename_i te h5
  split at hb
  case h_2 => cases hb
  rename_i h6
  unfold aconv
  simp only [h1, h2, h3, h4, h5, h6, hx, ha]
  exact ⟨Nat.eq_of_beq_eq_true hb, hn, h⟩
theorem sbin_add (a b : ByteArray) (h : a.size + b.size ≤ 4611686018427387904) : sbin .add (.val (.string a)) (.val (.string b)) = some (.val (.string (a ++ b))) := by
  show Option.map AV.val (if a.size + b.size ≤ 4611686018427387904 then some (.string (a ++ b)) else none) = _
  rw [if_pos h]
  rfl
theorem size_one (x : UInt8) : (⟨[x].toArray⟩ : ByteArray).size = 1 := rfl
theorem size_none : (⟨#[]⟩ : ByteArray).size = 0 := rfl
theorem size_m : (⟨#[109]⟩ : ByteArray).size = 1 := rfl
/-- The frame of a function that has its argument in a box and its result in a cell. -/
theorem box_new {x : AV} {xs z : List AV} {k : AV → AV → AH → Prop} (hx : acells x = some xs) (h : ∀ φ, σ φ = none → k (.rop xs 0) (.ptr φ 0 0 0) (σ.set φ ⟨0, z.length, [z]⟩)) : abox x σ fun v1 σ => new z σ fun v2 σ => frz v1 σ fun f1 σ => k f1 v2 σ := by
  unfold abox; rw [hx]
  intro φ1 h1 φ2 h2
  rw [AH.set_none] at h2
  rw [AH.set_comm _ _ _ (Ne.symm h2.1)]
  exact frz_cell (AH.set_none.2 ⟨Ne.symm h2.1, h1⟩) rfl (h φ2 h2.2)
end Go.Proofs.Ytnmggfcjbpnekaa.E
