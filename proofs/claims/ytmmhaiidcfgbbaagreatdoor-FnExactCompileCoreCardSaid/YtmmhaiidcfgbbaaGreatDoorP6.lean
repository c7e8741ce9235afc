/- Operations and blocks: their faults. -/
import Derived.Test.YtmmhaiidcfgbbaaGreatDoorP5
set_option linter.unusedSectionVars false
set_option linter.unusedSimpArgs false
set_option linter.unusedVariables false
namespace Go.Proofs.YtmmhaiidcfgbbaaGreatDoor.E
open Go Go.RowKit
variable [L : Lam]
variable {σ : AH} {R : AEnd → AH → Prop}
/-! ### what the functions share -/
theorem fin_cell {φ n : Nat} {zs cs : List AV} (hφ : σ φ = none) (hz : zs.length = n) (hc : cs.length = n) (h1 : ∀ x, x ∈ cs → x.one = true) (h : R (.ret (.agg cs)) σ) :
    sto n (.ptr φ 0 0 0) (.agg cs) (σ.set φ ⟨0, n, [zs]⟩) fun σ => og (lodA n (.ptr φ 0 0 0) σ) fun r => aret r σ R := by
  refine sto_own (es := [zs]) (cs := cs) (AH.set_same ..) (by simp) (by simpa using hz) rfl hc h1 ?_
  simp only [List.set_cons_zero, AH.set_set]
  have e := lodA_at (σ := σ.set φ ⟨0, n, [cs]⟩) (φ := φ) (st := 0) (i := 0) (n := n) (cs := cs) (AH.set_same ..) rfl rfl hc
  simp only [e, RR]
  exact aret_sub (sub_set (.refl _) hφ) h
theorem one2 {a b : AV} (ha : a.one = true) (hb : b.one = true) : ∀ x, x ∈ [a, b] → x.one = true := by
  intro x hx
  simp only [List.mem_cons, List.not_mem_nil, or_false] at hx
  rcases hx with rfl | rfl <;> assumption
abbrev roN (xs : List Int) : AV := .ro (xs.map fun x => [iv x])
theorem slc_roN {xs : List Int} {k : Nat} (hk : k ≤ xs.length) : slc 1 (roN xs) (some (iv (k : Nat))) none none σ = some (roN (xs.drop k)) := by
  obtain ⟨b, h1, h2⟩ := Cs.slc (Cs.ro iv σ xs) (lo := some (iv (k : Nat))) (hi := none) (l := k) (k := xs.length) (abd_nat _ _) rfl hk (Nat.le_refl _)
  have e : abd (some (iv (k : Nat))) 0 = some k := abd_nat _ _
  have e2 : abd none ((xs.map fun x => [iv x]).length) = some (xs.map fun x => [iv x]).length := rfl
  simp only [slc, e, e2]
  rw [if_pos ⟨by simpa using hk, Nat.le_refl _, Nat.le_refl _, by simp, by rw [List.all_eq_true]; intro c hc; obtain ⟨x, _, rfl⟩ := List.mem_map.1 hc; rfl⟩]
  rw [List.take_length, ← List.map_drop]
def numsN (k : Int) : Nat := if k = 4 ∨ k = 5 ∨ k = 6 ∨ k = 10 ∨ k = 11 then 1 else if k = 2 ∨ k = 14 then 2 else if k = 16 then 3 else if k = 15 then 4 else 0
def namedB (k : Int) : Bool := decide (k = 3) || decide (k = 8) || decide (k = 9)
def dataB (k : Int) : Bool := decide (k = 1) || decide (k = 13)
theorem numsN_le (k : Int) : numsN k ≤ 4 := by unfold numsN; repeat' split <;> try omega
theorem nums_walk {k : Int} (h : R (.ret (iv (numsN k : Nat))) σ) :
    jn (X := Tup [3, 4]) (fun x1 σ =>
      apick x1.2.1 (aret (iv 1) σ R) (jn (X := Tup [3, 10]) (fun x2 σ => apick x2.2.1 (aret (iv 2) σ R) (og (ibin .eql x2.1 (iv 16)) fun v14 => apick v14 (aret (iv 3) σ R) (og (ibin .eql x2.1 (iv 15)) fun v16 => apick v16 (aret (iv 4) σ R) (aret (iv 0) σ R)))) fun k2 =>
          og (ibin .eql x1.1 (iv 2)) fun v11 => apick v11 (k2 (x1.1, v11, ()) σ) (og (ibin .eql x1.1 (iv 14)) fun v12 => k2 (x1.1, v12, ()) σ))) fun k1 =>
    og (ibin .eql (iv k) (iv 4)) fun v5 => apick v5 (k1 (iv k, v5, ()) σ) (og (ibin .eql (iv k) (iv 5)) fun v6 => apick v6 (k1 (iv k, v6, ()) σ) (og (ibin .eql (iv k) (iv 6)) fun v7 => apick v7 (k1 (iv k, v7, ()) σ) (
          og (ibin .eql (iv k) (iv 10)) fun v8 => apick v8 (k1 (iv k, v8, ()) σ) (og (ibin .eql (iv k) (iv 11)) fun v9 => k1 (iv k, v9, ()) σ)))) := by
  unfold numsN at h
  simp only [jn, RR]
  by_cases c1 : k = 4
  · subst c1; simp only [RR]; exact ret_here h
  by_cases c2 : k = 5
  · subst c2; simp only [RR]; exact ret_here h
  by_cases c3 : k = 6
  · subst c3; simp only [RR]; exact ret_here h
  by_cases c4 : k = 10
  · subst c4; simp only [RR]; exact ret_here h
  by_cases c5 : k = 11
  · subst c5; simp only [RR]; exact ret_here h
  rw [if_neg (by omega)] at h
  simp only [c1, c2, c3, c4, c5, RR]
  by_cases c6 : k = 2
  · subst c6; simp only [RR]; exact ret_here h
  by_cases c7 : k = 14
  · subst c7; simp only [RR]; exact ret_here h
  rw [if_neg (by omega)] at h
  simp only [c6, c7, RR]
  by_cases c8 : k = 16
  · subst c8; simp only [RR]; exact ret_here h
  rw [if_neg c8] at h
  by_cases c9 : k = 15
  · subst c9; simp only [RR]; exact ret_here h
  rw [if_neg c9] at h
  simp only [c8, c9, RR]
  exact ret_here h
def opL (o : OpD) : List Int := [o.a, o.b, o.c, o.d]
def opF1 (o : OpD) : Bool := !inB 1 16 o.kind || ((opL o).drop (numsN o.kind)).any (fun n => !decide (n = 0)) || (!decide (o.name = (⟨#[]⟩ : ByteArray)) && !namedB o.kind) || (decide ((0 : Int) < (o.data.length : Int)) && !dataB o.kind)
def opF2 (o : OpD) : Bool := (opL o).any (fun n => !inB 0 999 n) || ((decide (o.kind = 10) || decide (o.kind = 11)) && decide (3 < o.a))
def opF (o : OpD) : Int := if opF1 o then 1 else if opF2 o then 3 else if namedB o.kind then (if symOk o.name then 0 else 5) else if dataB o.kind then dataF o.data else 0
/-- A loop over a list that ends at the first element of a kind. -/
theorem len_opL (o : OpD) : (opL o).length = 4 := rfl
theorem idx_opL {o : OpD} {j : Nat} (hj : j < 4) : idx 1 (roN (opL o)) (iv (j : Int)) σ = some (.rop [iv ((opL o)[j]'hj)] 0) := idx_ro (enc := fun x => [iv x]) (es := opL o) hj fun _ => rfl
def blkF (b : Blk) : Int := if inB 0 3 b.args = false then 3 else if 200 < b.ops.length then 2 else firstF (fun i => opF (b.ops.getD i default)) 0 b.ops.length
def opsF (bs : List Blk) : Int := if 60 < bs.length then 2 else firstF (fun i => blkF (bs.getD i default)) 0 bs.length
/-- What the names of an operation, its data and so on have to be: small. -/
def sO (o : OpD) : Prop := o.name.size ≤ 1099511627776 ∧ sD o.data
def sB (b : Blk) : Prop := ∀ o, o ∈ b.ops → sO o
def sC (bs : List Blk) : Prop := ∀ b, b ∈ bs → sB b
/-- A loop that ends at the first fault. -/
theorem lp_first {X : Type} {st : Nat → X} {f : Nat → Int} {n : Nat} {body : (X → AH → Prop) → X → AH → Prop}
    (hb : ∀ (j : Nat) (k : X → AH → Prop), j < n → (f j = 0 → k (st (j + 1)) σ) → (f j ≠ 0 → R (.ret (iv (f j))) σ) → body k (st j) σ) (he : ∀ k : X → AH → Prop, firstF f 0 n = 0 → body k (st n) σ)
    (h : R (.ret (iv (firstF f 0 n))) σ) : lp body (st 0) σ := by
  refine lp_same n st (fun i => ∀ j, j < i → f j = 0) rfl (fun j hj => by omega) ?_
  intro i hi hj R' hR'
  rcases Nat.lt_or_ge i n with hlt | hge
  · refine hb i R' hlt (fun h0 => hR' hlt (fun j h1 => ?_) σ (.refl _)) (fun h0 => by rw [firstF_at h0 n 0 (Nat.zero_le _) (by omega) (fun j _ h2 => hj j h2)] at h; exact h)
    rcases Nat.lt_or_ge j i with h2 | h2
    · exact hj j h2
    · obtain rfl : j = i := by omega
      exact h0
  · obtain rfl : i = n := by omega
    exact he R' (firstF_all _ _ fun j _ h2 => hj j (by omega))
theorem op_at {os : List OpD} {j : Nat} (h : j < os.length) : os[j] = os.getD j default := by simp [List.getD, h]
theorem blk_at {bs : List Blk} {j : Nat} (h : j < bs.length) : bs[j] = bs.getD j default := by simp [List.getD, h]
end Go.Proofs.YtmmhaiidcfgbbaaGreatDoor.E
