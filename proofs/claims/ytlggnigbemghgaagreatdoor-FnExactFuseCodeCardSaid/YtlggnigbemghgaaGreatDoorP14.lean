/- In which block the closure of each block is. -/
import Derived.Test.YtlggnigbemghgaaGreatDoorP13
set_option linter.unusedSectionVars false
set_option linter.unusedSimpArgs false
set_option linter.unusedVariables false
namespace Go.Proofs.YtlggnigbemghgaaGreatDoor.E
open Go Go.RowKit
variable [L : Lam]
variable {σ τ : AH} {R : AEnd → AH → Prop}
def arOp (n i : Nat) (out : List Int) (o : OpD) : Option (List Int) := if o.kind = 4 then (if o.a ≤ i ∨ (n : Int) ≤ o.a ∨ 0 ≤ atH out o.a.toNat then none else some (out.set o.a.toNat i)) else some out
def arOps (n i : Nat) : List OpD → List Int → Option (List Int)
  | [], out => some out
  | o :: os, out => (arOp n i out o).bind (arOps n i os)
def arAll (n : Nat) : Nat → List Blk → List Int → Option (List Int)
  | _, [], out => some out
  | i, b :: bs, out => (arOps n i b.ops out).bind (arAll n (i + 1) bs)
theorem arOps_app (n i : Nat) : ∀ (a b : List OpD) (out : List Int), arOps n i (a ++ b) out = (arOps n i a out).bind (arOps n i b) := by
  intro a
  induction a with
  | nil => intro b out; rfl
  | cons o a ih =>
    intro b out
    simp only [List.cons_append, arOps]
    cases arOp n i out o with
    | none => rfl
    | some x => exact ih b x
theorem arAll_app (n : Nat) : ∀ (a b : List Blk) (i : Nat) (out : List Int), arAll n i (a ++ b) out = (arAll n i a out).bind (arAll n (i + a.length) b) := by
  intro a
  induction a with
  | nil => intro b i out; rfl
  | cons o a ih =>
    intro b i out
    simp only [List.cons_append, arAll]
    cases arOps n i o.ops out with
    | none => rfl
    | some x =>
      have := ih b (i + 1) x
      simp only [Option.bind_some, List.length_cons]
      rw [this, show i + 1 + a.length = i + (a.length + 1) by omega]
theorem arOps_at {n i k : Nat} {os : List OpD} {out x : List Int} (hk : k < os.length) (h : arOps n i (os.take k) out = some x) : arOps n i (os.take (k + 1)) out = arOp n i x os[k] := by
  rw [List.take_succ_eq_append_getElem hk, arOps_app, h]
  simp only [Option.bind_some, arOps]
  cases arOp n i x os[k] <;> rfl
theorem arOps_none {n i k : Nat} {os : List OpD} {out : List Int} (h : arOps n i (os.take k) out = none) : arOps n i os out = none := by
  have := arOps_app n i (os.take k) (os.drop k) out
  rw [List.take_append_drop, h] at this
  exact this
theorem arAll_at {n k : Nat} {bs : List Blk} {out x : List Int} (hk : k < bs.length) (h : arAll n 0 (bs.take k) out = some x) : arAll n 0 (bs.take (k + 1)) out = arOps n k bs[k].ops x := by
  rw [List.take_succ_eq_append_getElem hk, arAll_app, h]
  simp only [Option.bind_some, arAll, List.length_take]
  rw [show 0 + min k bs.length = k by omega]
  cases arOps n k bs[k].ops x <;> rfl
theorem arAll_none {n k : Nat} {bs : List Blk} {out : List Int} (h : arAll n 0 (bs.take k) out = none) : arAll n 0 bs out = none := by
  have := arAll_app n (bs.take k) (bs.drop k) 0 out
  rw [List.take_append_drop, h] at this
  exact this
/-- What holds of it: a block is around another one that comes behind it. -/
def ArI (n : Nat) (out : List Int) : Prop := out.length = n ∧ ∀ k, k < n → atH out k = -1 ∨ (0 ≤ atH out k ∧ atH out k < k)
theorem arOp_inv {n i : Nat} {out x : List Int} {o : OpD} (h : ArI n out) (e : arOp n i out o = some x) : ArI n x := by
  unfold arOp at e
  split at e
  · split at e
    · cases e
    · rename_i hc
      cases e
      refine ⟨by simpa using h.1, fun k hk => ?_⟩
      rw [atH_set (by rw [h.1]; omega)]
      split
      · right; omega
      · exact h.2 k hk
  · cases e; exact h
theorem arOps_inv {n i : Nat} : ∀ (os : List OpD) {out x : List Int}, ArI n out → arOps n i os out = some x → ArI n x := by
  intro os
  induction os with
  | nil => intro out x h e; cases e; exact h
  | cons o os ih =>
    intro out x h e
    simp only [arOps] at e
    cases e2 : arOp n i out o with
    | none => rw [e2] at e; cases e
    | some y => rw [e2] at e; exact ih (arOp_inv h e2) e
theorem arAll_inv {n : Nat} : ∀ (bs : List Blk) (i : Nat) {out x : List Int}, ArI n out → arAll n i bs out = some x → ArI n x := by
  intro bs
  induction bs with
  | nil => intro i out x h e; cases e; exact h
  | cons b bs ih =>
    intro i out x h e
    simp only [arAll] at e
    cases e2 : arOps n i b.ops out with
    | none => rw [e2] at e; cases e
    | some y => rw [e2] at e; exact ih (i + 1) (arOps_inv _ h e2) e
theorem atH_rep {n k : Nat} : atH (List.replicate n (-1)) k = -1 := by
  unfold atH
  by_cases h : k < n <;> simp [List.getD, h]
theorem ArI.init (n : Nat) : ArI n (List.replicate n (-1)) := ⟨by simp, fun k hk => .inl atH_rep⟩
def full (out : List Int) : Bool := (out.drop 1).all fun x => decide (0 ≤ x)
def arndM (bs : List Blk) : Option (List Int) := match arAll bs.length 0 bs (List.replicate bs.length (-1)) with
  | some out => if full out then some out else none
  | none => none
theorem full_bad {out : List Int} {k : Nat} (h1 : 1 ≤ k) (hk : k < out.length) (h : atH out k < 0) : full out = false := by
  unfold full
  rw [List.all_eq_false]
  refine ⟨out[k], ?_, by have : out[k] = atH out k := by simp [atH, List.getD, hk]
                         rw [this]; simpa using h⟩
  rw [List.mem_iff_getElem]
  refine ⟨k - 1, by simp; omega, ?_⟩
  rw [List.getElem_drop]
  congr 1; omega
theorem full_ok {out : List Int} (h : ∀ k, 1 ≤ k → k < out.length → 0 ≤ atH out k) : full out = true := by
  unfold full
  rw [List.all_eq_true]
  intro x hx
  obtain ⟨i, hi, rfl⟩ := List.getElem_of_mem hx
  rw [List.getElem_drop]
  have hi' : i < out.length - 1 := by simpa using hi
  have := h (1 + i) (by omega) (by omega)
  have e : out[1 + i]'(by omega) = atH out (1 + i) := by simp [atH, List.getD, show 1 + i < out.length by omega]
  rw [e]; simpa using this
theorem arndM_inv {bs : List Blk} {up : List Int} (h : arndM bs = some up) : up.length = bs.length ∧ ∀ k, 1 ≤ k → k < bs.length → 0 ≤ atH up k ∧ atH up k < k := by
  unfold arndM at h
  split at h
  · rename_i out e
    split at h
    · rename_i hf
      cases h
      have hI := arAll_inv bs 0 (ArI.init _) e
      refine ⟨hI.1, fun k h1 hk => ?_⟩
      rcases hI.2 k hk with c | c
      · have := full_bad h1 (by rw [hI.1]; exact hk) (by omega : atH up k < 0)
        rw [this] at hf; cases hf
      · exact c
    · cases h
  · cases h
/-- A round over the operations of one block. -/
theorem ar_conds {n i : Nat} {out : List Int} {o : OpD} (hk : o.kind = 4) : (arOp n i out o = none ↔ (o.a ≤ i ∨ (n : Int) ≤ o.a ∨ 0 ≤ atH out o.a.toNat)) ∧ (¬ (o.a ≤ i ∨ (n : Int) ≤ o.a ∨ 0 ≤ atH out o.a.toNat) → arOp n i out o = some (out.set o.a.toNat i)) := by
  unfold arOp
  rw [if_pos hk]
  constructor
  · constructor
    · intro h
      split at h
      · rename_i c; exact c
      · cases h
    · intro h; rw [if_pos h]
  · intro h; rw [if_neg h]
set_option maxRecDepth 100000 in
theorem c_impl_around {bs : List Blk} (hb : bs ≠ []) (hl : bs.length ≤ 60) (hsm : ∀ b, b ∈ bs → smB b.ops ∧ b.ops.length ≤ 200) (hbad : arndM bs = none → R (.ret (.tup [nilS, bv false])) σ) (hok : ∀ up, arndM bs = some up → R (.ret (.tup [.ro (ivs up), bv true])) σ) :
    acall TP fn_impl_around [roBk bs] σ R := by
  refine s_impl_around_ok ?_
  unfold s_impl_around
  have hpos : 0 < bs.length := List.length_pos_iff.2 hb
  simp only [RR, len_ro]
  refine mk_Li (by omega) (by omega) (by omega) fun φ hφ => ?_
  simp only [Int.toNat_natCast, len_own, RR]
  have hsub : ∀ F, AH.Sub σ (σ.set φ F) := fun F => .set (.refl σ) _ hφ
  refine lp_for bs.length (fun j => (roBk bs, .own φ 0 0 bs.length, iv (bs.length : Int), iv (j : Int), ())) (fun j τ => τ = σ.set φ ⟨0, 1, ivs (List.replicate j (-1) ++ List.replicate (bs.length - j) 0)⟩) rfl (by simp [ivs]) ?_
  rintro j _ hj rfl R' hR'
  have hlen : (List.replicate j (-1 : Int) ++ List.replicate (bs.length - j) 0).length = bs.length := by simp; omega
  by_cases hlt : j < bs.length
  · have g : (j : Int) < (bs.length : Int) := by omega
    have hF := AH.set_same σ φ (⟨0, 1, ivs (List.replicate j (-1) ++ List.replicate (bs.length - j) 0)⟩ : Fam)
    obtain ⟨e1, _⟩ := own_rd hF (i := j) (by omega)
    rw [hlen] at e1
    simp only [g, e1, RR]
    refine own_wr hF (by omega) ?_
    simp only [ibin_up hlt (by omega), RR, AH.set_set]
    refine hR' hlt _ _ (.refl _) ?_
    congr 3
    rw [List.set_append_right _ _ (by simp)]
    simp only [List.length_replicate, Nat.sub_self]
    obtain ⟨d, hd⟩ : ∃ d, bs.length - j = d + 1 := ⟨bs.length - j - 1, by omega⟩
    rw [hd, List.replicate_succ, List.set_cons_zero, show bs.length - (j + 1) = d by omega, List.replicate_succ']
    simp
  have g : ¬ (j : Int) < (bs.length : Int) := by omega
  obtain rfl : j = bs.length := by omega
  simp only [g, RR, len_ro]
  clear hR' R'
  simp only [Nat.sub_self, List.replicate_zero, List.append_nil] at hlen ⊢
  have hbad' : ∀ k out, arAll bs.length 0 (bs.take k) (List.replicate bs.length (-1)) = some out → arAll bs.length 0 (bs.take (k + 1)) (List.replicate bs.length (-1)) = none → R (.ret (.tup [nilS, bv false])) σ := by
    intro k out _ h
    refine hbad ?_
    unfold arndM
    rw [arAll_none h]
  refine lp_by (fun k x τ => ∃ (i : Nat) (out : List Int), i + k = bs.length ∧ x = (roBk bs, .own φ 0 0 bs.length, roBk bs, iv (bs.length : Int), iv (i : Int), ()) ∧ τ = σ.set φ ⟨0, 1, ivs out⟩ ∧ arAll bs.length 0 (bs.take i) (List.replicate bs.length (-1)) = some out) bs.length
    ⟨0, _, by omega, rfl, rfl, rfl⟩ ?_
  rintro k x τ ⟨i, out, hk, rfl, rfl, hA⟩ R' hR'
  have hI := arAll_inv _ _ (ArI.init bs.length) hA
  by_cases hi : i < bs.length
  · have g : (i : Int) < (bs.length : Int) := by omega
    obtain ⟨hsb, hlb⟩ := hsm _ (List.getElem_mem hi)
    simp only [g, idx_ro hi len_encBlk, RR, RT]
    refine new_encBlk rfl ?_
    simp only [RR, RT, len_ro]
    refine lp_by (fun k2 x τ => ∃ (j : Nat) (out2 : List Int), j + k2 = bs[i].ops.length ∧ x = (roBk bs, .own φ 0 0 bs.length, iv (i : Int), roBk bs, iv (bs.length : Int), iv (i : Int), roO bs[i].ops, iv (bs[i].ops.length : Int), iv (j : Int), ()) ∧
      τ = σ.set φ ⟨0, 1, ivs out2⟩ ∧ arOps bs.length i (bs[i].ops.take j) out = some out2) bs[i].ops.length ⟨0, out, by omega, rfl, rfl, rfl⟩ ?_
    rintro k2 x τ ⟨j, out2, hk2, rfl, rfl, hA2⟩ R2 hR2
    have hI2 := arOps_inv _ hI hA2
    have hF2 := AH.set_same σ φ (⟨0, 1, ivs out2⟩ : Fam)
    by_cases hj2 : j < bs[i].ops.length
    · have g2 : (j : Int) < (bs[i].ops.length : Int) := by omega
      have hnext := arOps_at hj2 hA2
      simp only [g2, jn, idx_ro hj2 len_encOp, RR, RT]
      refine new_encOp rfl ?_
      simp only [RR, RT, len_ro, ibin_up hj2 (by omega)]
      have hso := hsb _ (List.getElem_mem hj2)
      have hfail : arOp bs.length i out2 bs[i].ops[j] = none → R (.ret (.tup [nilS, bv false])) σ := by
        intro hn
        refine hbad' i out hA ?_
        rw [arAll_at hi hA]
        exact arOps_none (k := j + 1) (hnext.trans hn)
      by_cases c4 : bs[i].ops[j].kind = 4
      case neg =>
        have : arOp bs.length i out2 bs[i].ops[j] = some out2 := by unfold arOp; rw [if_neg c4]
        simp only [c4, RR]
        exact hR2 _ _ (k2 - 1) _ (by omega) (.refl _) ⟨j + 1, out2, by omega, rfl, rfl, by rw [hnext, this]⟩
      obtain ⟨q1, q2⟩ := ar_conds (n := bs.length) (i := i) (out := out2) c4
      by_cases c5 : bs[i].ops[j].a ≤ (i : Int)
      · simp only [c4, c5, RR]
        exact aret_sub (hsub _) (hfail (q1.2 (.inl c5)))
      by_cases c6 : (bs.length : Int) ≤ bs[i].ops[j].a
      · simp only [c4, c5, c6, RR, RT, len_ro]
        exact aret_sub (hsub _) (hfail (q1.2 (.inr (.inl c6))))
      generalize ht : bs[i].ops[j].a = t at *
      obtain ⟨tn, rfl⟩ : ∃ tn : Nat, t = (tn : Int) := ⟨t.toNat, by omega⟩
      have htn : tn < bs.length := by omega
      obtain ⟨r1, r2⟩ := own_rd hF2 (i := tn) (by rw [hI2.1]; exact htn)
      rw [hI2.1] at r1
      by_cases c7 : 0 ≤ atH out2 tn
      · simp only [c4, c5, c6, c7, ht, r1, r2, RR, RT, len_ro]
        exact aret_sub (hsub _) (hfail (q1.2 (.inr (.inr c7))))
      · simp only [c4, c5, c6, c7, ht, r1, r2, RR, RT, len_ro]
        refine own_wr hF2 (by rw [hI2.1]; exact htn) ?_
        simp only [AH.set_set]
        refine hR2 _ _ (k2 - 1) _ (by omega) (.refl _) ⟨j + 1, out2.set tn i, by omega, rfl, rfl, ?_⟩
        rw [hnext, q2 (by rw [Int.toNat_natCast]; omega), Int.toNat_natCast]
    · have g2 : ¬ (j : Int) < (bs[i].ops.length : Int) := by omega
      obtain rfl : j = bs[i].ops.length := by omega
      rw [List.take_length] at hA2
      simp only [g2, ibin_up hi (by omega), RR]
      exact hR' _ _ (k - 1) _ (by omega) (.refl _) ⟨i + 1, out2, by omega, rfl, rfl, by rw [arAll_at hi hA]; exact hA2⟩
  · have g : ¬ (i : Int) < (bs.length : Int) := by omega
    obtain rfl : i = bs.length := by omega
    rw [List.take_length] at hA
    simp only [g, RR]
    clear hR' R'
    have hF2 := AH.set_same σ φ (⟨0, 1, ivs out⟩ : Fam)
    obtain ⟨d, hd⟩ : ∃ d, bs.length = d + 1 := ⟨bs.length - 1, by omega⟩
    have eo : AV.own φ 0 0 bs.length = AV.own φ 0 0 (d + 1) := by rw [hd]
    have es : slc 1 (AV.own φ 0 0 bs.length) (some (AV.val (Value.int IntKind.i64 1))) none none (σ.set φ ⟨0, 1, ivs out⟩) = some (.own φ 0 1 d) := by rw [eo]; exact slc_own1 hF2
    simp only [es, len_own, RR]
    refine lp_by (fun k x τ => ∃ i : Nat, i + k = d ∧ x = (.own φ 0 0 bs.length, .own φ 0 1 d, iv (d : Int), iv (i : Int), ()) ∧ τ = σ.set φ ⟨0, 1, ivs out⟩ ∧ ∀ j, 1 ≤ j → j < i + 1 → 0 ≤ atH out j) d ⟨0, by omega, rfl, rfl, fun j h1 h2 => by omega⟩ ?_
    rintro k x τ ⟨i, hk, rfl, rfl, hj⟩ R' hR'
    by_cases hi2 : i < d
    · have g : (i : Int) < (d : Int) := by omega
      have r1 : idx 1 (.own φ 0 1 d) (iv (i : Int)) (σ.set φ ⟨0, 1, ivs out⟩) = some (.ptr φ 0 (1 + i) 0) := idx_own hF2 hi2
      obtain ⟨_, r2⟩ := own_rd hF2 (i := 1 + i) (by rw [hI.1]; omega)
      simp only [g, r1, r2, RR]
      by_cases c : atH out (1 + i) < 0
      · simp only [c, RR]
        refine aret_sub (hsub _) (hbad ?_)
        unfold arndM
        rw [hA]
        simp only
        rw [if_neg (by rw [full_bad (k := 1 + i) (by omega) (by rw [hI.1]; omega) c]; simp)]
      · simp only [c, ibin_up hi2 (by omega), RR]
        refine hR' _ _ (k - 1) _ (by omega) (.refl _) ⟨i + 1, by omega, rfl, rfl, fun j h1 h2 => ?_⟩
        rcases Nat.lt_or_ge j (i + 1) with h3 | h3
        · exact hj j h1 h3
        · obtain rfl : j = 1 + i := by omega
          omega
    · have g : ¬ (i : Int) < (d : Int) := by omega
      simp only [g, RR]
      have hup : arndM bs = some out := by
        unfold arndM
        rw [hA]
        simp only
        rw [if_pos (full_ok fun k h1 hk => hj k h1 (by rw [hI.1] at hk; omega))]
      have := fz_own (out := out) hφ
      rw [hI.1] at this
      exact aret_freeze (hsub _) (Fz.tup2 this (.same _)) (hok out hup)
end Go.Proofs.YtlggnigbemghgaaGreatDoor.E
