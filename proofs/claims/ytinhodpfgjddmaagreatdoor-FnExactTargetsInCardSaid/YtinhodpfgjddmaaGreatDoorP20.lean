/- Results that are lists of numbers: compared, marked, held; HeightsOf. -/
import Derived.Test.YtinhodpfgjddmaaGreatDoorP19
set_option linter.unusedSectionVars false
set_option linter.unusedSimpArgs false
set_option linter.unusedVariables false
namespace Go.Proofs.YtinhodpfgjddmaaGreatDoor.E
open Go Go.RowKit
variable [L : Lam]
variable {σ τ : AH} {R : AEnd → AH → Prop}
/-- A slice that reads as a list of numbers. -/
structure Rd (τ : AH) (l : AV) (xs : List Int) : Prop where
  len : lenS l = some (iv (xs.length : Int))
  at_ : ∀ (j : Nat) (h : j < xs.length), ∃ p, idx 1 l (iv (j : Int)) τ = some p ∧ lod p τ = some (iv xs[j])
theorem Rd.ro (τ : AH) (xs : List Int) : Rd τ (.ro (ivs xs)) xs :=
  ⟨len_ro (fun x => [iv x]) xs, fun j h => ⟨_, idx_ro (enc := fun x => [iv x]) h fun _ => rfl, lod_one⟩⟩
theorem Rd.nil (τ : AH) : Rd τ nilS [] := ⟨rfl, fun j h => by cases h⟩
/-- A list of numbers that is owned, or none. -/
def GL (τ : AH) (l : AV) (xs : List Int) : Prop := ((l = nilS ∨ l = .emp) ∧ xs = []) ∨ ∃ φ st out, l = .own φ st 0 xs.length ∧ τ φ = some ⟨st, 1, ivs out⟩ ∧ ∀ (j : Nat) (h : j < xs.length), out[j]? = some xs[j]
theorem GL.rd {l : AV} {xs : List Int} (h : GL τ l xs) : Rd τ l xs := by
  rcases h with ⟨rfl | rfl, rfl⟩ | ⟨φ, st, out, rfl, hF, ho⟩
  · exact .nil τ
  · exact ⟨rfl, fun j h => by cases h⟩
  · refine ⟨rfl, fun j hj => ⟨.ptr φ st j 0, ?_, ?_⟩⟩
    · have := idx_own (st := st) (off := 0) hF hj
      rwa [Nat.zero_add] at this
    · refine lod_at hF rfl ?_
      have := ho j hj
      simp [List.getD, this]
theorem GL.one {l : AV} {xs : List Int} (h : GL τ l xs) : l.one = true := by
  rcases h with ⟨rfl | rfl, _⟩ | ⟨φ, st, out, rfl, _, _⟩ <;> rfl
theorem GL.nom {l : AV} {xs : List Int} (h : GL τ l xs) : Nom l := by
  rcases h with ⟨rfl | rfl, _⟩ | ⟨φ, st, out, rfl, _, _⟩
  · exact .val _
  · exact .emp
  · exact .own _ _ _ _
theorem GL.move {τ' : AH} {l : AV} {xs : List Int} (h : GL τ l xs) (k : ∀ φ F, τ φ = some F → F.sz = 1 → τ' φ = some F) : GL τ' l xs := by
  rcases h with h | ⟨φ, st, out, e, hF, ho⟩
  · exact .inl h
  · exact .inr ⟨φ, st, out, e, k _ _ hF rfl, ho⟩
theorem c_laws_eqInt64S {a b : AV} {xs : List Int} (ha : Rd σ a xs) (hb : Rd σ b xs) (hl : xs.length ≤ 1048576) (h : R (.ret (bv true)) σ) : acall TP fn_laws_eqInt64S [a, b] σ R := by
  refine s_laws_eqInt64S_ok ?_
  unfold s_laws_eqInt64S
  simp only [ha.len, hb.len, dec_self, RR]
  refine lp_same xs.length (fun i => (a, b, iv (i : Int), ())) (fun _ => True) rfl trivial ?_
  intro i hi _ R' hR'
  simp only [ha.len, RR]
  by_cases hlt : i < xs.length
  · have g : (i : Int) < (xs.length : Int) := by omega
    obtain ⟨p, p1, p2⟩ := ha.at_ i hlt
    obtain ⟨q, q1, q2⟩ := hb.at_ i hlt
    simp only [g, p1, p2, q1, q2, dec_self, ibin_up hlt (by omega), RR]
    exact hR' hlt trivial _ (.refl _)
  · have g : ¬ (i : Int) < (xs.length : Int) := by omega
    simp only [g, RR]
    exact ret_here h
theorem c_laws_eqIntsResult {c : Int} {a b : AV} {xs : List Int} (ha : Rd σ a xs) (hb : Rd σ b xs) (hl : xs.length ≤ 1048576) (h : R (.ret (bv true)) σ) : acall TP fn_laws_eqIntsResult [.agg [iv c, a], .agg [iv c, b]] σ R := by
  refine s_laws_eqIntsResult_ok ?_
  unfold s_laws_eqIntsResult
  refine box2_frz rfl rfl ?_
  have e0 : ∀ x τ, lod (.rop [iv c, x] 0) τ = some (iv c) := fun _ _ => rfl
  have e1 : ∀ x τ, lod (.rop [iv c, x] 1) τ = some x := fun _ _ => rfl
  simp only [RR, e0, e1, dec_self]
  refine c_laws_eqInt64S ha hb hl ?_
  simp only [RR]
  exact ret_here h
def marks (n : Nat) : List Int := (List.range n).map (fun i : Nat => (i : Int) + 1)
theorem marks_len (n : Nat) : (marks n).length = n := by simp [marks]
theorem marks_at {n j : Nat} (h : j < (marks n).length) : (marks n)[j] = (j : Int) + 1 := by simp [marks]
theorem c_laws_markInt64S {l : AV} {xs : List Int} (hG : GL τ l xs) (hl : xs.length ≤ 1048576) (h : ∀ τ', GL τ' l (marks xs.length) → R (.ret (iv ((xs.length : Int) + 1))) τ') : acall TP fn_laws_markInt64S [l, iv 1] τ R := by
  refine s_laws_markInt64S_ok ?_
  unfold s_laws_markInt64S
  rcases hG with ⟨hn, rfl⟩ | ⟨φ, st, out, rfl, hF, ho⟩
  · refine lp_same 0 (fun _ => (l, iv 1, iv 0, ())) (fun _ => True) rfl trivial ?_
    intro i _ _ R' _
    have e : lenS l = some (iv 0) := by rcases hn with rfl | rfl <;> rfl
    simp only [e, RR]
    exact ret_here (h τ (.inl ⟨hn, by simp [marks]⟩))
  · refine lp_by (fun n x τ' => ∃ (i : Nat) (out' : List Int), i + n = xs.length ∧ x = (.own φ st 0 xs.length, iv ((i : Int) + 1), iv (i : Int), ()) ∧ τ' = τ.set φ ⟨st, 1, ivs out'⟩ ∧ out'.length = out.length ∧ ∀ j, j < i → out'[j]? = some ((j : Int) + 1)) xs.length
      ⟨0, out, by omega, rfl, (AH.set_self hF).symm, rfl, fun j hj => by omega⟩ ?_
    rintro n x τ1 ⟨i, out', hn, rfl, rfl, hol, hd⟩ R' hR'
    have hF1 := AH.set_same τ φ (⟨st, 1, ivs out'⟩ : Fam)
    simp only [len_own, RR]
    by_cases hi : i < xs.length
    · have g : (i : Int) < (xs.length : Int) := by omega
      have hio : i < out.length := (List.getElem?_eq_some_iff.1 (ho i hi)).1
      have ix := idx_own (st := st) (off := 0) hF1 hi
      rw [Nat.zero_add] at ix
      have a1 : ibin .add (iv ((i : Int) + 1)) (.val (.int .i64 1)) = some (iv (((i + 1 : Nat) : Int) + 1)) := by rw [ibin_add (by omega) (by omega)]; congr 3
      simp only [g, ix, RR]
      refine own_wr hF1 (by omega) ?_
      simp only [a1, ibin_up hi (by omega), AH.set_set, RR]
      refine hR' _ _ (n - 1) _ (by omega) (.refl _) ⟨i + 1, _, by omega, rfl, rfl, by simpa using hol, fun j hj => ?_⟩
      rw [List.getElem?_set]
      split
      · rename_i e; subst e; simp; omega
      · exact hd j (by omega)
    · have g : ¬ (i : Int) < (xs.length : Int) := by omega
      obtain rfl : i = xs.length := by omega
      simp only [g, RR]
      refine ret_here (h _ (.inr ⟨φ, st, out', by rw [marks_len], hF1, fun j hj => ?_⟩))
      rw [marks_len] at hj
      rw [hd j hj, marks_at]
theorem c_laws_heldInt64S {l : AV} {n : Nat} (hR : Rd σ l (marks n)) (hl : n ≤ 1048576) (h : R (.ret (iv ((n : Int) + 1))) σ) : acall TP fn_laws_heldInt64S [l, iv 1] σ R := by
  refine s_laws_heldInt64S_ok ?_
  unfold s_laws_heldInt64S
  have hlen := hR.len
  rw [marks_len] at hlen
  refine lp_same n (fun i => (l, iv ((i : Int) + 1), iv (i : Int), ())) (fun _ => True) rfl trivial ?_
  intro i hi _ R' hR'
  simp only [hlen, RR]
  by_cases hlt : i < n
  · have g : (i : Int) < (n : Int) := by omega
    obtain ⟨p, p1, p2⟩ := hR.at_ i (by rw [marks_len]; exact hlt)
    rw [marks_at] at p2
    have a1 : ibin .add (iv ((i : Int) + 1)) (.val (.int .i64 1)) = some (iv (((i + 1 : Nat) : Int) + 1)) := by rw [ibin_add (by omega) (by omega)]; congr 3
    simp only [g, p1, p2, a1, dec_self, ibin_up hlt (by omega), RR]
    exact hR' hlt trivial _ (.refl _)
  · have g : ¬ (i : Int) < (n : Int) := by omega
    obtain rfl : i = n := by omega
    simp only [g, RR]
    exact ret_here h
theorem c_laws_markIntsResult {c : Int} {l : AV} {xs : List Int} (hG : GL τ l xs) (hl : xs.length ≤ 1048576) (h : ∀ τ', GL τ' l (marks xs.length) → R (.ret (iv ((xs.length : Int) + 1))) τ') : acall TP fn_laws_markIntsResult [.agg [iv c, l], iv 1] τ R := by
  refine s_laws_markIntsResult_ok ?_
  unfold s_laws_markIntsResult
  refine box_frz rfl ?_
  have e1 : ∀ τ, lod (.rop [iv c, l] 1) τ = some l := fun _ => rfl
  simp only [RR, e1]
  refine c_laws_markInt64S hG hl fun τ' hG' => ?_
  simp only [RR]
  exact ret_here (h τ' hG')
theorem c_laws_heldIntsResult {c : Int} {l : AV} {n : Nat} (hR : Rd σ l (marks n)) (hl : n ≤ 1048576) (h : R (.ret (iv ((n : Int) + 1))) σ) : acall TP fn_laws_heldIntsResult [.agg [iv c, l], iv 1] σ R := by
  refine s_laws_heldIntsResult_ok ?_
  unfold s_laws_heldIntsResult
  refine box_frz rfl ?_
  have e1 : ∀ τ, lod (.rop [iv c, l] 1) τ = some l := fun _ => rfl
  simp only [RR, e1]
  refine c_laws_heldInt64S hR hl ?_
  have g : ¬ ((n : Int) + 1) < 0 := by omega
  simp only [g, RR]
  exact ret_here h
/-- The frame of a function that has its argument in a box and its result in a cell. -/
theorem box_new {x : AV} {xs z : List AV} {k : AV → AV → AH → Prop} (hx : acells x = some xs) (h : ∀ φ, σ φ = none → k (.rop xs 0) (.ptr φ 0 0 0) (σ.set φ ⟨0, z.length, [z]⟩)) : abox x σ fun v1 σ => new z σ fun v2 σ => frz v1 σ fun f1 σ => k f1 v2 σ := by
  unfold abox; rw [hx]
  intro φ1 h1 φ2 h2
  rw [AH.set_none] at h2
  rw [AH.set_comm _ _ _ (Ne.symm h2.1)]
  exact frz_cell (AH.set_none.2 ⟨Ne.symm h2.1, h1⟩) rfl (h φ2 h2.2)
theorem bldI (x : Int) : bld [iv 0, nilS] [(0, 1), (1, 1)] [(0, iv x)] = some (.agg [iv x, nilS]) := rfl
/-! ### HeightsOf -/
noncomputable def hgC (b : Blk) : Int := if blkF b = 0 then (match hts b.ops with | some _ => 0 | none => 1) else blkF b
noncomputable def hgL (b : Blk) : List Int := if blkF b = 0 then (match hts b.ops with | some out => out | none => []) else []
theorem hgL_len (b : Blk) : (hgL b).length ≤ 200 := by
  unfold hgL
  split
  · rename_i c
    have := (blkF_sm c).2
    cases h : hts b.ops with
    | none => simp
    | some out =>
      have := (hts_some h).len
      show out.length ≤ 200
      omega
  · simp
theorem c_spec_HeightsOf {b : Blk} (hs : sB b) (h : ∀ l, (∀ τ, Rd τ l (hgL b)) → l.one = true → R (.ret (.agg [iv (hgC b), l])) σ) : acall TP fn_spec_HeightsOf [.agg (encBlk b)] σ R := by
  refine s_spec_HeightsOf_ok ?_
  unfold s_spec_HeightsOf
  refine box_new rfl fun φ hφ => ?_
  refine c_spec_l10Heights hs ?_
  unfold htsW
  unfold hgL hgC at h
  have b2n : ∀ x : Int, bld [iv 0, nilS] [(0, 1), (1, 1)] [(0, iv x), (1, nilS)] = some (.agg [iv x, nilS]) := fun _ => rfl
  have b2r : ∀ (x : Int) (es : List (List AV)), bld [iv 0, nilS] [(0, 1), (1, 1)] [(0, iv x), (1, .ro es)] = some (.agg [iv x, .ro es]) := fun _ _ => rfl
  by_cases c : blkF b = 0
  · rw [if_pos c] at h ⊢
    rw [if_pos c] at h
    cases hh : hts b.ops with
    | none =>
      rw [hh] at h
      simp only [aext0, aext1, b2n, RR]
      exact fin_cell hφ rfl rfl (one2 rfl rfl) (h _ (fun τ => .nil τ) rfl)
    | some out =>
      rw [hh] at h
      simp only [aext0, aext1, b2r, RR]
      exact fin_cell hφ rfl rfl (one2 rfl rfl) (h _ (fun τ => .ro τ out) rfl)
  · rw [if_neg c] at h ⊢
    rw [if_neg c] at h
    simp only [aext0, aext1, b2n, RR]
    exact fin_cell hφ rfl rfl (one2 rfl rfl) (h _ (fun τ => .nil τ) rfl)
theorem c_impl_HeightsOf_own {b : Blk} (h1 : ∀ l, l = nilS → hgL b = [] → R (.ret (.agg [iv (hgC b), l])) σ) (h2 : ∀ φ, σ φ = none → R (.ret (.agg [iv (hgC b), .own φ 0 0 (hgL b).length])) (σ.set φ ⟨0, 1, ivs (hgL b)⟩)) : acall TP fn_impl_HeightsOf [.agg (encBlk b)] σ R := by
  refine s_impl_HeightsOf_ok ?_
  unfold s_impl_HeightsOf
  refine box_new rfl fun φ hφ => ?_
  unfold hgL hgC at h1 h2
  simp only [lodA_all (len_encBlk b), RR]
  refine c_impl_blockFault ?_
  by_cases c : blkF b = 0
  case neg =>
    rw [if_neg c] at h1
    rw [if_neg c] at h1
    simp only [c, bldI, RR]
    exact fin_cell hφ rfl rfl (one2 rfl rfl) (h1 _ rfl rfl)
  rw [if_pos c] at h1 h2
  rw [if_pos c] at h1
  obtain ⟨hsm, hl⟩ := blkF_sm c
  simp only [c, lodA_all (len_encBlk b), RR]
  refine c_impl_heightsOf_own hsm hl (fun hb => ?_) (fun out φ2 ho h22 => ?_)
  · rw [hts_bad hb] at h1
    simp only [aext0, aext1, bldI, RR]
    exact fin_cell hφ rfl rfl (one2 rfl rfl) (h1 _ rfl rfl)
  · rw [hts_ok ho] at h2
    rw [AH.set_none] at h22
    have b1 : bld [iv 0, nilS] [(0, 1), (1, 1)] [(1, .own φ2 0 0 out.length)] = some (.agg [iv 0, .own φ2 0 0 out.length]) := rfl
    simp only [aext0, aext1, b1, RR]
    rw [AH.set_comm _ _ _ (Ne.symm h22.1)]
    have h3 := h2 φ2 h22.2
    rw [if_pos c] at h3
    exact fin_cell (AH.set_none.2 ⟨Ne.symm h22.1, hφ⟩) rfl rfl (one2 rfl rfl) h3
theorem c_impl_HeightsOf {b : Blk} (h : ∀ l, (∀ τ, Rd τ l (hgL b)) → l.one = true → R (.ret (.agg [iv (hgC b), l])) σ) : acall TP fn_impl_HeightsOf [.agg (encBlk b)] σ R := by
  refine acall_imp (c_impl_HeightsOf_own (σ := σ) (R := fun e σ' => (e = .ret (.agg [iv (hgC b), nilS]) ∧ σ' = σ ∧ hgL b = []) ∨ ∃ φ, σ φ = none ∧ e = .ret (.agg [iv (hgC b), .own φ 0 0 (hgL b).length]) ∧ σ' = σ.set φ ⟨0, 1, ivs (hgL b)⟩) (fun l hl h0 => .inl ⟨by rw [hl], rfl, h0⟩) (fun φ hφ => .inr ⟨φ, hφ, rfl, rfl⟩)) ?_
  rintro e σ' (⟨rfl, rfl, h0⟩ | ⟨φ, hφ, rfl, rfl⟩)
  · refine ⟨_, rfl, _, σ', imp_freeze (.refl σ') (.same _), h nilS (fun τ => ?_) rfl⟩
    rw [h0]; exact .nil τ
  · exact ⟨_, rfl, _, σ, imp_freeze (.set (.refl σ) _ hφ) (Fz.agg2 (.same _) (fz_own hφ)), h _ (fun τ => .ro τ _) rfl⟩
end Go.Proofs.YtinhodpfgjddmaaGreatDoor.E
