/- TargetsIn. -/
import Derived.Test.YtinhodpfgjddmaaGreatDoorP20
set_option linter.unusedSectionVars false
set_option linter.unusedSimpArgs false
set_option linter.unusedVariables false
namespace Go.Proofs.YtinhodpfgjddmaaGreatDoor.E
open Go Go.RowKit
variable [L : Lam]
variable {σ τ : AH} {R : AEnd → AH → Prop}
/-! ### the targets, sorted, each once -/
theorem compact_lt {zs : List Int} (h : zs.Pairwise (· ≤ ·)) : (Lib.compact zs).Pairwise (· < ·) := by
  unfold Lib.compact Lib.compactUpTo
  rw [List.pairwise_map, List.pairwise_filter]
  have e : ∀ j, j < zs.length → zs.toArray[j]! = zs.getD j 0 := by
    intro j hj
    simp [hj, List.getD]
  have hle : ∀ i j, i ≤ j → j < zs.length → zs.getD i 0 ≤ zs.getD j 0 := by
    intro i j hij hj
    rcases Nat.lt_or_ge i j with h1 | h1
    · have := List.pairwise_iff_getElem.1 h i j (by omega) hj h1
      simpa [List.getD, hj, show i < zs.length by omega] using this
    · obtain rfl : i = j := by omega
      exact Int.le_refl _
  refine List.Pairwise.imp_of_mem (R := (· < ·)) (fun {i j} hi hj hij _ hk => ?_) (List.pairwise_lt_range (n := zs.length))
  have hi := List.mem_range.1 hi
  have hj := List.mem_range.1 hj
  have hne : zs.toArray[j]! ≠ zs.toArray[j - 1]! := by
    intro hc
    have := Lib.keeps_neg (by omega : 0 < j) hc
    rw [this] at hk; cases hk
  rw [e i hi, e j hj]
  rw [e j hj, e (j - 1) (by omega)] at hne
  have h1 := hle i (j - 1) (by omega) (by omega)
  have h2 := hle (j - 1) j (by omega) hj
  omega
theorem lt_unique : ∀ (a b : List Int), a.Pairwise (· < ·) → b.Pairwise (· < ·) → (∀ x, x ∈ a ↔ x ∈ b) → a = b := by
  intro a
  induction a with
  | nil =>
    intro b _ _ h
    cases b with
    | nil => rfl
    | cons y b => exact absurd ((h y).2 (by simp)) (by simp)
  | cons x a ih =>
    intro b ha hb h
    cases b with
    | nil => exact absurd ((h x).1 (by simp)) (by simp)
    | cons y b =>
      rw [List.pairwise_cons] at ha hb
      have hxy : x = y := by
        rcases List.mem_cons.1 ((h x).1 (by simp)) with e | e
        · exact e
        · rcases List.mem_cons.1 ((h y).2 (by simp)) with e2 | e2
          · exact e2.symm
          · have := hb.1 x e
            have := ha.1 y e2
            omega
      subst hxy
      rw [ih b ha.2 hb.2 fun z => ?_]
      constructor
      · intro hz
        rcases List.mem_cons.1 ((h z).1 (List.mem_cons_of_mem _ hz)) with e | e
        · have := ha.1 z hz; omega
        · exact e
      · intro hz
        rcases List.mem_cons.1 ((h z).2 (List.mem_cons_of_mem _ hz)) with e | e
        · have := hb.1 z hz; omega
        · exact e
def isT (os : List OpD) (t : Nat) : Bool := os.any fun o => decide (tgtN o = (t : Int))
def tgR (os : List OpD) (n : Nat) : List Int := ((List.range n).filter (isT os)).map fun t : Nat => (t : Int)
theorem tgR_succ (os : List OpD) (n : Nat) : tgR os (n + 1) = tgR os n ++ if isT os n then [(n : Int)] else [] := by
  unfold tgR
  rw [List.range_succ, List.filter_append, List.map_append]
  congr 1
  simp only [List.filter_cons, List.filter_nil]
  split <;> rfl
theorem tgtN_le {o : OpD} (h : smO o) : tgtN o ≤ 999 := by
  obtain ⟨h1, h2, h3, h4, h5, h6, h7, h8⟩ := h
  unfold tgtN
  split
  · exact h2
  · split
    · exact h6
    · omega
theorem tgR_all {os : List OpD} (hs : smB os) : tgR os 1000 = tgtL os := by
  refine lt_unique _ _ ?_ ?_ fun x => ?_
  · unfold tgR
    rw [List.pairwise_map, List.pairwise_filter]
    exact List.Pairwise.imp (fun {a b} h _ _ => by omega) List.pairwise_lt_range
  · unfold tgtL
    refine compact_lt (List.Pairwise.imp (fun {a b} h => by simpa using h) (List.pairwise_mergeSort (fun a b c h1 h2 => by simp at h1 h2 ⊢; omega) (fun a b => by simp; omega) (tgts os)))
  · rw [mem_tgtL]
    unfold tgR
    rw [List.mem_map]
    constructor
    · rintro ⟨t, ht, rfl⟩
      obtain ⟨h1, h2⟩ := List.mem_filter.1 ht
      unfold isT at h2
      rw [List.any_eq_true] at h2
      obtain ⟨o, ho, h3⟩ := h2
      exact ⟨by omega, o, ho, of_decide_eq_true h3⟩
    · rintro ⟨h0, o, ho, e⟩
      have := tgtN_le (hs o ho)
      refine ⟨x.toNat, List.mem_filter.2 ⟨List.mem_range.2 (by omega), ?_⟩, by omega⟩
      unfold isT
      rw [List.any_eq_true]
      exact ⟨o, ho, decide_eq_true (by rw [e]; omega)⟩
theorem c_spec_l9IsTarget {b : Blk} {t : Nat} (hl : b.ops.length ≤ 200) (h : R (.ret (bv (isT b.ops t))) σ) : acall TP fn_spec_l9IsTarget [.rop (encBlk b) 0, iv (t : Int)] σ R := by
  refine s_spec_l9IsTarget_ok ?_
  unfold s_spec_l9IsTarget
  refine lp_same b.ops.length (fun i => (AV.rop (encBlk b) 0, iv (t : Int), iv (i : Int), ())) (fun i => ∀ (j : Nat) (hj : j < b.ops.length), j < i → tgtN b.ops[j] ≠ (t : Int)) rfl (fun j hj h => by omega) ?_
  intro i hi hH R' hR'
  simp only [RR, RT, len_ro]
  by_cases hlt : i < b.ops.length
  · have g : (i : Int) < (b.ops.length : Int) := by omega
    simp only [g, idx_ro hlt len_encOp, RR, RT]
    refine c_spec_l9Target ?_
    by_cases c : tgtN b.ops[i] = (t : Int)
    · simp only [c, RR]
      have : isT b.ops t = true := by
        unfold isT
        rw [List.any_eq_true]
        exact ⟨_, List.getElem_mem hlt, decide_eq_true c⟩
      rw [this] at h
      exact ret_here h
    · simp only [c, ibin_up hlt (by omega), RR]
      refine hR' hlt (fun j hj h1 => ?_) _ (.refl _)
      rcases Nat.lt_or_ge j i with h2 | h2
      · exact hH j hj h2
      · obtain rfl : j = i := by omega
        exact c
  · have g : ¬ (i : Int) < (b.ops.length : Int) := by omega
    simp only [g, RR]
    have : isT b.ops t = false := by
      unfold isT
      rw [List.any_eq_false]
      intro o ho
      obtain ⟨j, hj, rfl⟩ := List.getElem_of_mem ho
      have := hH j hj (by omega)
      simpa using this
    rw [this] at h
    exact ret_here h
noncomputable def tgV (b : Blk) : List Int := if blkF b = 0 then tgtL b.ops else []
theorem tgV_len (b : Blk) : (tgV b).length ≤ 200 := by
  unfold tgV
  split
  · rename_i c
    have := (blkF_sm c).2
    have := tgtL_len b.ops
    omega
  · simp
/-- The first number of a slice that is nil. -/
theorem push_nil {x : Int} {k : AV → AH → Prop} (h : ∀ ψ φ, σ ψ = none → σ φ = none → φ ≠ ψ → k (.own φ 0 0 1) ((σ.set ψ ⟨0, 1, [[iv x]]⟩).set φ ⟨0, 1, [[iv x]]⟩)) : bsl 1 [iv 0] 1 [(0, iv x)] σ fun v σ => app 1 nilS v σ k := by
  refine ⟨by decide, ?_⟩
  rw [if_neg (by decide)]
  intro ψ hψ
  show app 1 nilS (.own ψ 0 0 1) (σ.set ψ ⟨0, 1, [[iv x]]⟩) k
  unfold app
  have e : aelems (σ.set ψ ⟨0, 1, [[iv x]]⟩) (.own ψ 0 0 1) = some [[iv x]] := by simp [aelems]
  rw [e]
  refine ⟨by simp, by simp, by simp, fun _ φ hφ => ?_⟩
  rw [AH.set_none] at hφ
  exact h ψ φ hψ hφ.2 hφ.1
set_option maxRecDepth 100000 in
theorem c_spec_TargetsIn {b : Blk} (hs : sB b) (h : ∀ l, (∀ τ, Rd τ l (tgV b)) → l.one = true → R (.ret (.agg [iv (blkF b), l])) σ) : acall TP fn_spec_TargetsIn [.agg (encBlk b)] σ R := by
  refine s_spec_TargetsIn_ok ?_
  unfold s_spec_TargetsIn
  refine box_new rfl fun φ2 h2 => ?_
  refine c_spec_l9Block hs ?_
  unfold tgV at h
  by_cases c : blkF b = 0
  case neg =>
    rw [if_neg c] at h
    simp only [c, bldI, RR]
    exact fin_cell h2 rfl rfl (one2 rfl rfl) (h _ (fun τ => .nil τ) rfl)
  rw [if_pos c, c] at h
  obtain ⟨hsm, hl⟩ := blkF_sm c
  have b0 : bld [iv 0, nilS] [(0, 1), (1, 1)] [] = some (.agg [iv 0, nilS]) := rfl
  simp only [c, b0, RR]
  intro φ4 h4
  rw [AH.set_none] at h4
  refine sto_own (es := [[iv 0, nilS]]) (cs := [iv 0, nilS]) (AH.set_same ..) (by simp) rfl rfl rfl (one2 rfl rfl) ?_
  simp only [AH.set_set, List.set_cons_zero]
  refine lp_by (fun k x τ => ∃ (i : Nat) (l : AV) (τ1 : AH), i + k = 1000 ∧ x = (.rop (encBlk b) 0, .ptr φ2 0 0 0, .ptr φ4 0 0 0, iv (i : Int), ()) ∧ τ = (τ1.set φ2 ⟨0, 2, [[iv 0, nilS]]⟩).set φ4 ⟨0, 2, [[iv 0, l]]⟩ ∧
      ((l = nilS ∧ tgR b.ops i = [] ∧ τ1 = σ) ∨ ∃ φ st, σ φ = none ∧ φ ≠ φ2 ∧ φ ≠ φ4 ∧ l = .own φ st 0 (tgR b.ops i).length ∧ τ1 = σ.set φ ⟨st, 1, ivs (tgR b.ops i)⟩)) 1000 ⟨0, nilS, σ, by omega, rfl, rfl, .inl ⟨rfl, rfl, rfl⟩⟩ ?_
  rintro k x τ ⟨i, l, τ1, hk, rfl, rfl, hL⟩ R' hR'
  have hF4 : ((τ1.set φ2 ⟨0, 2, [[iv 0, nilS]]⟩).set φ4 ⟨0, 2, [[iv 0, l]]⟩) φ4 = some ⟨0, 2, [[iv 0, l]]⟩ := AH.set_same ..
  have hne : φ2 ≠ φ4 := Ne.symm h4.1
  by_cases hi : i < 1000
  · have g : (i : Int) < 1000 := by omega
    simp only [g, jn, RR]
    refine c_spec_l9IsTarget hl ?_
    have hsucc := tgR_succ b.ops i
    have a1 : ibin .add (iv (i : Int)) (.val (.int .i64 1)) = some (iv ((i + 1 : Nat) : Int)) := ibin_up (n := 1000) hi (by omega)
    cases hT : isT b.ops i
    · rw [hT] at hsucc
      simp only [a1, RR]
      have hsucc' : tgR b.ops (i + 1) = tgR b.ops i := by rw [hsucc]; simp
      exact hR' _ _ (k - 1) _ (by omega) (.refl _) ⟨i + 1, l, τ1, by omega, rfl, rfl, by rw [hsucc']; exact hL⟩
    · rw [hT] at hsucc
      have hsucc' : tgR b.ops (i + 1) = tgR b.ops i ++ [(i : Int)] := by rw [hsucc]; simp
      have hlen : (tgR b.ops i).length ≤ 1000 := by unfold tgR; rw [List.length_map]; exact Nat.le_trans (List.length_filter_le _ _) (by simp; omega)
      have el : lod (.ptr φ4 0 0 1) ((τ1.set φ2 ⟨0, 2, [[iv 0, nilS]]⟩).set φ4 ⟨0, 2, [[iv 0, l]]⟩) = some l := lod_at hF4 rfl rfl
      simp only [el, RR]
      rcases hL with ⟨rfl, he, rfl⟩ | ⟨φ, st, hφ, hn2, hn4, rfl, rfl⟩
      · refine push_nil fun ψ φ hψ hφ hne2 => ?_
        rw [AH.set_none, AH.set_none] at hψ hφ
        have hF4' : ((((τ1.set φ2 ⟨0, 2, [[iv 0, nilS]]⟩).set φ4 ⟨0, 2, [[iv 0, nilS]]⟩).set ψ ⟨0, 1, [[iv (i : Int)]]⟩).set φ ⟨0, 1, [[iv (i : Int)]]⟩) φ4 = some ⟨0, 2, [[iv 0, nilS]]⟩ := by
          rw [AH.set_ne' (Ne.symm hφ.1), AH.set_ne' (Ne.symm hψ.1), AH.set_same]
        try simp only [RR]
        refine sto_fld hF4' rfl (by decide) rfl rfl ?_
        try simp only [a1, RR]
        refine hR' _ _ (k - 1) (((τ1.set φ ⟨0, 1, ivs (tgR b.ops (i + 1))⟩).set φ2 ⟨0, 2, [[iv 0, nilS]]⟩).set φ4 ⟨0, 2, [[iv 0, .own φ 0 0 1]]⟩) (by omega) ?_ ⟨i + 1, .own φ 0 0 1, _, by omega, rfl, rfl, .inr ⟨φ, 0, hφ.2.2, hφ.2.1, hφ.1, by rw [hsucc', he]; rfl, rfl⟩⟩
        refine AH.Sub.set_both ?_ _ _
        rw [hsucc', he]
        intro ζ F hζ
        by_cases z2 : ζ = φ2
        · subst z2
          rw [AH.set_same] at hζ
          rw [AH.set_ne' (Ne.symm hφ.2.1), AH.set_ne' (Ne.symm hψ.2.1), AH.set_ne' hne, AH.set_same]; exact hζ
        rw [AH.set_ne' z2] at hζ
        by_cases z1 : ζ = φ
        · subst z1
          rw [AH.set_same] at hζ
          rw [AH.set_same]; exact hζ
        rw [AH.set_ne' z1] at hζ
        have z3 : ¬ ζ = ψ := by rintro rfl; rw [hψ.2.2] at hζ; cases hζ
        have z4 : ¬ ζ = φ4 := by rintro rfl; rw [h4.2] at hζ; cases hζ
        rw [AH.set_ne' z1, AH.set_ne' z3, AH.set_ne' z4, AH.set_ne' z2]; exact hζ
      · have hFl : (((σ.set φ ⟨st, 1, ivs (tgR b.ops i)⟩).set φ2 ⟨0, 2, [[iv 0, nilS]]⟩).set φ4 ⟨0, 2, [[iv 0, .own φ st 0 (tgR b.ops i).length]]⟩) φ = some ⟨st, 1, ivs (tgR b.ops i)⟩ := by
          rw [AH.set_ne' hn4, AH.set_ne' hn2, AH.set_same]
        refine push_own hFl (by simp) (by omega) fun ψ st' hψ => ?_
        rw [AH.set_none, AH.set_none, AH.set_none] at hψ
        have hF4' : (((((σ.set φ ⟨st, 1, ivs (tgR b.ops i)⟩).set φ2 ⟨0, 2, [[iv 0, nilS]]⟩).set φ4 ⟨0, 2, [[iv 0, .own φ st 0 (tgR b.ops i).length]]⟩).set ψ ⟨0, 1, [[iv (i : Int)]]⟩).set φ ⟨st', 1, ivs (tgR b.ops i) ++ [[iv (i : Int)]]⟩) φ4 = some ⟨0, 2, [[iv 0, .own φ st 0 (tgR b.ops i).length]]⟩ := by
          rw [AH.set_ne' (Ne.symm hn4), AH.set_ne' (Ne.symm hψ.1), AH.set_same]
        try simp only [RR]
        refine sto_fld hF4' rfl (by decide) rfl rfl ?_
        try simp only [a1, RR]
        have ei : ivs (tgR b.ops i ++ [(i : Int)]) = ivs (tgR b.ops i) ++ [[iv (i : Int)]] := by simp [ivs]
        refine hR' _ _ (k - 1) (((σ.set φ ⟨st', 1, ivs (tgR b.ops (i + 1))⟩).set φ2 ⟨0, 2, [[iv 0, nilS]]⟩).set φ4 ⟨0, 2, [[iv 0, .own φ st' 0 ((tgR b.ops i).length + 1)]]⟩) (by omega) ?_ ⟨i + 1, .own φ st' 0 ((tgR b.ops i).length + 1), _, by omega, rfl, rfl, .inr ⟨φ, st', hφ, hn2, hn4, by rw [hsucc']; simp, rfl⟩⟩
        refine AH.Sub.set_both ?_ _ _
        rw [hsucc', ei]
        intro ζ F hζ
        by_cases z2 : ζ = φ2
        · subst z2
          rw [AH.set_same] at hζ
          rw [AH.set_ne' (Ne.symm hn2), AH.set_ne' (Ne.symm hψ.2.1), AH.set_ne' hne, AH.set_same]; exact hζ
        rw [AH.set_ne' z2] at hζ
        by_cases z1 : ζ = φ
        · subst z1
          rw [AH.set_same] at hζ
          rw [AH.set_same]; exact hζ
        rw [AH.set_ne' z1] at hζ
        have z3 : ¬ ζ = ψ := by rintro rfl; rw [hψ.2.2.2] at hζ; cases hζ
        have z4 : ¬ ζ = φ4 := by rintro rfl; rw [h4.2] at hζ; cases hζ
        rw [AH.set_ne' z1, AH.set_ne' z3, AH.set_ne' z4, AH.set_ne' z2, AH.set_ne' z1]; exact hζ
  · have g : ¬ (i : Int) < 1000 := by omega
    obtain rfl : i = 1000 := by omega
    rw [tgR_all hsm] at hL
    have e4 : lodA 2 (.ptr φ4 0 0 0) ((τ1.set φ2 ⟨0, 2, [[iv 0, nilS]]⟩).set φ4 ⟨0, 2, [[iv 0, l]]⟩) = some (.agg [iv 0, l]) := lodA_at hF4 rfl rfl rfl
    have hl1 : l.one = true := by
      rcases hL with ⟨rfl, _⟩ | ⟨φ, st, _, _, _, rfl, _⟩ <;> rfl
    simp only [g, e4, RR]
    have hF2 : ((τ1.set φ2 ⟨0, 2, [[iv 0, nilS]]⟩).set φ4 ⟨0, 2, [[iv 0, l]]⟩) φ2 = some ⟨0, 2, [[iv 0, nilS]]⟩ := by rw [AH.set_ne' hne, AH.set_same]
    refine sto_own (es := [[iv 0, nilS]]) (cs := [iv 0, l]) hF2 (by simp) rfl rfl rfl (one2 rfl hl1) ?_
    have e5 := lodA_at (σ := (((τ1.set φ2 ⟨0, 2, [[iv 0, nilS]]⟩).set φ4 ⟨0, 2, [[iv 0, l]]⟩).set φ2 ⟨0, 2, [[iv 0, nilS]].set 0 [iv 0, l]⟩)) (φ := φ2) (st := 0) (i := 0) (n := 2) (cs := [iv 0, l]) (AH.set_same ..) rfl rfl rfl
    simp only [e5, RR]
    have hsub : AH.Sub σ (((τ1.set φ2 ⟨0, 2, [[iv 0, nilS]]⟩).set φ4 ⟨0, 2, [[iv 0, l]]⟩).set φ2 ⟨0, 2, [[iv 0, nilS]].set 0 [iv 0, l]⟩) := by
      have h1 : AH.Sub σ τ1 := by
        rcases hL with ⟨_, _, rfl⟩ | ⟨φ, st, hφ, _, _, _, rfl⟩
        · exact .refl _
        · exact .set (.refl σ) _ hφ
      exact .set (.set (.set h1 _ h2) _ h4.2) _ h2
    rcases hL with ⟨rfl, he, rfl⟩ | ⟨φ, st, hφ, hn2, hn4, rfl, rfl⟩
    · rw [he] at h
      exact aret_freeze hsub (.same _) (h nilS (fun τ => .nil τ) rfl)
    · refine aret_freeze hsub (Fz.agg2 (.same _) (.own (F := ⟨st, 1, ivs (tgtL b.ops)⟩) ?_ hφ rfl (by simp) (by simp) (fun j hj => ?_) fun j m _ _ => by rw [Nat.zero_add]; exact .same _)) (h (.ro (ivs (tgtL b.ops))) (fun τ => .ro τ _) rfl)
      · rw [AH.set_ne' hn2, AH.set_ne' hn4, AH.set_ne' hn2, AH.set_same]
      · simp [hj]
theorem c_impl_TargetsIn_own {b : Blk} (h1 : ∀ l, (l = nilS ∨ l = .emp) → tgV b = [] → R (.ret (.agg [iv (blkF b), l])) σ) (h2 : ∀ φ st fs, σ φ = none → R (.ret (.agg [iv (blkF b), .own φ st 0 (tgV b).length])) (σ.set φ ⟨st, 1, ivs (tgV b ++ fs)⟩)) : acall TP fn_impl_TargetsIn [.agg (encBlk b)] σ R := by
  refine s_impl_TargetsIn_ok ?_
  unfold s_impl_TargetsIn
  refine box_new rfl fun φ hφ => ?_
  unfold tgV at h1 h2
  simp only [lodA_all (len_encBlk b), RR]
  refine c_impl_blockFault ?_
  by_cases c : blkF b = 0
  case neg =>
    rw [if_neg c] at h1
    simp only [c, bldI, RR]
    exact fin_cell hφ rfl rfl (one2 rfl rfl) (h1 _ (.inl rfl) rfl)
  rw [if_pos c, c] at h1
  rw [if_pos c, c] at h2
  obtain ⟨hsm, hl⟩ := blkF_sm c
  simp only [c, lodA_all (len_encBlk b), RR]
  refine c_impl_targets_own hsm hl (fun h0 => ?_) (fun φ2 st fs h22 => ?_)
  · have b1 : bld [iv 0, nilS] [(0, 1), (1, 1)] [(1, .emp)] = some (.agg [iv 0, .emp]) := rfl
    simp only [b1, RR]
    exact fin_cell hφ rfl rfl (one2 rfl rfl) (h1 _ (.inr rfl) h0)
  · rw [AH.set_none] at h22
    have b1 : bld [iv 0, nilS] [(0, 1), (1, 1)] [(1, .own φ2 st 0 (tgtL b.ops).length)] = some (.agg [iv 0, .own φ2 st 0 (tgtL b.ops).length]) := rfl
    simp only [b1, RR]
    rw [AH.set_comm _ _ _ (Ne.symm h22.1)]
    exact fin_cell (AH.set_none.2 ⟨Ne.symm h22.1, hφ⟩) rfl rfl (one2 rfl rfl) (h2 φ2 st fs h22.2)
theorem c_impl_TargetsIn {b : Blk} (h : ∀ l, (∀ τ, Rd τ l (tgV b)) → l.one = true → R (.ret (.agg [iv (blkF b), l])) σ) : acall TP fn_impl_TargetsIn [.agg (encBlk b)] σ R := by
  refine acall_imp (c_impl_TargetsIn_own (σ := σ) (R := fun e σ' => (∃ l, (l = nilS ∨ l = .emp) ∧ e = .ret (.agg [iv (blkF b), l]) ∧ σ' = σ ∧ tgV b = []) ∨ ∃ φ st fs, σ φ = none ∧ e = .ret (.agg [iv (blkF b), .own φ st 0 (tgV b).length]) ∧ σ' = σ.set φ ⟨st, 1, ivs (tgV b ++ fs)⟩) (fun l hl h0 => .inl ⟨l, hl, rfl, rfl, h0⟩) (fun φ st fs hφ => .inr ⟨φ, st, fs, hφ, rfl, rfl⟩)) ?_
  rintro e σ' (⟨l, hl, rfl, rfl, h0⟩ | ⟨φ, st, fs, hφ, rfl, rfl⟩)
  · refine ⟨_, rfl, _, σ', imp_freeze (.refl σ') (.same _), h l (fun τ => ?_) (by rcases hl with rfl | rfl <;> rfl)⟩
    rw [h0]
    rcases hl with rfl | rfl
    · exact .nil τ
    · exact ⟨rfl, fun j h => by cases h⟩
  · exact ⟨_, rfl, _, σ, imp_freeze (.set (.refl σ) _ hφ) (Fz.agg2 (.same _) (fz_ints (xs := tgV b) hφ rfl fun i hi => by rw [List.getElem?_map, List.getElem?_append_left hi, List.getElem?_eq_getElem hi]; rfl)), h _ (fun τ => .ro τ _) rfl⟩
end Go.Proofs.YtinhodpfgjddmaaGreatDoor.E
