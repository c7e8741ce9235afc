/- FnAparts: the law. -/
import Derived.Test.YtnmggfcjbpnekaaA3
set_option linter.unusedSectionVars false
set_option linter.unusedSimpArgs false
set_option linter.unusedVariables false
namespace Go.Proofs.Ytnmggfcjbpnekaa.E
open Go Go.RowKit
set_option maxRecDepth 100000
/-! ### up to where two lists are the same -/
def cp : List ByteArray → List ByteArray → Nat
  | x :: xs, y :: ys => if x = y then cp xs ys + 1 else 0
  | _, _ => 0
theorem cp_le : ∀ xs ys, cp xs ys ≤ xs.length ∧ cp xs ys ≤ ys.length := by
  intro xs
  induction xs with
  | nil => intro ys; simp [cp]
  | cons x xs ih =>
    intro ys
    cases ys with
    | nil => simp [cp]
    | cons y ys =>
      unfold cp
      split
      · have := ih ys
        simp only [List.length_cons]
        omega
      · simp
theorem cp_comm : ∀ xs ys, cp xs ys = cp ys xs := by
  intro xs
  induction xs with
  | nil => intro ys; cases ys <;> rfl
  | cons x xs ih =>
    intro ys
    cases ys with
    | nil => rfl
    | cons y ys =>
      unfold cp
      by_cases h : x = y
      · rw [if_pos h, if_pos h.symm, ih]
      · rw [if_neg h, if_neg (Ne.symm h)]
theorem cp_take : ∀ xs ys : List ByteArray, xs.take (cp xs ys) = ys.take (cp xs ys) := by
  intro xs
  induction xs with
  | nil => intro ys; simp [cp]
  | cons x xs ih =>
    intro ys
    cases ys with
    | nil => simp [cp]
    | cons y ys =>
      unfold cp
      split
      · rename_i h
        rw [List.take_succ_cons, List.take_succ_cons, h, ih]
      · simp
theorem cp_lt : ∀ xs ys (j : Nat), j < cp xs ys → ∃ (h1 : j < xs.length) (h2 : j < ys.length), xs[j] = ys[j] := by
  intro xs
  induction xs with
  | nil => intro ys j h; simp [cp] at h
  | cons x xs ih =>
    intro ys j h
    cases ys with
    | nil => simp [cp] at h
    | cons y ys =>
      unfold cp at h
      split at h
      · rename_i e
        cases j with
        | zero => exact ⟨by simp, by simp, e⟩
        | succ j =>
          obtain ⟨a, b, c⟩ := ih ys j (by omega)
          exact ⟨by simpa using a, by simpa using b, by simpa using c⟩
      · omega
theorem cp_at : ∀ xs ys, (cp xs ys = xs.length ∧ cp xs ys = ys.length ∧ xs = ys) ∨ (xs ≠ ys ∧ ((cp xs ys = xs.length ∧ cp xs ys < ys.length) ∨ (cp xs ys < xs.length ∧ cp xs ys = ys.length) ∨ ∃ (h1 : cp xs ys < xs.length) (h2 : cp xs ys < ys.length), xs[cp xs ys]'h1 ≠ ys[cp xs ys]'h2)) := by
  intro xs
  induction xs with
  | nil =>
    intro ys
    cases ys with
    | nil => exact .inl ⟨rfl, rfl, rfl⟩
    | cons y ys => exact .inr ⟨by simp, .inl ⟨rfl, by simp [cp]⟩⟩
  | cons x xs ih =>
    intro ys
    cases ys with
    | nil => exact .inr ⟨by simp, .inr (.inl ⟨by simp [cp], rfl⟩)⟩
    | cons y ys =>
      by_cases h : x = y
      · subst h
        have e : cp (x :: xs) (x :: ys) = cp xs ys + 1 := by rw [cp, if_pos rfl]
        rcases ih ys with ⟨a, b, c⟩ | ⟨a, b⟩
        · exact .inl ⟨by rw [e, a]; rfl, by rw [e, b]; rfl, by rw [c]⟩
        · refine .inr ⟨by simpa using a, ?_⟩
          rcases b with ⟨b1, b2⟩ | ⟨b1, b2⟩ | ⟨b1, b2, b3⟩
          · exact .inl ⟨by rw [e, b1]; rfl, by rw [e]; simpa using b2⟩
          · exact .inr (.inl ⟨by rw [e]; simpa using b1, by rw [e, b2]; rfl⟩)
          · refine .inr (.inr ⟨by rw [e]; simpa using b1, by rw [e]; simpa using b2, ?_⟩)
            simpa [e] using b3
      · have e : cp (x :: xs) (y :: ys) = 0 := by rw [cp, if_neg h]
        refine .inr ⟨fun hc => h (List.cons.inj hc).1, .inr (.inr ⟨by rw [e]; simp, by rw [e]; simp, ?_⟩)⟩
        simpa [e] using h
/-- What FirstApart tells. -/
def apR (xs ys : List ByteArray) : Int × Int := if 12 < xs.length ∨ 12 < ys.length then (2, 0) else if xs = ys then (4, 0) else (0, (cp xs ys : Nat))
section
variable [L : Lam]
variable {σ τ : AH} {R : AEnd → AH → Prop}
theorem ro_len (τ : AH) (xs : List ByteArray) : lenS (.ro (txs xs)) = some (iv (xs.length : Int)) := (RdS.ro τ xs).len
theorem ro_idx {xs : List ByteArray} {j : Nat} (h : j < xs.length) (τ : AH) : idx 1 (.ro (txs xs)) (iv (j : Int)) τ = some (.rop [str xs[j]] 0) ∧ lod (.rop [str xs[j]] 0) τ = some (str xs[j]) :=
  ⟨idx_ro (enc := fun x => [str x]) h fun _ => rfl, rfl⟩
theorem bldI (c v : Int) : bld [iv 0, iv 0] [(0, 1), (1, 1)] [(0, iv c)] = some (.agg [iv c, iv 0]) ∧ bld [iv 0, iv 0] [(0, 1), (1, 1)] [(1, iv v)] = some (.agg [iv 0, iv v]) := ⟨rfl, rfl⟩
theorem c_impl_FirstApart {xs ys : List ByteArray} (hx : xs.length ≤ 1000) (hy : ys.length ≤ 1000) (h : R (.ret (.agg [iv (apR xs ys).1, iv (apR xs ys).2])) σ) : acall TP fn_impl_FirstApart [.ro (txs xs), .ro (txs ys)] σ R := by
  refine s_impl_FirstApart_ok ?_
  unfold s_impl_FirstApart
  intro φ hφ
  have fin : ∀ a b : Int, R (.ret (.agg [iv a, iv b])) σ → sto 2 (.ptr φ 0 0 0) (.agg [iv a, iv b]) (σ.set φ ⟨0, 2, [[iv 0, iv 0]]⟩) fun σ => og (lodA 2 (.ptr φ 0 0 0) σ) fun r4 => aret r4 σ R :=
    fun a b hh => fin_cell hφ rfl rfl (one2 rfl rfl) hh
  unfold apR at h
  by_cases c1 : (12 : Int) < (xs.length : Int)
  · rw [if_pos (.inl (by omega))] at h
    simp only [ro_len σ, c1, bldI, RR]
    exact fin _ _ h
  by_cases c2 : (12 : Int) < (ys.length : Int)
  · rw [if_pos (.inr (by omega))] at h
    simp only [ro_len σ, c1, c2, bldI, RR]
    exact fin _ _ h
  rw [if_neg (by omega)] at h
  have em : amm true (iv (xs.length : Int)) (iv (ys.length : Int)) = some (iv ((max xs.length ys.length : Nat) : Int)) := by
    show some (iv (if (ys.length : Int) > (xs.length : Int) then (ys.length : Int) else (xs.length : Int))) = _
    congr 3
    split <;> omega
  simp only [ro_len σ, c1, c2, em, RR]
  have hle := cp_le xs ys
  have hlast : xs ≠ ys → cp xs ys < max xs.length ys.length := by
    intro hne
    rcases cp_at xs ys with ⟨_, _, e⟩ | ⟨_, b⟩
    · exact absurd e hne
    · rcases b with ⟨b1, b2⟩ | ⟨b1, b2⟩ | ⟨b1, b2, _⟩ <;> omega
  refine lp_same (cp xs ys) (fun i => (.ro (txs xs), .ro (txs ys), .ptr φ 0 0 0, iv ((max xs.length ys.length : Nat) : Int), iv (i : Int), ())) (fun _ => True) rfl trivial ?_
  intro i hi _ R' hR'
  by_cases ci : i < cp xs ys
  · obtain ⟨j1, j2, e⟩ := cp_lt xs ys i ci
    have g1 : (i : Int) < ((max xs.length ys.length : Nat) : Int) := by omega
    have g2 : ¬ (xs.length : Int) ≤ (i : Int) := by omega
    have g3 : ¬ (ys.length : Int) ≤ (i : Int) := by omega
    have e4 : sbin .neq (str xs[i]) (str ys[i]) = some (bv false) := by rw [sbin_neq]; simp [e]
    simp only [ro_len σ, g1, g2, g3, ro_idx j1, ro_idx j2, e4, ibin_up ci (by omega), RR]
    exact hR' ci trivial _ (.refl _)
  · obtain rfl : i = cp xs ys := by omega
    rcases cp_at xs ys with ⟨a, b, e⟩ | ⟨hne, b⟩
    · rw [if_pos e] at h
      have g1 : ¬ ((cp xs ys : Nat) : Int) < ((max xs.length ys.length : Nat) : Int) := by omega
      simp only [g1, bldI, RR]
      exact fin _ _ h
    · rw [if_neg hne] at h
      have g1 : ((cp xs ys : Nat) : Int) < ((max xs.length ys.length : Nat) : Int) := by have := hlast hne; omega
      rcases b with ⟨b1, b2⟩ | ⟨b1, b2⟩ | ⟨b1, b2, b3⟩
      · have g2 : (xs.length : Int) ≤ ((cp xs ys : Nat) : Int) := by omega
        simp only [ro_len σ, g1, g2, bldI, RR]
        exact fin _ _ h
      · have g2 : ¬ (xs.length : Int) ≤ ((cp xs ys : Nat) : Int) := by omega
        have g3 : (ys.length : Int) ≤ ((cp xs ys : Nat) : Int) := by omega
        simp only [ro_len σ, g1, g2, g3, bldI, RR]
        exact fin _ _ h
      · have g2 : ¬ (xs.length : Int) ≤ ((cp xs ys : Nat) : Int) := by omega
        have g3 : ¬ (ys.length : Int) ≤ ((cp xs ys : Nat) : Int) := by omega
        have e4 : sbin .neq (str (xs[cp xs ys]'b1)) (str (ys[cp xs ys]'b2)) = some (bv true) := by rw [sbin_neq]; simp [b3]
        simp only [ro_len σ, g1, g2, g3, ro_idx b1, ro_idx b2, e4, bldI, RR]
        exact fin _ _ h
theorem c_spec_FirstApart_many {xs ys : List ByteArray} (hm : 12 < xs.length ∨ 12 < ys.length) (h : R (.ret (.agg [iv 2, iv 0])) σ) : acall TP fn_spec_FirstApart [.ro (txs xs), .ro (txs ys)] σ R := by
  refine s_spec_FirstApart_ok ?_
  unfold s_spec_FirstApart
  intro φ hφ
  by_cases c1 : (12 : Int) < (xs.length : Int)
  · simp only [ro_len σ, c1, bldI, RR]
    exact fin_cell hφ rfl rfl (one2 rfl rfl) h
  · have c2 : (12 : Int) < (ys.length : Int) := by omega
    simp only [ro_len σ, c1, c2, bldI, RR]
    exact fin_cell hφ rfl rfl (one2 rfl rfl) h
theorem c_laws_lwTexts {xs ys : List ByteArray} (hx : xs.length ≤ 1000) (hy : ys.length ≤ 1000) (h : R (.ret (bv (decide (xs = ys)))) σ) : acall TP fn_laws_lwTexts [.ro (txs xs), .ro (txs ys)] σ R := by
  refine s_laws_lwTexts_ok ?_
  unfold s_laws_lwTexts
  by_cases c1 : (xs.length : Int) = (ys.length : Int)
  case neg =>
    rw [decide_eq_false (fun e => c1 (by rw [e]))] at h
    simp only [ro_len σ, c1, RR]
    exact ret_here h
  simp only [ro_len σ, c1, dec_self, RR]
  have hle := cp_le xs ys
  refine lp_same (cp xs ys) (fun i => (.ro (txs xs), .ro (txs ys), iv (i : Int), ())) (fun _ => True) rfl trivial ?_
  intro i hi _ R' hR'
  by_cases ci : i < cp xs ys
  · obtain ⟨j1, j2, e⟩ := cp_lt xs ys i ci
    have g1 : (i : Int) < (xs.length : Int) := by omega
    have e4 : sbin .neq (str xs[i]) (str ys[i]) = some (bv false) := by rw [sbin_neq]; simp [e]
    simp only [ro_len σ, g1, ro_idx j1, ro_idx j2, e4, ibin_up ci (by omega), RR]
    exact hR' ci trivial _ (.refl _)
  · obtain rfl : i = cp xs ys := by omega
    rcases cp_at xs ys with ⟨a, b, e⟩ | ⟨hne, b⟩
    · rw [decide_eq_true e] at h
      have g1 : ¬ ((cp xs ys : Nat) : Int) < (xs.length : Int) := by omega
      simp only [ro_len σ, g1, RR]
      exact ret_here h
    · rw [decide_eq_false hne] at h
      rcases b with ⟨b1, b2⟩ | ⟨b1, b2⟩ | ⟨b1, b2, b3⟩
      · omega
      · omega
      · have g1 : ((cp xs ys : Nat) : Int) < (xs.length : Int) := by omega
        have e4 : sbin .neq (str (xs[cp xs ys]'b1)) (str (ys[cp xs ys]'b2)) = some (bv true) := by rw [sbin_neq]; simp [b3]
        simp only [ro_len σ, g1, ro_idx b1, ro_idx b2, e4, RR]
        exact ret_here h
theorem c_spec_DrawFirstApart {ns : List Int} (hb : Bts ns) (h : ∀ xs ys : List ByteArray, xs.length ≤ 100 → ys.length ≤ 100 → R (.ret (.tup [.ro (txs xs), .ro (txs ys)])) σ) : acall TP fn_spec_DrawFirstApart [roB ns] σ R := by
  refine s_spec_DrawFirstApart_ok ?_
  unfold s_spec_DrawFirstApart
  refine c_spec_l1Source fun φ hφ => ?_
  simp only [RR]
  refine c_spec_l8DrawLines hb (by omega) fun xs u hxs u1 u2 => ?_
  simp only [RR]
  refine ⟨by decide, ?_⟩
  rw [if_pos rfl]
  refine app_lst (σ := σ) (ys := xs) (.emp σ σ φ) (.refl φ σ) (by simp; omega) rfl fun b τ hK hL => ?_
  rw [List.nil_append] at hL
  refine jn_by (P := fun x1 T => ∃ (b' : AV) (ys : List ByteArray) (v : Nat) (τ' : AH), x1 = (AV.ro (txs xs), b', ()) ∧ T = τ'.set φ (Sr ns v) ∧ Keep φ σ τ' ∧ Lst σ φ τ' b' ys ∧ ys.length ≤ 100) ?_ ?_
  · rintro x1 T ⟨b', ys, v, τ', rfl, rfl, hK', hL', hys⟩
    have hS : AH.Sub σ (τ'.set φ (Sr ns v)) := by
      intro ψ F hF
      have hne : ψ ≠ φ := by rintro rfl; rw [hφ] at hF; cases hF
      rw [AH.set_ne' hne]; exact hK' ψ F hne hF
    have hz : Fz σ (τ'.set φ (Sr ns v)) b' (.ro (txs ys)) := by
      rcases hL'.set (S := Sr ns v) |>.buf with ⟨e1, e⟩ | ⟨ψ, st, rfl, hF⟩
      · rw [e]
        rcases e1 with rfl | rfl
        · exact .nil
        · exact .emp
      · refine .own hF (hL'.new ψ ⟨_, _, _, rfl⟩) rfl (by simp) rfl (fun i hi => ?_) (fun i j hi hj => ?_)
        · have hi' : i < ys.length := by simpa [txs] using hi
          simp [txs, hi']
        · simp only [Nat.zero_add]
          exact .same _
    show aret (.tup [.ro (txs xs), b']) (τ'.set φ (Sr ns v)) R
    refine aret_freeze (a' := .tup [.ro (txs xs), .ro (txs ys)]) hS (.tup rfl fun i hi => ?_) (h xs ys (by omega) hys)
    match i, hi with
    | 0, _ => exact .same _
    | 1, _ => exact hz
  · intro k1 hk1
    refine nx hb (by omega) (by omega) (by omega) fun j j0 j1 => ?_
    simp only [RR]
    by_cases c0 : j = 0
    · simp only [c0, RR]
      refine snoc hL hK (by omega) fun b' τ' hK' hL' => ?_
      exact hk1 _ _ ⟨b', _, _, τ', rfl, rfl, hK', hL', by simp; omega⟩
    by_cases c1 : j = 1
    · subst c1
      have hlen : lenS b = some (iv (xs.length : Int)) := (buf_rd hL.buf).len
      by_cases c2 : (0 : Int) < (xs.length : Int)
      · simp only [hlen, c2, RR, show ¬ (1 : Int) = 0 by omega]
        refine nx hb (by omega) (by omega) (by omega) fun i i0 i1 => ?_
        have hj : i.toNat < xs.length := by omega
        rcases hL.buf with ⟨_, e⟩ | ⟨ψ, st, rfl, hF⟩
        · have : xs = [] := by simpa [txs] using e
          rw [this] at hj; cases hj
        · have hn : ψ ≠ φ := by rintro rfl; exact hL.far ⟨_, _, _, rfl⟩
          have hF' : (τ.set φ (Sr ns (u + 1 + 1))) ψ = some ⟨st, 1, txs xs⟩ := by rw [AH.set_ne' hn]; exact hF
          have hl : (txs xs).length = xs.length := by simp [txs]
          have p1 := idx_own (st := st) (off := 0) (n := (txs xs).length) hF' (by omega : i.toNat < (txs xs).length)
          rw [show ((i.toNat : Nat) : Int) = i by omega, Nat.zero_add] at p1
          simp only [p1, RR]
          refine sto_fld (sz := 1) (off := 0) (i := i.toNat) (cs := [str xs[i.toNat]]) (v := str ⟨#[121]⟩) hF' (by rw [List.getElem?_map, List.getElem?_eq_getElem hj]; rfl) (by omega) rfl rfl ?_
          have e5 : (txs xs).set i.toNat ([str xs[i.toNat]].set 0 (str ⟨#[121]⟩)) = txs (xs.set i.toNat ⟨#[121]⟩) := by simp only [List.set_cons_zero, txs, List.map_set]
          rw [e5, AH.set_comm _ _ _ hn.symm]
          refine hk1 _ _ ⟨_, xs.set i.toNat ⟨#[121]⟩, _, τ.set ψ ⟨st, 1, txs (xs.set i.toNat ⟨#[121]⟩)⟩, rfl, rfl, ?_, ⟨.inr ⟨ψ, st, by simp [txs], AH.set_same ..⟩, (by rintro ⟨_, _, _, e⟩; cases e; exact hn rfl), ?_⟩, by simp; omega⟩
          · intro χ G hχ hG
            have := hL.new ψ ⟨_, _, _, rfl⟩
            rw [AH.set_ne' (by rintro rfl; rw [this] at hG; cases hG)]
            exact hK χ G hχ hG
          · rintro χ ⟨_, _, _, e⟩
            cases e
            exact hL.new ψ ⟨_, _, _, rfl⟩
      · simp only [hlen, c2, RR, show ¬ (1 : Int) = 0 by omega]
        exact hk1 _ _ ⟨b, xs, _, τ, rfl, rfl, hK, hL, by omega⟩
    simp only [c0, c1, RR]
    exact hk1 _ _ ⟨b, xs, _, τ, rfl, rfl, hK, hL, by omega⟩
theorem ro_slc {xs : List ByteArray} {n : Nat} (h : n ≤ xs.length) (τ : AH) : slc 1 (.ro (txs xs)) none (some (iv (n : Int))) none τ = some (.ro (txs (xs.take n))) := by
  have e1 : ∀ d, abd none d = some d := fun _ => rfl
  have e2 : ∀ d, abd (some (AV.val (.int .i64 ((n : Nat) : Int)))) d = some n := by simp [abd]
  have hl : (txs xs).length = xs.length := by simp [txs]
  have ha : (txs xs).all (fun c => c.length == 1) = true := List.all_eq_true.2 fun c hc => by rw [txs_one xs c hc]; rfl
  simp only [slc, e1, e2]
  rw [if_pos ⟨Nat.zero_le _, by omega, Nat.le_refl _, by simp, ha⟩]
  simp [txs, List.map_take]
theorem c_laws_FnAparts {ns : List Int} (hb : ∀ x, x ∈ ns → 0 ≤ x ∧ x ≤ 255) (h : R (.ret (bv true)) σ) : acall TP fn_laws_FnAparts [roB ns] σ R := by
  refine s_laws_FnAparts_ok ?_
  unfold s_laws_FnAparts
  refine c_laws_lwBig ?_
  by_cases c : 1048576 < ns.length
  · simp only [decide_eq_true c, RR]
    exact ret_here h
  have hB : Bts ns := ⟨hb, by omega⟩
  simp only [decide_eq_false c, RR]
  refine c_spec_DrawFirstApart hB fun xs ys hx hy => ?_
  have ax : ∀ a b : AV, aext (.tup [a, b]) 0 = some a ∧ aext (.tup [a, b]) 1 = some b := fun _ _ => ⟨rfl, rfl⟩
  have fv : ∀ a b : AV, fldV 0 (.agg [a, b]) = some a ∧ fldV 1 (.agg [a, b]) = some b := fun _ _ => ⟨rfl, rfl⟩
  simp only [ax, RR]
  refine c_impl_FirstApart (by omega) (by omega) ?_
  simp only [RR]
  refine new_frz (xs := [iv (apR xs ys).1, iv (apR xs ys).2]) rfl rfl rfl (one2 rfl rfl) ?_
  have l0 : ∀ a b : Int, ∀ τ, lod (.rop [iv a, iv b] 0) τ = some (iv a) := fun _ _ _ => rfl
  have l1 : ∀ a b : Int, ∀ τ, lod (.rop [iv a, iv b] 1) τ = some (iv b) := fun _ _ _ => rfl
  by_cases cm : 12 < xs.length ∨ 12 < ys.length
  · have e : apR xs ys = (2, 0) := by unfold apR; rw [if_pos cm]
    rw [e]
    simp only [l0, RR]
    refine c_spec_FirstApart_many cm ?_
    simp only [l0, fv, RR, and_true, true_and]
    exact ret_here h
  have cm' : ¬ (12 < ys.length ∨ 12 < xs.length) := fun hc => cm hc.symm
  by_cases ce : xs = ys
  · have e : ∀ zs : List ByteArray, ¬ (12 < zs.length ∨ 12 < zs.length) → apR zs zs = (4, 0) := fun zs hz => by unfold apR; rw [if_neg hz, if_pos rfl]
    subst ce
    rw [e xs cm]
    simp only [l0, jn, RR, show ¬ (4 : Int) = 2 by omega]
    refine c_laws_lwTexts (by omega) (by omega) ?_
    simp only [decide_true, RR]
    refine c_impl_FirstApart (by omega) (by omega) ?_
    rw [e xs cm]
    simp only [fv, RR]
    exact ret_here h
  · have e1 : apR xs ys = ((0 : Int), ((cp xs ys : Nat) : Int)) := by unfold apR; rw [if_neg cm, if_neg ce]
    have e2 : apR ys xs = ((0 : Int), ((cp xs ys : Nat) : Int)) := by unfold apR; rw [if_neg cm', if_neg (Ne.symm ce), cp_comm]
    have hle := cp_le xs ys
    rw [e1]
    have g1 : ¬ ((cp xs ys : Nat) : Int) < 0 := by omega
    have g2 : ¬ (xs.length : Int) < ((cp xs ys : Nat) : Int) := by omega
    have g3 : ¬ (ys.length : Int) < ((cp xs ys : Nat) : Int) := by omega
    simp only [l0, l1, jn, RR, show ¬ (0 : Int) = 2 by omega, show ¬ (0 : Int) = 4 by omega, g1, g2, g3, ro_len σ, ro_slc hle.1, ro_slc hle.2]
    refine c_laws_lwTexts (by rw [List.length_take]; omega) (by rw [List.length_take]; omega) ?_
    rw [decide_eq_true (cp_take xs ys)]
    simp only [l0, RR, and_true, true_and]
    refine c_impl_FirstApart (by omega) (by omega) ?_
    rw [e2]
    simp only [fv, RR]
    refine c_laws_lwTexts (by omega) (by omega) ?_
    rw [decide_eq_false ce]
    simp only [RR]
    exact ret_here h
end
end Go.Proofs.Ytnmggfcjbpnekaa.E
