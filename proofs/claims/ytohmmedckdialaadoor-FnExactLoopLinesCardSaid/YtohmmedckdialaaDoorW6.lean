/- LoopLines: the program, the law. -/
import Derived.Test.YtohmmedckdialaaDoorW5
import Derived.Shelf.Vars
set_option linter.unusedSectionVars false
set_option linter.unusedSimpArgs false
set_option linter.unusedVariables false
namespace Go.Proofs.YtohmmedckdialaaDoor.E
open Go Go.RowKit
set_option maxRecDepth 100000
/-- What the first world is known to hold: a number in the library's variable. -/
def QM (w : World) : Prop := ∃ m : Int, w.cell? ⟨0, 0, none⟩ = some (.int .i64 m)
variable [L : Lam] [K : Knows QM]
theorem QM_at {κ : Kap} {σ : AH} {w : World} (hr : Rel κ σ w) : QM w := by
  obtain ⟨⟨m, h2⟩, hB⟩ := K.knows κ hr.kp
  exact ⟨m, cell_below h2 hr.bel hB⟩
variable {σ τ : AH} {R : AEnd → AH → Prop}
theorem c_strings_SplitM {s : ByteArray} {c : UInt8} (hs : s.size ≤ 1048576) (h : ∀ φ, σ φ = none → R (.ret (.own φ 0 0 (pcs ⟨#[c]⟩ s).length)) (σ.set φ ⟨0, 1, (pcs ⟨#[c]⟩ s).map fun x => [str x]⟩)) : acall TP fn_strings_Split [str s, str ⟨#[c]⟩] σ R := by
  refine acall_split (g := 0) (el := 9) (xs := pcs ⟨#[c]⟩) Tryd.func27 rfl (by decide) (fun κ σ w hr => QM_at hr) (fun s => by rw [pcs_length _ _ (by show 1 ≤ 1; omega)]; omega) (fun s m w h1 h2 => ?_) (by omega) h
  have := sh_strings_Split s ⟨#[c]⟩ m w h1 h2 (by show 1 ≤ 1; omega)
  rw [← pcs_length _ _ (by show 1 ≤ 1; omega)] at this
  exact this
theorem pcs_lpc (l : List UInt8) : pcs ⟨#[10]⟩ (bs l) = (lpc 10 l).map bs := by
  refine bytes_of_lists ?_
  rw [pcs_data, List.map_map]
  have hl : (bs l).data.toList = l := by simp
  rw [hl]
  have e : ((fun x : ByteArray => x.data.toList) ∘ bs) = id := by funext x; simp
  rw [e, List.map_id]
theorem lines_eq (l : List UInt8) : (pcs ⟨#[10]⟩ (bs l)).filter (fun x => !blankB x) = linesL l := by
  rw [pcs_lpc]
  unfold linesL
  rw [List.filter_map]
  congr 1
  refine List.filter_congr fun x _ => ?_
  show (!blankB (bs x)) = nbL x
  rw [blank_iff]
  rfl
theorem c_slices_DeleteFunc {φ st : Nat} {xs : List ByteArray} (hF : σ φ = some ⟨st, 1, txs xs⟩) (hx : ∀ x, x ∈ xs → x.size ≤ 1048576) (h0 : 1 ≤ xs.length) (hl : xs.length ≤ 4194304)
    (h : R (.ret (.own φ st 0 (xs.filter fun x => !blankB x).length)) (σ.set φ ⟨st, 1, txs ((xs.filter fun x => !blankB x) ++ List.replicate (xs.length - (xs.filter fun x => !blankB x).length) (⟨#[]⟩ : ByteArray))⟩)) :
    acall TP fn_slices_DeleteFunc [.own φ st 0 xs.length, .clo (.func fn_impl_LoopLines_1) [] []] σ R :=
  acall_delete (keep := fun x => !blankB x) Tryd.func26 rfl (by decide) (fun blk off cap zs w a b c d => w_delete blk off cap zs w a b c d) hF hx h0 hl h
theorem c_LoopLines_2 {x : ByteArray} (h : R (.ret (bv (decide (400 < x.size)))) σ) : acall TP fn_impl_LoopLines_2 [str x] σ R := by
  refine s_impl_LoopLines_2_ok ?_
  unfold s_impl_LoopLines_2
  have e : decide ((400 : Int) < (x.size : Int)) = decide (400 < x.size) := by congr 1; exact propext (by omega)
  simp only [RR, e]
  exact ret_here h
theorem c_slices_IndexFunc {a : AV} {xs : List ByteArray} (ha : RdS σ a xs) (hl : xs.length ≤ 4194304) (h : ∀ k : Int, decide (0 ≤ k) = xs.any (fun x => decide (400 < x.size)) → R (.ret (iv k)) σ) :
    acall TP fn_slices_IndexFunc [a, .clo (.func fn_impl_LoopLines_2) [] []] σ R := by
  refine s_slices_IndexFunc_ok ?_
  unfold s_slices_IndexFunc
  simp only [ha.len, RR]
  refine lp_same xs.length (fun i => (a, .clo (.func fn_impl_LoopLines_2) [] [], iv (xs.length : Int), iv (i : Int), ())) (fun i => ∀ x, x ∈ xs.take i → ¬ 400 < x.size) rfl (by simp) ?_
  intro i hi hH R' hR'
  by_cases hlt : i < xs.length
  · have g : (i : Int) < (xs.length : Int) := by omega
    obtain ⟨p, p1, p2⟩ := ha.at_ i hlt
    simp only [g, p1, p2, RR]
    refine acallv_clo ?_
    refine c_LoopLines_2 ?_
    by_cases c2 : 400 < (xs[i]).size
    · simp only [decide_eq_true c2, RR]
      refine ret_here (h _ ?_)
      rw [decide_eq_true (by omega : (0 : Int) ≤ (i : Int))]
      exact (List.any_eq_true.2 ⟨_, List.getElem_mem hlt, decide_eq_true c2⟩).symm
    · simp only [decide_eq_false c2, ibin_up hlt (by omega), RR]
      refine hR' hlt (fun x hx => ?_) _ (.refl _)
      rw [List.take_succ_eq_append_getElem hlt] at hx
      rcases List.mem_append.1 hx with hx | hx
      · exact hH x hx
      · rw [List.mem_singleton.1 hx]; exact c2
  · obtain rfl : i = xs.length := by omega
    have g : ¬ (xs.length : Int) < (xs.length : Int) := by omega
    rw [List.take_length] at hH
    simp only [g, RR]
    refine ret_here (h _ ?_)
    symm
    rw [decide_eq_false (by omega : ¬ (0 : Int) ≤ -1), Bool.eq_false_iff]
    intro hc
    obtain ⟨x, hx, hd⟩ := List.any_eq_true.1 hc
    exact hH x hx (of_decide_eq_true hd)
theorem c_slices_ContainsFunc {a : AV} {xs : List ByteArray} (ha : RdS σ a xs) (hl : xs.length ≤ 4194304) (h : R (.ret (bv (xs.any fun x => decide (400 < x.size)))) σ) :
    acall TP fn_slices_ContainsFunc [a, .clo (.func fn_impl_LoopLines_2) [] []] σ R := by
  refine s_slices_ContainsFunc_ok ?_
  unfold s_slices_ContainsFunc
  refine c_slices_IndexFunc ha hl fun k hk => ?_
  simp only [RR, hk]
  exact ret_here h
theorem c_impl_LoopLines_own {l : List UInt8} (hl : l.length ≤ 1048576) (h : ∀ a τ', GLS τ' a (loopR l).2 → (τ' = σ ∨ ∃ φ out, σ φ = none ∧ a = .own φ 0 0 (loopR l).2.length ∧ τ' = σ.set φ ⟨0, 1, txs out⟩ ∧ ∀ (j : Nat) (h : j < (loopR l).2.length), out[j]? = some (loopR l).2[j]) →
    (τ' = σ → a = nilT) → R (.ret (.agg [iv (loopR l).1, a])) τ') : acall TP fn_impl_LoopLines [str (bs l)] σ R := by
  refine s_impl_LoopLines_ok ?_
  unfold s_impl_LoopLines
  intro φ2 h2
  have bnil : ∀ k : Int, bld [iv 0, nilT] [(0, 1), (1, 1)] [(0, iv k)] = some (.agg [iv k, nilT]) := fun _ => rfl
  have bown : ∀ φ n, bld [iv 0, nilT] [(0, 1), (1, 1)] [(1, .own φ 0 0 n)] = some (.agg [iv 0, .own φ 0 0 n]) := fun _ _ => rfl
  unfold loopR at h
  have hll := lines_len l
  by_cases c0 : (2000 : Int) < (l.length : Int)
  · rw [if_pos (show 2000 < l.length by omega)] at h
    simp only [size_bs, c0, bnil, RR]
    exact fin_cell h2 rfl rfl (one2 rfl rfl) (h nilT σ (.inl ⟨.inl rfl, rfl⟩) (.inl rfl) fun _ => rfl)
  rw [if_neg (show ¬ 2000 < l.length by omega)] at h
  simp only [size_bs, c0, RR]
  have bad : badL (linesL l) = true → ∀ φ F, (σ.set φ2 ⟨0, 2, [[iv 0, nilT]]⟩) φ = none → sto 2 (.ptr φ2 0 0 0) (.agg [iv 2, nilT]) ((σ.set φ2 ⟨0, 2, [[iv 0, nilT]]⟩).set φ F) fun σ => og (lodA 2 (.ptr φ2 0 0 0) σ) fun r2 => aret r2 σ R := by
    intro hb φ F hφ
    rw [hb, if_pos rfl] at h
    obtain ⟨n1, n2⟩ := AH.set_none.1 hφ
    rw [AH.set_comm _ _ _ n1.symm]
    refine sto_own (es := [[iv 0, nilT]]) (cs := [iv 2, nilT]) (AH.set_same ..) (by simp) rfl rfl rfl (one2 rfl rfl) ?_
    simp only [List.set_cons_zero, AH.set_set]
    have e := lodA_at (σ := ((σ.set φ F).set φ2 ⟨0, 2, [[iv 2, nilT]]⟩)) (φ := φ2) (st := 0) (i := 0) (n := 2) (cs := [iv 2, nilT]) (AH.set_same ..) rfl rfl rfl
    simp only [e, RR]
    exact aret_sub (.set (.set (.refl σ) _ n2) _ h2) (h nilT σ (.inl ⟨.inl rfl, rfl⟩) (.inl rfl) fun _ => rfl)
  refine c_strings_SplitM (c := 10) (by rw [size_bs]; exact hl) fun φ hφ => ?_
  obtain ⟨n1, n2⟩ := AH.set_none.1 hφ
  simp only [RR]
  have hpl : 1 ≤ (pcs ⟨#[10]⟩ (bs l)).length ∧ (pcs ⟨#[10]⟩ (bs l)).length ≤ 4194304 := by
    have h1 := pcs_length ⟨#[10]⟩ (bs l) (by show 1 ≤ 1; omega)
    have h2 := Lib.countB_le ⟨#[10]⟩ (by show 1 ≤ 1; omega) _ (bs l) (Nat.le_refl _)
    rw [size_bs] at h2
    omega
  refine c_slices_DeleteFunc (AH.set_same ..) (fun x hx => Nat.le_trans (pcs_le hx) (by rw [size_bs]; exact hl)) hpl.1 hpl.2 ?_
  rw [lines_eq, AH.set_set]
  generalize hout : linesL l ++ List.replicate ((pcs ⟨#[10]⟩ (bs l)).length - (linesL l).length) (⟨#[]⟩ : ByteArray) = out
  have hoj : ∀ (j : Nat) (h : j < (linesL l).length), out[j]? = some (linesL l)[j] := fun j hj => by rw [← hout, List.getElem?_append_left hj, List.getElem?_eq_getElem hj]
  have hG : GLS ((σ.set φ2 ⟨0, 2, [[iv 0, nilT]]⟩).set φ ⟨0, 1, txs out⟩) (.own φ 0 0 (linesL l).length) (linesL l) := .inr ⟨φ, 0, out, rfl, AH.set_same .., hoj⟩
  simp only [lenS_own, jn, RR]
  unfold badL at h bad
  by_cases c1 : (12 : Int) < ((linesL l).length : Int)
  · simp only [c1, bnil, RR]
    exact bad (by rw [decide_eq_true (show 12 < (linesL l).length by omega)]; rfl) φ _ hφ
  rw [decide_eq_false (show ¬ 12 < (linesL l).length by omega), Bool.false_or] at h bad
  simp only [c1, RR]
  refine c_slices_ContainsFunc hG.rd (by omega) ?_
  cases cb : (linesL l).any fun x => decide (400 < x.size) with
  | true =>
    rw [cb] at bad
    simp only [bnil, RR]
    exact bad rfl φ _ hφ
  | false =>
    rw [cb] at h
    simp only [bown, RR]
    rw [AH.set_comm _ _ _ n1.symm]
    refine sto_own (es := [[iv 0, nilT]]) (cs := [iv 0, .own φ 0 0 (linesL l).length]) (AH.set_same ..) (by simp) rfl rfl rfl (one2 rfl rfl) ?_
    simp only [List.set_cons_zero, AH.set_set]
    have e := lodA_at (σ := ((σ.set φ ⟨0, 1, txs out⟩).set φ2 ⟨0, 2, [[iv 0, .own φ 0 0 (linesL l).length]]⟩)) (φ := φ2) (st := 0) (i := 0) (n := 2) (cs := [iv 0, .own φ 0 0 (linesL l).length]) (AH.set_same ..) rfl rfl rfl
    simp only [e, RR]
    refine aret_sub (.set (.refl _) _ (AH.set_none.2 ⟨n1.symm, h2⟩)) (h (.own φ 0 0 (linesL l).length) (σ.set φ ⟨0, 1, txs out⟩) (.inr ⟨φ, 0, out, rfl, AH.set_same .., hoj⟩) (.inr ⟨φ, out, n2, rfl, rfl, hoj⟩) fun e => ?_)
    have := congrFun e φ
    rw [AH.set_same, n2] at this
    cases this
theorem c_impl_LoopLines {l : List UInt8} (hl : l.length ≤ 1048576) (h : ∀ a, (∀ τ, RdS τ a (loopR l).2) → a.one = true → R (.ret (.agg [iv (loopR l).1, a])) σ) : acall TP fn_impl_LoopLines [str (bs l)] σ R := by
  refine acall_imp (c_impl_LoopLines_own (σ := σ) (R := fun e σ' => (e = .ret (.agg [iv (loopR l).1, nilT]) ∧ σ' = σ ∧ (loopR l).2 = []) ∨ ∃ φ out, σ φ = none ∧ e = .ret (.agg [iv (loopR l).1, .own φ 0 0 (loopR l).2.length]) ∧ σ' = σ.set φ ⟨0, 1, txs out⟩ ∧
    ∀ (j : Nat) (h : j < (loopR l).2.length), out[j]? = some (loopR l).2[j]) hl fun a τ' h1 h2 h3 => ?_) ?_
  · rcases h2 with rfl | ⟨φ, out, hφ, rfl, rfl, ho⟩
    · have ea := h3 rfl
      subst ea
      refine .inl ⟨rfl, rfl, ?_⟩
      rcases h1 with ⟨_, e⟩ | ⟨φ, st, out, e, _, _⟩
      · exact e
      · cases e
    · exact .inr ⟨φ, out, hφ, rfl, rfl, ho⟩
  · rintro e σ' (⟨rfl, rfl, h0⟩ | ⟨φ, out, hφ, rfl, rfl, ho⟩)
    · refine ⟨_, rfl, _, σ', imp_freeze (.refl σ') (.same _), h nilT (fun τ => ?_) rfl⟩
      rw [h0]
      exact .nil τ
    · refine ⟨_, rfl, _, σ, imp_freeze (.set (.refl σ) _ hφ) (fz_agg2 (.same _) ?_), h (.ro (txs (loopR l).2)) (fun τ => .ro τ _) rfl⟩
      refine .own (AH.set_same ..) hφ rfl ?_ (by simp [txs]) (fun i hi => ?_) (fun i j hi hj => ?_)
      · rcases Nat.lt_or_ge out.length (loopR l).2.length with c | c
        · have := (List.getElem?_eq_some_iff.1 (ho out.length c)).1; omega
        · simpa [txs] using c
      · simp [txs, hi]
      · have hj : j < 1 := hj
        obtain rfl : j = 0 := by omega
        have e1 : ((txs out).getD (0 + i) []).getD 0 .any = str (loopR l).2[i] := by
          have := ho i hi
          simp [txs, List.getD, this]
        have e2 : ((txs (loopR l).2).getD i []).getD 0 .any = str (loopR l).2[i] := by simp [txs, hi]
        simp only
        rw [e1, e2]
        exact .same _
theorem loopR_len (l : List UInt8) (hl : l.length ≤ 1048576) : (loopR l).2.length ≤ 1048576 := by
  have := lines_len l
  unfold loopR
  split
  · simp
  · split
    · simp
    · simp only; omega
theorem c_laws_FnExactLoopLines {x : ByteArray} (h : ∀ σ, R (.ret (bv true)) σ) : acall TP fn_laws_FnExactLoopLines [str x] σ R := by
  obtain ⟨l, rfl⟩ : ∃ l, x = bs l := ⟨by8 x, (bs_by8 x).symm⟩
  have hret : ∀ σ, aret (bv true) σ R := fun σ => ret_here (h σ)
  refine s_laws_FnExactLoopLines_ok ?_
  unfold s_laws_FnExactLoopLines
  by_cases c : (1048576 : Int) < (l.length : Int)
  · simp only [size_bs, RR, c]
    exact hret _
  have hl : l.length ≤ 1048576 := by omega
  have hn := loopR_len l hl
  simp only [size_bs, RR, c]
  refine c_spec_LoopLines hl fun a0 ha0 ho0 => ?_
  simp only [RR]
  refine new_frz (xs := [iv (loopR l).1, a0]) rfl rfl rfl (one2 rfl ho0) ?_
  refine c_impl_LoopLines_own hl fun a T hG _ _ => ?_
  simp only [RR]
  refine new_frz (xs := [iv (loopR l).1, a]) rfl rfl rfl (one2 rfl hG.one) ?_
  simp only [lodA_all (cs := [_, _]) (n := 2) rfl, RR]
  refine c_laws_eqTextsResult hG.rd (ha0 T) hn ?_
  simp only [lodA_all (cs := [_, _]) (n := 2) rfl, RR]
  refine c_laws_markTextsResult hG hn fun T2 hG2 => ?_
  simp only [lodA_all (cs := [_, _]) (n := 2) rfl, RR]
  refine c_laws_heldTextsResult hG2.rd hn ?_
  have g : ¬ (((loopR l).2.length : Int) + 1) < 0 := by omega
  simp only [g, dec_self, RR]
  refine c_impl_LoopLines hl fun a1 ha1 ho1 => ?_
  simp only [RR]
  refine new_frz (xs := [iv (loopR l).1, a1]) rfl rfl rfl (one2 rfl ho1) ?_
  simp only [lodA_all (cs := [_, _]) (n := 2) rfl, RR]
  refine c_laws_eqTextsResult (ha1 T2) (ha0 T2) hn ?_
  simp only [lodA_all (cs := [_, _]) (n := 2) rfl, RR]
  refine c_laws_heldTextsResult hG2.rd hn ?_
  simp only [g, dec_self, RR]
  exact hret _
omit L K in
theorem QM_of {W : World} (hs : W.ShapedOpen Tryd.prog) : QM W :=
  cell_of_shapedOpen_int (P := Tryd.prog) (g := 0) (t := 3) (zero := #[.int .i64 0]) hs (of_decide_eq_true (by kernel_rfl)) (by kernel_rfl) rfl (by kernel_rfl) (by kernel_rfl) Tryd.underlying3
end Go.Proofs.YtohmmedckdialaaDoor.E
