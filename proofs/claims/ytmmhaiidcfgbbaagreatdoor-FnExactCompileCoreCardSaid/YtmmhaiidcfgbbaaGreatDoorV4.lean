/- Cores that are made to code: the steps of the program's way and of the reference's. -/
import Derived.Test.YtmmhaiidcfgbbaaGreatDoorV3
set_option linter.unusedSectionVars false
set_option linter.unusedSimpArgs false
set_option linter.unusedVariables false
namespace Go.Proofs.YtmmhaiidcfgbbaaGreatDoor.E
open Go Go.RowKit
set_option maxRecDepth 100000
theorem fits_put {B : St} {i : Nat} {o : OpD} (h : fits B) (hi : i < B.length) : fits (putS B i o) ↔ lenS' B i < 200 := by
  constructor
  · intro k
    have := k.2 i (by rw [len_put]; exact hi)
    rw [lenS_put, if_pos ⟨rfl, hi⟩] at this
    omega
  · intro k
    refine ⟨by rw [len_put]; exact h.1, fun j hj => ?_⟩
    rw [len_put] at hj
    rw [lenS_put]
    split
    · rename_i c; obtain ⟨rfl, _⟩ := c; omega
    · exact h.2 j hj
theorem fits_set {B : St} {i k : Nat} {a : Int} : fits (setS B i k a) ↔ fits B := by
  unfold fits
  rw [len_set]
  simp only [lenS_set]
theorem fits_push {B : St} {a : Int} (h : fits B) : fits (B ++ [(a, [])]) ↔ B.length < 60 := by
  constructor
  · intro k
    have := k.1
    simp at this; omega
  · intro k
    refine ⟨by simp; omega, fun j hj => ?_⟩
    unfold lenS'
    by_cases c : j < B.length
    · simp only [List.getD, List.getElem?_append_left c]; exact h.2 j c
    · obtain rfl : j = B.length := by simp at hj; omega
      simp [List.getD]
variable [L : Lam]
variable {σ τ τ' : AH} {R : AEnd → AH → Prop}
/-- The program's own panic. -/
abbrev flt (c : Int) : AV := .ifc ty_RiE (.agg [iv c])
/-- An operation whose data are given out of hand. -/
theorem frz_op {f : FuncId} {o : OpD} {a b c : AV} {σ0 : AH} {K : AEnd → AH → Prop} (hs : AH.Sub σ0 τ) (hf : Fz σ0 τ c (roD o.data)) (h : acall TP f [a, b, .agg (encOp o)] σ0 K) : acall TP f [a, b, .agg (encOpA o c)] τ K := by
  refine acall_frz (args' := [a, b, .agg (encOp o)]) hs rfl (fun i hi => ?_) h
  match i, hi with
  | 0, _ => exact .same _
  | 1, _ => exact .same _
  | 2, _ =>
    refine .agg rfl fun j hj => ?_
    match j, hj with
    | 0, _ => exact .same _
    | 1, _ => exact .same _
    | 2, _ => exact .same _
    | 3, _ => exact .same _
    | 4, _ => exact .same _
    | 5, _ => exact .same _
    | 6, _ => exact hf
/-- An operation without data: nil stands for none. -/
theorem nil_op {f : FuncId} (o : OpD) {a b : AV} {row : List AV} {K : AEnd → AH → Prop} (hr : row = encOpA o nilS) (hd : o.data = []) (h : acall TP f [a, b, .agg (encOp o)] τ K) : acall TP f [a, b, .agg row] τ K := by
  subst hr
  refine frz_op (.refl τ) ?_ h
  rw [hd]; exact .nil
theorem c_impl_failIf {b : Bool} {c : Int} (h1 : b = false → R (.ret (.tup [])) σ) (h2 : b = true → R (.pan (flt c)) σ) : acall TP fn_impl_failIf [bv b, iv c] σ R := by
  refine s_impl_failIf_ok ?_
  unfold s_impl_failIf
  cases b with
  | false => simp only [RR]; exact ret_here (h1 rfl)
  | true =>
    simp only [RR]
    have e : bld [(.val (.int .i64 0))] [(0, 1)] [(0, iv c)] = some (.agg [iv c]) := rfl
    have e2 : aifc TT ty_RiE (.agg [iv c]) = some (flt c) := rfl
    simp only [e, e2, RR]
    exact apan_sub (.refl σ) (h2 rfl)
section
variable {pre : List AV} {φm : Nat} {B : St}
theorem lit1 {sz : Nat} {z row : List AV} {x : AV} (he : afillS sz [z] [(0, x)] = some [row]) (hr : row.length = sz) (hs : sz ≤ 1000) : bslR sz z 1 [(0, x)] = some (.ro [row]) := by
  unfold bslR
  have e : List.replicate 1 z = [z] := rfl
  rw [e, he]
  dsimp only
  rw [if_pos ⟨by omega, by intro c hc; obtain rfl := List.mem_singleton.1 hc; exact hr⟩, if_neg (by decide)]
abbrev PanTo (pre : List AV) (σ : AH) (φm : Nat) (R : AEnd → AH → Prop) : Prop := ∀ τ' B', CSt pre σ τ' φm B' → R (.pan (flt 2)) τ'
theorem c_impl_emit {x y : AV} (hp : pre = [x, y]) {i : Nat} {o : OpD} (h : CSt pre σ τ φm B) (hi : i < B.length) (hl : lenS' B i ≤ 200) (h1 : lenS' B i < 200 → ∀ τ', CSt pre σ τ' φm (putS B i o) → R (.ret (iv (lenS' B i : Int))) τ') (h2 : ¬ lenS' B i < 200 → PanTo pre σ φm R) :
    acall TP fn_impl_compiler_emit [.ptr φm 0 0 0, iv (i : Int), .agg (encOp o)] τ R := by
  obtain ⟨v, φ, st, w, e1, e2, e3, e4, e5, _⟩ := h.open hi
  rw [show pre.length = 2 by rw [hp]; rfl] at e1 e5
  refine s_impl_compiler_emit_ok ?_
  unfold s_impl_compiler_emit
  refine box_encOp ?_
  simp only [e1, e2, e3, e4, RR]
  have hb : decide ((lenS' B i : Int) = 200) = decide (¬ lenS' B i < 200) := by congr 1; apply propext; omega
  rw [hb]
  by_cases c : lenS' B i < 200
  · refine c_impl_failIf (fun _ => ?_) (fun hh => absurd c (by simpa using hh))
    simp only [e3, lodA_all (len_encOp o), RR, anil]
    rw [lit1 (sz := 7) (row := encOp o) rfl rfl (by omega)]
    simp only [RR]
    refine e5 o _ (by omega) fun w' τ1 g1 g2 g3 => ?_
    simp only [RR, true_and]
    refine g3 _ fun τ2 k1 k2 k3 k4 k5 => ?_
    have es : ibin .sub (iv ((lenS' B i + 1 : Nat) : Int)) (.val (.int .i64 1)) = some (iv (lenS' B i : Int)) := by
      rw [ibin_sub (by omega) (by omega)]
      congr 3; omega
    simp only [RR, true_and, k4, k5, es]
    exact ret_here (h1 c τ2 k1)
  · refine c_impl_failIf (fun hh => absurd c (by simpa using hh)) (fun _ => ?_)
    exact apan_sub (.refl _) (h2 c _ _ h)
theorem c_impl_here {x y : AV} (hp : pre = [x, y]) {i : Nat} (h : CSt pre σ τ φm B) (hi : i < B.length) (h1 : R (.ret (iv (lenS' B i : Int))) τ) : acall TP fn_impl_compiler_here [.ptr φm 0 0 0, iv (i : Int)] τ R := by
  obtain ⟨v, φ, st, w, e1, e2, e3, e4, _⟩ := h.open hi
  rw [show pre.length = 2 by rw [hp]; rfl] at e1
  refine s_impl_compiler_here_ok ?_
  unfold s_impl_compiler_here
  simp only [e1, e2, e3, e4, RR]
  exact ret_here h1
theorem c_impl_block {x y : AV} (hp : pre = [x, y]) {a : Int} (h : CSt pre σ τ φm B) (hl : B.length ≤ 60) (h1 : B.length < 60 → ∀ τ', CSt pre σ τ' φm (B ++ [(a, [])]) → R (.ret (iv (B.length : Int))) τ') (h2 : ¬ B.length < 60 → PanTo pre σ φm R) :
    acall TP fn_impl_compiler_block [.ptr φm 0 0 0, iv a] τ R := by
  obtain ⟨v, e1, e2⟩ := h.len
  have e1' := e1
  rw [show pre.length = 2 by rw [hp]; rfl] at e1
  refine s_impl_compiler_block_ok ?_
  unfold s_impl_compiler_block
  simp only [e1, e2, RR]
  have hb : decide ((B.length : Int) = 60) = decide (¬ B.length < 60) := by congr 1; apply propext; omega
  rw [hb]
  by_cases c : B.length < 60
  · refine c_impl_failIf (fun _ => ?_) (fun hh => absurd c (by simpa using hh))
    have eb : bld [(.val (.int .i64 0)), (.val (.slice none 0 0))] [(0, 1), (1, 1)] [(0, iv a)] = some (.agg [iv a, nilS]) := rfl
    simp only [e1, eb, RR]
    refine bsl1 (row := [iv a, nilS]) rfl (by omega) fun ψ hψ => ?_
    have hs : AH.Sub τ (τ.set ψ ⟨0, 2, [[iv a, nilS]]⟩) := .set (.refl τ) _ hψ
    refine (h.grow hs).push (v := v) (a := a) ?_ ael1 (by omega) fun v' τ1 k1 => ?_
    · obtain ⟨v0, bs, g1, _⟩ := h.ex
      have := lod_m g1
      rw [this] at e1'
      obtain rfl := Option.some.inj e1'
      exact lod_m (hs _ _ g1)
    rw [show pre.length = 2 by rw [hp]; rfl] at k1
    refine k1 _ fun τ2 g1 g2 g3 => ?_
    have es : ibin .sub (iv ((B.length + 1 : Nat) : Int)) (.val (.int .i64 1)) = some (iv (B.length : Int)) := by
      rw [ibin_sub (by omega) (by omega)]
      congr 3; omega
    simp only [RR, g2, g3, es]
    exact ret_here (h1 c τ2 g1)
  · refine c_impl_failIf (fun hh => absurd c (by simpa using hh)) (fun _ => ?_)
    exact apan_sub (.refl _) (h2 c _ _ h)
/-! ### the reference's -/
theorem c_spec_l9Put {x : AV} (hp : pre = [x]) {i : Nat} {o : OpD} (h : CSt pre σ τ φm B) (hi : i < B.length) (hl : lenS' B i ≤ 1000000) (h1 : ∀ τ', CSt pre σ τ' φm (putS B i o) → R (.ret (iv (lenS' B i : Int))) τ') :
    acall TP fn_spec_l9Put [.ptr φm 0 0 0, iv (i : Int), .agg (encOp o)] τ R := by
  obtain ⟨v, φ, st, w, e1, e2, e3, e4, e5, _⟩ := h.open hi
  rw [show pre.length = 1 by rw [hp]; rfl] at e1 e5
  refine s_spec_l9Put_ok ?_
  unfold s_spec_l9Put
  refine box_encOp ?_
  simp only [e1, e2, e3, lodA_all (len_encOp o), RR]
  rw [lit1 (sz := 7) (row := encOp o) rfl rfl (by omega)]
  simp only [RR]
  refine e5 o _ (by omega) fun w' τ1 g1 g2 g3 => ?_
  simp only [g1, g2, RR, true_and, and_true]
  refine g3 _ fun τ2 k1 k2 k3 k4 k5 => ?_
  have es : ibin .sub (iv ((lenS' B i + 1 : Nat) : Int)) (.val (.int .i64 1)) = some (iv (lenS' B i : Int)) := by
    rw [ibin_sub (by omega) (by omega)]
    congr 3; omega
  simp only [RR, true_and, k2, k3, k4, k5, es]
  exact ret_here (h1 τ2 k1)
theorem c_spec_l9End {x : AV} (hp : pre = [x]) {i : Nat} {e : Bool} (h : CSt pre σ τ φm B) (hi : i < B.length) (hl : lenS' B i ≤ 1000000) (h1 : ∀ τ', CSt pre σ τ' φm (endS B i e) → R (.ret (.tup [])) τ') :
    acall TP fn_spec_l9End [.ptr φm 0 0 0, iv (i : Int), bv e] τ R := by
  refine s_spec_l9End_ok ?_
  unfold s_spec_l9End
  cases e with
  | true =>
    have eb : bld [(.val (.int .i64 0)), (.val (.int .i64 0)), (.val (.int .i64 0)), (.val (.int .i64 0)), (.val (.int .i64 0)), (.val (.string ⟨#[]⟩)), (.val (.slice none 0 0))] [(0, 1), (1, 1), (2, 1), (3, 1), (4, 1), (5, 1), (6, 1)] [(0, (.val (.int .i64 12)))] = some (.agg [iv 12, iv 0, iv 0, iv 0, iv 0, str ⟨#[]⟩, nilS]) := rfl
    simp only [eb, RR]
    refine nil_op (oc0 12) rfl rfl ?_
    refine c_spec_l9Put hp h hi hl fun τ' g => ?_
    simp only [RR]
    exact ret_here (h1 τ' g)
  | false => simp only [RR]; exact ret_here (h1 τ h)
end
end Go.Proofs.YtmmhaiidcfgbbaaGreatDoor.E
