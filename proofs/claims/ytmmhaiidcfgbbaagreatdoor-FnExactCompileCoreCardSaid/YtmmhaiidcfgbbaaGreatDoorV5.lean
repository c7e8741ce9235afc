/- Cores that are made to code: the program's way. -/
import Derived.Test.YtmmhaiidcfgbbaaGreatDoorV4
set_option linter.unusedSectionVars false
set_option linter.unusedSimpArgs false
set_option linter.unusedVariables false
namespace Go.Proofs.YtmmhaiidcfgbbaaGreatDoor.E
open Go Go.RowKit
set_option maxRecDepth 100000
theorem getD_get {l : List Nat} {j : Nat} (h : j < l.length) : l.getD j 0 = l[j] := by simp [List.getD, h]
theorem many_app (g : Nat → St → St) (h : St → St) : ∀ (a b : List Nat) (B : St), manyS g h (a ++ b) B = manyS g h b (manyS g h a B) := by
  intro a
  induction a with
  | nil => intro b B; rfl
  | cons k a ih => intro b B; exact ih b _
theorem fits_end {B : St} {i : Nat} {e : Bool} (h : fits B) (hi : i < B.length) : fits (endS B i e) ↔ (e = true → lenS' B i < 200) := by
  cases e with
  | false => exact ⟨fun _ c => (by cases c), fun _ => h⟩
  | true => exact (fits_put h hi).trans ⟨fun k _ => k, fun k => k rfl⟩
variable [L : Lam]
variable {σ τ τ' : AH} {R : AEnd → AH → Prop}
abbrev roK (ks : List Nat) : AV := .ro (ks.map fun k : Nat => [iv (k : Int)])
def encK (ks : List Nat) : List AV := [roK ks]
theorem len_encK (ks : List Nat) : (encK ks).length = 1 := rfl
def allK (cs : List Cor) : List (List Nat) := (List.range cs.length).map (kidsC cs)
abbrev roKK (cs : List Cor) : AV := .ro ((allK cs).map encK)
theorem idx_K {ks : List Nat} {j : Nat} (hj : j < ks.length) : idx 1 (roK ks) (iv (j : Int)) σ = some (.rop [iv ((ks.getD j 0 : Nat) : Int)] 0) := by
  have := idx_ro (σ := σ) (enc := fun k : Nat => [iv (k : Int)]) (es := ks) hj (sz := 1) (fun _ => rfl)
  rw [this]; simp [List.getD, hj]
theorem lod_1 {x : AV} : lod (.rop [x] 0) σ = some x := rfl
theorem lenK {ks : List Nat} : lenS (roK ks) = some (iv (ks.length : Int)) := by simp [lenS]
theorem pan_onr {pre : List AV} {φm : Nat} {k : AV → AH → Prop} (h : PanTo pre σ φm R) : PanTo pre σ φm (onr k fun v σ => apan v σ R) := fun _ _ hS => apan_sub (.refl _) (h _ _ hS)
theorem corAt_eq {cs : List Cor} {x : Nat} (h : x < cs.length) : cs[x] = corAt cs x := by simp [corAt, List.getD, h]
section
variable {φm : Nat} {B : St} {cs : List Cor}
abbrev preI (cs : List Cor) : List AV := [roC cs, roKK cs]
/-- What the program's function comes to at a core. -/
def CoreC (cs : List Cor) (f : Nat) (σ : AH) (φm : Nat) : Prop := ∀ (x i : Nat) (e : Bool) (B : St) (τ : AH) (R : AEnd → AH → Prop), x < cs.length → cs.length ≤ f + x → i < B.length → CSt (preI cs) σ τ φm B → fits B →
  (fits (mkC cs f x i e B) → ∀ τ', CSt (preI cs) σ τ' φm (mkC cs f x i e B) → R (.ret (.tup [])) τ') → (¬ fits (mkC cs f x i e B) → PanTo (preI cs) σ φm R) → acall TP fn_impl_compiler_core [.ptr φm 0 0 0, iv (x : Int), iv (i : Int), bv e] τ R
theorem end_impl {i : Nat} {e : Bool} (h : CSt (preI cs) σ τ φm B) (hi : i < B.length) (hf : fits B) (h1 : fits (endS B i e) → ∀ τ', CSt (preI cs) σ τ' φm (endS B i e) → R (.ret (.tup [])) τ') (h2 : ¬ fits (endS B i e) → PanTo (preI cs) σ φm R) :
    apick (bv e) (og (bld [(.val (.int .i64 0)), (.val (.int .i64 0)), (.val (.int .i64 0)), (.val (.int .i64 0)), (.val (.int .i64 0)), (.val (.string ⟨#[]⟩)), (.val (.slice none 0 0))] [(0, 1), (1, 1), (2, 1), (3, 1), (4, 1), (5, 1), (6, 1)] [(0, (.val (.int .i64 12)))]) fun v157 =>
        acall TP fn_impl_compiler_emit [.ptr φm 0 0 0, iv (i : Int), v157] τ (onr (fun _ σ =>
        aret (.tup []) σ R) (fun v σ => apan v σ R))) (aret (.tup []) τ R) := by
  have hf' := fits_end (e := e) hf hi
  cases e with
  | true =>
    have eb : bld [(.val (.int .i64 0)), (.val (.int .i64 0)), (.val (.int .i64 0)), (.val (.int .i64 0)), (.val (.int .i64 0)), (.val (.string ⟨#[]⟩)), (.val (.slice none 0 0))] [(0, 1), (1, 1), (2, 1), (3, 1), (4, 1), (5, 1), (6, 1)] [(0, (.val (.int .i64 12)))] = some (.agg [iv 12, iv 0, iv 0, iv 0, iv 0, str ⟨#[]⟩, nilS]) := rfl
    simp only [eb, RR]
    refine nil_op (oc0 12) rfl rfl ?_
    refine c_impl_emit rfl h hi (hf.2 i hi) (fun c τ' g => ?_) fun c => pan_onr (h2 fun k => c (hf'.1 k rfl))
    simp only [RR]
    exact ret_here (h1 (hf'.2 fun _ => c) τ' g)
  | false => simp only [RR]; exact ret_here (h1 hf τ h)
/-- A place is told of where the next operation is. -/
theorem c_impl_choice {f : Nat} (hC : CoreC cs f σ φm) {k1 k2 k3 i : Nat} {e : Bool} (hx : ∀ k, k ∈ [k1, k2, k3] → k < cs.length ∧ cs.length ≤ f + k) (h : CSt (preI cs) σ τ φm B) (hi : i < B.length) (hf : fits B) {B1 B2 B3 B4 B5 D : St}
    (d1 : B1 = mkC cs f k1 i false B) (d2 : B2 = mkC cs f k2 i e (putS B1 i (oc0 6))) (d3 : B3 = if e then B2 else putS B2 i (oc0 5)) (d4 : B4 = setS B3 i (lenS' B1 i) (lenS' B3 i : Int)) (d5 : B5 = mkC cs f k3 i e B4) (hD : D = if e then B5 else setS B5 i (lenS' B2 i) (lenS' B5 i : Int))
    (h1 : fits D → ∀ τ', CSt (preI cs) σ τ' φm D → R (.ret (.tup [])) τ') (h2 : ¬ fits D → PanTo (preI cs) σ φm R) : acall TP fn_impl_compiler_choice [.ptr φm 0 0 0, roK [k1, k2, k3], iv (i : Int), bv e] τ R := by
  have l1 : leS B B1 := by rw [d1]; exact mkC_le ..
  have l2 : leS (putS B1 i (oc0 6)) B2 := by rw [d2]; exact mkC_le ..
  have l3 : leS B2 B3 := by rw [d3]; cases e <;> first | exact leS_put _ _ _ | exact leS.refl _
  have l4 : leS B3 B4 := by rw [d4]; exact leS_set ..
  have l5 : leS B4 B5 := by rw [d5]; exact mkC_le ..
  have l6 : leS B5 D := by rw [hD]; cases e <;> first | exact leS_set _ _ _ _ | exact leS.refl _
  have i1 : i < B1.length := Nat.lt_of_lt_of_le hi l1.1
  have i1' : i < (putS B1 i (oc0 6)).length := by rw [len_put]; exact i1
  have i2 : i < B2.length := Nat.lt_of_lt_of_le i1' l2.1
  have i3 : i < B3.length := Nat.lt_of_lt_of_le i2 l3.1
  have i4 : i < B4.length := Nat.lt_of_lt_of_le i3 l4.1
  have i5 : i < B5.length := Nat.lt_of_lt_of_le i4 l5.1
  have n1 : lenS' B1 i < lenS' B3 i := by
    have := l2.2 i i1'
    rw [lenS_put, if_pos ⟨rfl, i1⟩] at this
    have := l3.2 i i2
    omega
  have x0 : ∀ τ, idx 1 (roK [k1, k2, k3]) (.val (.int .i64 0)) τ = some (.rop [iv (k1 : Int)] 0) := fun τ => idx_K (j := 0) (by simp)
  have x1 : ∀ τ, idx 1 (roK [k1, k2, k3]) (.val (.int .i64 1)) τ = some (.rop [iv (k2 : Int)] 0) := fun τ => idx_K (j := 1) (by simp)
  have x2 : ∀ τ, idx 1 (roK [k1, k2, k3]) (.val (.int .i64 2)) τ = some (.rop [iv (k3 : Int)] 0) := fun τ => idx_K (j := 2) (by simp)
  have eb6 : bld [(.val (.int .i64 0)), (.val (.int .i64 0)), (.val (.int .i64 0)), (.val (.int .i64 0)), (.val (.int .i64 0)), (.val (.string ⟨#[]⟩)), (.val (.slice none 0 0))] [(0, 1), (1, 1), (2, 1), (3, 1), (4, 1), (5, 1), (6, 1)] [(0, (.val (.int .i64 6)))] = some (.agg [iv 6, iv 0, iv 0, iv 0, iv 0, str ⟨#[]⟩, nilS]) := rfl
  have eb5 : bld [(.val (.int .i64 0)), (.val (.int .i64 0)), (.val (.int .i64 0)), (.val (.int .i64 0)), (.val (.int .i64 0)), (.val (.string ⟨#[]⟩)), (.val (.slice none 0 0))] [(0, 1), (1, 1), (2, 1), (3, 1), (4, 1), (5, 1), (6, 1)] [(0, (.val (.int .i64 5)))] = some (.agg [iv 5, iv 0, iv 0, iv 0, iv 0, str ⟨#[]⟩, nilS]) := rfl
  refine s_impl_compiler_choice_ok ?_
  unfold s_impl_compiler_choice
  simp only [x0, lod_1, RR]
  refine hC k1 i false B τ _ (hx k1 (by simp)).1 (hx k1 (by simp)).2 hi h hf (fun f1 τ1 S1 => ?_) fun c => pan_onr (h2 fun k => c (by rw [← d1]; exact k.of_le ((((((leS_put B1 i (oc0 6)).trans l2).trans l3).trans l4).trans l5).trans l6)))
  rw [← d1] at f1 S1
  simp only [eb6, RR]
  refine nil_op (oc0 6) rfl rfl ?_
  refine c_impl_emit rfl S1 i1 (f1.2 i i1) (fun c τ2 S2 => ?_) fun c => pan_onr (h2 fun k => c ((fits_put f1 i1).1 (k.of_le (((l2.trans l3).trans l4).trans (l5.trans l6)))))
  have f2 := (fits_put (o := oc0 6) f1 i1).2 c
  simp only [x1, lod_1, RR]
  refine hC k2 i e _ τ2 _ (hx k2 (by simp)).1 (hx k2 (by simp)).2 i1' S2 f2 (fun f3 τ3 S3 => ?_) fun c => pan_onr (h2 fun k => c (by rw [← d2]; exact k.of_le ((l3.trans l4).trans (l5.trans l6))))
  rw [← d2] at f3 S3
  simp only [jn, RR]
  have fin : ∀ (τ : AH) (u : AV), CSt (preI cs) σ τ φm B3 → fits B3 → (e = false → u = iv (lenS' B2 i : Int)) →
      og (anil (.ptr φm 0 0 0)) fun v34 => og (fldA 2 v34) fun v35 => og (lod v35 τ) fun v36 => og (idx 2 v36 (iv (i : Int)) τ) fun v38 => og (fldA 1 v38) fun v39 => og (lod v39 τ) fun v40 =>
      acall TP fn_impl_compiler_here [.ptr φm 0 0 0, iv (i : Int)] τ (onr (fun v44 σ =>
      (lod v39 σ = some v40 ∧ idx 2 v36 (iv (i : Int)) σ = some v38 ∧ lod v35 σ = some v36 ∧ True) ∧
      og (idx 7 v40 (iv (lenS' B1 i : Int)) σ) fun v45 => og (fldA 1 v45) fun v46 => sto 1 v46 v44 σ fun σ =>
      (True) ∧
      og (idx 1 (roK [k1, k2, k3]) (.val (.int .i64 2)) σ) fun v49 => og (lod v49 σ) fun v50 =>
      acall TP fn_impl_compiler_core [.ptr φm 0 0 0, v50, iv (i : Int), bv e] σ (onr (fun _ σ =>
      og (aun .not (bv e)) fun v55 =>
      apick v55 (
        og (anil (.ptr φm 0 0 0)) fun v57 => og (fldA 2 v57) fun v58 => og (lod v58 σ) fun v59 => og (idx 2 v59 (iv (i : Int)) σ) fun v61 => og (fldA 1 v61) fun v62 => og (lod v62 σ) fun v63 =>
        acall TP fn_impl_compiler_here [.ptr φm 0 0 0, iv (i : Int)] σ (onr (fun v67 σ =>
        (lod v62 σ = some v63 ∧ idx 2 v59 (iv (i : Int)) σ = some v61 ∧ lod v58 σ = some v59 ∧ True) ∧
        og (idx 7 v63 u σ) fun v68 => og (fldA 1 v68) fun v69 => sto 1 v69 v67 σ fun σ =>
        (True) ∧
        aret (.tup []) σ R) (fun v σ => apan v σ R))) (
        aret (.tup []) σ R)) (fun v σ => apan v σ R))) (fun v σ => apan v σ R)) := by
    intro τ u S fB hu
    obtain ⟨v, φ, st, w, e1, e2, e3, e4, _, e6⟩ := S.open i3
    replace e1 : lod (.ptr φm 0 0 2) τ = some v := e1
    simp only [e1, e2, e3, RR]
    refine c_impl_here rfl S i3 ?_
    simp only [e1, e2, e3, RR, true_and, and_true]
    obtain ⟨φw, stw, g1, g2⟩ := e6 (lenS' B1 i) n1
    simp only [g1, RR]
    refine g2 _ _ fun τ4 S4 => ?_
    rw [← d4] at S4
    simp only [x2, lod_1, RR, true_and]
    have f4 : fits B4 := by rw [d4]; exact fits_set.2 fB
    refine hC k3 i e B4 τ4 _ (hx k3 (by simp)).1 (hx k3 (by simp)).2 i4 S4 f4 (fun f5 τ5 S5 => ?_) fun c => pan_onr (h2 fun k => c (by rw [← d5]; exact k.of_le l6))
    rw [← d5] at f5 S5
    cases e with
    | true =>
      rw [if_pos rfl] at hD
      subst hD
      simp only [RR]
      exact ret_here (h1 f5 τ5 S5)
    | false =>
      rw [if_neg (by decide)] at hD d3
      obtain rfl := hu rfl
      have n2 : lenS' B2 i < lenS' B5 i := by
        have a1 := l4.2 i i3
        have a2 := l5.2 i i4
        have a3 : lenS' B3 i = lenS' B2 i + 1 := by rw [d3, lenS_put, if_pos ⟨rfl, i2⟩]
        omega
      obtain ⟨v', φ', st', w', q1, q2, q3, q4, _, q6⟩ := S5.open i5
      replace q1 : lod (.ptr φm 0 0 2) τ5 = some v' := q1
      simp only [q1, q2, q3, RR]
      refine c_impl_here rfl S5 i5 ?_
      simp only [q1, q2, q3, RR, true_and, and_true]
      obtain ⟨φw', stw', g1', g2'⟩ := q6 (lenS' B2 i) n2
      simp only [g1', RR]
      refine g2' _ _ fun τ6 S6 => ?_
      rw [← hD] at S6
      exact ret_here (h1 (by rw [hD]; exact fits_set.2 f5) τ6 S6)
  cases e with
  | true =>
    rw [if_pos rfl] at d3
    subst d3
    simp only [RR]
    exact fin τ3 (iv 0) S3 f3 (fun c => by cases c)
  | false =>
    rw [if_neg (by decide)] at d3
    simp only [eb5, RR]
    refine nil_op (oc0 5) rfl rfl ?_
    refine c_impl_emit rfl S3 i2 (f3.2 i i2) (fun c τ4 S4 => ?_) fun c => pan_onr (h2 fun k => c ((fits_put (o := oc0 5) f3 i2).1 (by rw [← d3]; exact k.of_le ((l4.trans l5).trans l6))))
    rw [← d3] at S4
    simp only [RR]
    exact fin τ4 _ S4 (by rw [d3]; exact (fits_put f3 i2).2 c) fun _ => rfl
theorem idx_KK {x : Nat} (h : x < cs.length) : idx 1 (roKK cs) (iv (x : Int)) σ = some (.rop [roK (kidsC cs x)] 0) := by
  have hl : x < (allK cs).length := by simpa [allK] using h
  have := idx_ro (σ := σ) (enc := encK) (es := allK cs) hl (sz := 1) len_encK
  rw [this]; simp [allK, encK]
theorem slc_K {ks : List Nat} (hn : ks ≠ []) : slc 1 (roK ks) none (some (iv ((ks.length : Int) - 1))) none σ = some (roK ks.dropLast) := by
  have hl : ks.length ≠ 0 := fun c => hn (List.length_eq_zero_iff.1 c)
  have e1 : (ks.length : Int) - 1 = ((ks.length - 1 : Nat) : Int) := by omega
  rw [e1]
  have e : abd none 0 = some 0 := rfl
  have e2 : abd (some (iv ((ks.length - 1 : Nat) : Int))) ((ks.map fun k : Nat => [iv (k : Int)]).length) = some (ks.length - 1) := abd_nat _ _
  have e3 : abd none ((ks.map fun k : Nat => [iv (k : Int)]).length) = some (ks.map fun k : Nat => [iv (k : Int)]).length := rfl
  simp only [slc, e, e2, e3]
  rw [if_pos ⟨Nat.zero_le _, by simp, by simp, by simp, by rw [List.all_eq_true]; intro c hc; obtain ⟨x, _, rfl⟩ := List.mem_map.1 hc; rfl⟩]
  rw [List.dropLast_eq_take, List.drop_zero, ← List.map_take]
set_option maxHeartbeats 2000000 in
theorem core_all (hw : WfC cs) : ∀ f, CoreC cs f σ φm := by
  intro f
  induction f with
  | zero => intro x i e B τ R hx hf; omega
  | succ f ih =>
    intro x i e B τ R hx hfx hi h hf h1 h2
    have hkd : ∀ k, k ∈ kidsC cs x → k < cs.length ∧ cs.length ≤ f + k := fun k hk => by have := hw.kid hk; omega
    have hkk := hw.kids x hx
    have hkind := hw.kind x hx
    have ex : ∀ τ, idx 6 (roC cs) (iv (x : Int)) τ = some (.rop (encCor (corAt cs x)) 0) := fun τ => by rw [← corAt_eq hx]; exact idx_ro hx len_encCor
    have p0 : ∀ {τ}, CSt (preI cs) σ τ φm B → lod (.ptr φm 0 0 0) τ = some (roC cs) := fun h => h.fix rfl
    have p1 : ∀ {τ}, CSt (preI cs) σ τ φm B → lod (.ptr φm 0 0 1) τ = some (roKK cs) := fun h => h.fix rfl
    refine s_impl_compiler_core_ok ?_
    unfold s_impl_compiler_core
    simp only [p0 h, p1 h, ex, idx_KK hx, lod_1, lodA_all (len_encCor _), RR]
    intro φ8 hφ8
    refine ⟨trivial, ?_⟩
    refine sto_own (es := [[iv 0, iv 0, iv 0, iv 0, str ⟨#[]⟩, nilS]]) (cs := encCor (corAt cs x)) (by rw [AH.set_same]; rfl) (by simp) rfl rfl rfl (one_encCor _) ?_
    have hg : CSt (preI cs) σ (τ.set φ8 ⟨0, 6, [encCor (corAt cs x)]⟩) φm B := h.grow (.set (.refl τ) _ hφ8)
    simp only [List.set_cons_zero, AH.set_set, p1 hg, lod_1, idx_KK hx, RR, true_and, and_true, jn]
    refine frz_cell hφ8 rfl ?_
    have l0 : ∀ τ, lod (.rop (encCor (corAt cs x)) 0) τ = some (iv (corAt cs x).kind) := fun _ => rfl
    have l2 : ∀ τ, lod (.rop (encCor (corAt cs x)) 2) τ = some (iv (corAt cs x).a) := fun _ => rfl
    have l3 : ∀ τ, lod (.rop (encCor (corAt cs x)) 3) τ = some (iv (corAt cs x).b) := fun _ => rfl
    have l4 : ∀ τ, lod (.rop (encCor (corAt cs x)) 4) τ = some (str (corAt cs x).name) := fun _ => rfl
    have l5 : ∀ τ, lod (.rop (encCor (corAt cs x)) 5) τ = some (roD (corAt cs x).data) := fun _ => rfl
    simp only [l0, l2, l3, l4, l5, RR]
    rw [mkC] at h1 h2
    dsimp only at h1 h2
    generalize hks : kidsC cs x = ks at *
    generalize hc : corAt cs x = c at *
    have one : ∀ (o : OpD), (fits (endS (putS B i o) i e) → ∀ τ', CSt (preI cs) σ τ' φm (endS (putS B i o) i e) → R (.ret (.tup [])) τ') → (¬ fits (endS (putS B i o) i e) → PanTo (preI cs) σ φm R) →
        acall TP fn_impl_compiler_emit [.ptr φm 0 0 0, iv (i : Int), .agg (encOp o)] τ (onr (fun _ σ =>
        apick (bv e) (og (bld [(.val (.int .i64 0)), (.val (.int .i64 0)), (.val (.int .i64 0)), (.val (.int .i64 0)), (.val (.int .i64 0)), (.val (.string ⟨#[]⟩)), (.val (.slice none 0 0))] [(0, 1), (1, 1), (2, 1), (3, 1), (4, 1), (5, 1), (6, 1)] [(0, (.val (.int .i64 12)))]) fun v157 =>
        acall TP fn_impl_compiler_emit [.ptr φm 0 0 0, iv (i : Int), v157] σ (onr (fun _ σ =>
        aret (.tup []) σ R) (fun v σ => apan v σ R))) (aret (.tup []) σ R)) (fun v σ => apan v σ R)) := by
      intro o g1 g2
      refine c_impl_emit rfl h hi (hf.2 i hi) (fun c τ' S => ?_) fun c => pan_onr (g2 fun k => c ((fits_put hf hi).1 (k.of_le (leS_end ..))))
      exact end_impl S (by rw [len_put]; exact hi) ((fits_put hf hi).2 c) g1 g2
    by_cases c1 : c.kind = 1
    · rw [if_pos c1] at h1 h2
      have eb : bld [(.val (.int .i64 0)), (.val (.int .i64 0)), (.val (.int .i64 0)), (.val (.int .i64 0)), (.val (.int .i64 0)), (.val (.string ⟨#[]⟩)), (.val (.slice none 0 0))] [(0, 1), (1, 1), (2, 1), (3, 1), (4, 1), (5, 1), (6, 1)] [(0, (.val (.int .i64 1))), (6, roD c.data)] = some (.agg (encOp (ocD 1 c.data))) := rfl
      simp only [c1, eb, RR]
      exact one _ h1 h2
    rw [if_neg c1] at h1 h2
    by_cases c2 : c.kind = 2
    · rw [if_pos c2] at h1 h2
      have eb : bld [(.val (.int .i64 0)), (.val (.int .i64 0)), (.val (.int .i64 0)), (.val (.int .i64 0)), (.val (.int .i64 0)), (.val (.string ⟨#[]⟩)), (.val (.slice none 0 0))] [(0, 1), (1, 1), (2, 1), (3, 1), (4, 1), (5, 1), (6, 1)] [(0, (.val (.int .i64 2))), (1, iv c.a), (2, iv c.b)] = some (.agg (encOpA (ocAB 2 c.a c.b) nilS)) := rfl
      simp only [c2, eb, Int.reduceEq, RR]
      exact nil_op _ rfl rfl (one _ h1 h2)
    rw [if_neg c2] at h1 h2
    by_cases c3 : c.kind = 3
    · rw [if_pos c3] at h1 h2
      have eb : bld [(.val (.int .i64 0)), (.val (.int .i64 0)), (.val (.int .i64 0)), (.val (.int .i64 0)), (.val (.int .i64 0)), (.val (.string ⟨#[]⟩)), (.val (.slice none 0 0))] [(0, 1), (1, 1), (2, 1), (3, 1), (4, 1), (5, 1), (6, 1)] [(0, (.val (.int .i64 3))), (5, str c.name)] = some (.agg (encOpA (ocN 3 c.name) nilS)) := rfl
      simp only [c3, eb, Int.reduceEq, RR]
      exact nil_op _ rfl rfl (one _ h1 h2)
    rw [if_neg c3] at h1 h2
    have z0 : ∀ {k : Nat} {r : List Nat} τ, idx 1 (roK (k :: r)) (.val (.int .i64 0)) τ = some (.rop [iv (k : Int)] 0) := fun {k r} τ => by have := idx_K (σ := τ) (ks := k :: r) (j := 0) (by simp); simpa using this
    by_cases c5 : c.kind = 5
    · rw [if_pos c5] at h1 h2
      unfold hasK at hkk
      rw [if_neg (by omega), if_pos (.inl c5)] at hkk
      obtain ⟨k, rfl⟩ : ∃ k, ks = [k] := by
        match ks, hkk with
        | [k], _ => exact ⟨k, rfl⟩
      have eb : bld [(.val (.int .i64 0)), (.val (.int .i64 0)), (.val (.int .i64 0)), (.val (.int .i64 0)), (.val (.int .i64 0)), (.val (.string ⟨#[]⟩)), (.val (.slice none 0 0))] [(0, 1), (1, 1), (2, 1), (3, 1), (4, 1), (5, 1), (6, 1)] [(0, (.val (.int .i64 4))), (1, iv (B.length : Int))] = some (.agg (encOpA (ocA 4 (B.length : Int)) nilS)) := rfl
      simp only [c5, Int.reduceEq, RR]
      simp only [List.getD_cons_zero] at h1 h2
      have hlP : leS (B ++ [(c.a, [])]) (endS (mkC cs f k B.length true (putS (B ++ [(c.a, [])]) i (ocA 4 (B.length : Int)))) i e) := ((leS_put ..).trans (mkC_le ..)).trans (leS_end ..)
      have hi1 : i < (B ++ [(c.a, [])]).length := by simp; omega
      refine c_impl_block rfl h hf.1 (fun c60 τ1 S1 => ?_) fun c60 => pan_onr (h2 fun k => c60 ((fits_push hf).1 (k.of_le hlP)))
      have f1 := (fits_push (a := c.a) hf).2 c60
      simp only [eb, RR]
      refine nil_op _ rfl rfl (c_impl_emit rfl S1 hi1 (f1.2 i hi1) (fun q τ2 S2 => ?_) fun c => pan_onr (h2 fun k => c ((fits_put f1 hi1).1 (k.of_le ((mkC_le ..).trans (leS_end ..))))))
      have f2 := (fits_put (o := ocA 4 (B.length : Int)) f1 hi1).2 q
      simp only [z0, lod_1, RR]
      have hk := hkd k (by simp)
      refine ih k B.length true _ τ2 _ hk.1 hk.2 (by rw [len_put]; simp) S2 f2 (fun f3 τ3 S3 => ?_) fun c => pan_onr (h2 fun k => c (k.of_le (leS_end ..)))
      have hi3 : i < (mkC cs f k B.length true (putS (B ++ [(c.a, [])]) i (ocA 4 (B.length : Int)))).length := Nat.lt_of_lt_of_le (by rw [len_put]; exact hi1) (mkC_le ..).1
      simp only [RR]
      exact end_impl S3 hi3 f3 h1 h2
    rw [if_neg c5] at h1 h2
    by_cases c78 : c.kind = 7 ∨ c.kind = 8
    · rw [if_pos c78] at h1 h2
      unfold hasK at hkk
      rw [if_neg (by omega), if_pos (by omega)] at hkk
      obtain ⟨k, rfl⟩ : ∃ k, ks = [k] := by
        match ks, hkk with
        | [k], _ => exact ⟨k, rfl⟩
      simp only [List.getD_cons_zero] at h1 h2
      have hk := hkd k (by simp)
      have es : ibin .sub (iv c.kind) (.val (.int .i64 7)) = some (iv (c.kind - 7)) := ibin_sub (by omega) (by omega)
      have ea : ibin .add (iv (c.kind - 7)) (.val (.int .i64 8)) = some (iv (c.kind - 7 + 8)) := ibin_add (by omega) (by omega)
      have eb : bld [(.val (.int .i64 0)), (.val (.int .i64 0)), (.val (.int .i64 0)), (.val (.int .i64 0)), (.val (.int .i64 0)), (.val (.string ⟨#[]⟩)), (.val (.slice none 0 0))] [(0, 1), (1, 1), (2, 1), (3, 1), (4, 1), (5, 1), (6, 1)] [(0, iv (c.kind - 7 + 8)), (5, str c.name)] = some (.agg (encOpA (ocN (c.kind - 7 + 8) c.name) nilS)) := rfl
      have go : acall TP fn_impl_compiler_core [.ptr φm 0 0 0, iv (k : Int), iv (i : Int), bv false] τ (onr (fun _ σ =>
          acall TP fn_impl_compiler_emit [.ptr φm 0 0 0, iv (i : Int), .agg (encOpA (ocN (c.kind - 7 + 8) c.name) nilS)] σ (onr (fun _ σ =>
          apick (bv e) (og (bld [(.val (.int .i64 0)), (.val (.int .i64 0)), (.val (.int .i64 0)), (.val (.int .i64 0)), (.val (.int .i64 0)), (.val (.string ⟨#[]⟩)), (.val (.slice none 0 0))] [(0, 1), (1, 1), (2, 1), (3, 1), (4, 1), (5, 1), (6, 1)] [(0, (.val (.int .i64 12)))]) fun v157 =>
          acall TP fn_impl_compiler_emit [.ptr φm 0 0 0, iv (i : Int), v157] σ (onr (fun _ σ =>
          aret (.tup []) σ R) (fun v σ => apan v σ R))) (aret (.tup []) σ R)) (fun v σ => apan v σ R))) (fun v σ => apan v σ R)) := by
        refine ih k i false B τ _ hk.1 hk.2 hi h hf (fun f1 τ1 S1 => ?_) fun c => pan_onr (h2 fun k => c (k.of_le ((leS_put ..).trans (leS_end ..))))
        have hi1 : i < (mkC cs f k i false B).length := Nat.lt_of_lt_of_le hi (mkC_le ..).1
        simp only [RR]
        refine nil_op _ rfl rfl (c_impl_emit rfl S1 hi1 (f1.2 i hi1) (fun c τ2 S2 => ?_) fun c => pan_onr (h2 fun k => c ((fits_put f1 hi1).1 (k.of_le (leS_end ..)))))
        exact end_impl S2 (by rw [len_put]; exact hi1) ((fits_put f1 hi1).2 c) h1 h2
      rcases c78 with c7 | c8
      · simp only [c7, z0, lod_1, Int.reduceEq, RR] at es ea eb go ⊢
        simp only [es, ea, eb, RR]
        exact go
      · simp only [c8, z0, lod_1, Int.reduceEq, RR] at es ea eb go ⊢
        simp only [es, ea, eb, RR]
        exact go
    rw [if_neg c78] at h1 h2
    have c7 : ¬ c.kind = 7 := fun k => c78 (.inl k)
    have c8 : ¬ c.kind = 8 := fun k => c78 (.inr k)
    by_cases c4 : c.kind = 4
    · rw [if_pos c4] at h1 h2
      unfold hasK at hkk
      rw [if_pos c4] at hkk
      obtain ⟨k1, k2, k3, rfl⟩ : ∃ k1 k2 k3, ks = [k1, k2, k3] := by
        match ks, hkk with
        | [k1, k2, k3], _ => exact ⟨k1, k2, k3, rfl⟩
      simp only [List.getD_cons_zero, List.getD_cons_succ] at h1 h2
      simp only [c4, Int.reduceEq, RR]
      refine c_impl_choice ih hkd h hi hf rfl rfl rfl rfl rfl rfl (fun fD τ' S => ?_) fun c => pan_onr (h2 c)
      simp only [RR]
      exact ret_here (h1 fD τ' S)
    rw [if_neg c4] at h1 h2
    by_cases c6 : c.kind = 6
    · rw [if_pos c6] at h1 h2
      unfold hasK at hkk
      rw [if_neg c4, if_neg (by omega), if_pos c6] at hkk
      have hne : ks ≠ [] := by intro c; rw [c] at hkk; simp at hkk
      have hsp := getD_last hne
      have hmem : ∀ k, k ∈ ks.dropLast → k ∈ ks := fun k hm => by rw [← hsp]; exact List.mem_append_left _ hm
      have hlm : ks.getLastD 0 ∈ ks := by
        have : ks.getLastD 0 ∈ ks.dropLast ++ [ks.getLastD 0] := List.mem_append_right _ (List.mem_singleton.2 rfl)
        rwa [hsp] at this
      have hdl : ks.dropLast.length = ks.length - 1 := List.length_dropLast
      have hkl : ks.length ≤ 160 := by
        have := hw.len.2
        rw [← hks]
        unfold kidsC
        exact Nat.le_trans (List.length_filter_le _ _) (by simpa using this)
      have es : ibin .sub (iv (ks.length : Int)) (.val (.int .i64 1)) = some (iv ((ks.length : Int) - 1)) := ibin_sub (by omega) (by omega)
      have eb : bld [(.val (.int .i64 0)), (.val (.int .i64 0)), (.val (.int .i64 0)), (.val (.int .i64 0)), (.val (.int .i64 0)), (.val (.string ⟨#[]⟩)), (.val (.slice none 0 0))] [(0, 1), (1, 1), (2, 1), (3, 1), (4, 1), (5, 1), (6, 1)] [(0, (.val (.int .i64 7)))] = some (.agg (encOpA (oc0 7) nilS)) := rfl
      simp only [c6, lenK, es, slc_K hne, eb, Int.reduceEq, RR]
      refine lp_for ks.dropLast.length (fun j => (.ptr φm 0 0 0, iv (i : Int), bv e, roK ks, iv ((ks.length : Int) - 1), roK ks.dropLast, iv (ks.dropLast.length : Int), iv (j : Int), ())) (fun j τ' => CSt (preI cs) σ τ' φm (manyS (fun k B => mkC cs f k i false B) (fun B => putS B i (oc0 7)) (ks.dropLast.take j) B) ∧ fits (manyS (fun k B => mkC cs f k i false B) (fun B => putS B i (oc0 7)) (ks.dropLast.take j) B)) rfl ⟨h, hf⟩ ?_
      rintro j τ1 hj ⟨S, fS⟩ R' hR'
      have hall : ∀ l B, leS B (manyS (fun k B => mkC cs f k i false B) (fun B => putS B i (oc0 7)) l B) := leS_many (fun k B => mkC_le ..) (fun B => leS_put ..)
      have hij : i < (manyS (fun k B => mkC cs f k i false B) (fun B => putS B i (oc0 7)) (ks.dropLast.take j) B).length := Nat.lt_of_lt_of_le hi (hall _ _).1
      by_cases hlt : j < ks.dropLast.length
      · have g : (j : Int) < (ks.dropLast.length : Int) := by omega
        simp only [g, idx_K hlt, lod_1, RR]
        have hm : ks.dropLast.getD j 0 ∈ ks := hmem _ (by rw [getD_get hlt]; exact List.getElem_mem hlt)
        have htk : manyS (fun k B => mkC cs f k i false B) (fun B => putS B i (oc0 7)) ks.dropLast B = manyS (fun k B => mkC cs f k i false B) (fun B => putS B i (oc0 7)) (ks.dropLast.drop (j + 1)) (putS (mkC cs f (ks.dropLast.getD j 0) i false (manyS (fun k B => mkC cs f k i false B) (fun B => putS B i (oc0 7)) (ks.dropLast.take j) B)) i (oc0 7)) := by
          conv => lhs; rw [← List.take_append_drop j ks.dropLast, many_app, List.drop_eq_getElem_cons hlt]
          simp only [manyS]
          rw [getD_get hlt]
        have hD : leS (putS (mkC cs f (ks.dropLast.getD j 0) i false (manyS (fun k B => mkC cs f k i false B) (fun B => putS B i (oc0 7)) (ks.dropLast.take j) B)) i (oc0 7)) (mkC cs f (ks.getLastD 0) i e (manyS (fun k B => mkC cs f k i false B) (fun B => putS B i (oc0 7)) ks.dropLast B)) := by
          rw [htk]; exact (hall _ _).trans (mkC_le ..)
        refine ih _ i false _ τ1 _ (hkd _ hm).1 (hkd _ hm).2 hij S fS (fun f1 τ2 S2 => ?_) fun q => pan_onr (h2 fun k => q (k.of_le ((leS_put ..).trans hD)))
        have hi1 : i < (mkC cs f (ks.dropLast.getD j 0) i false (manyS (fun k B => mkC cs f k i false B) (fun B => putS B i (oc0 7)) (ks.dropLast.take j) B)).length := Nat.lt_of_lt_of_le hij (mkC_le ..).1
        simp only [RR]
        refine nil_op _ rfl rfl (c_impl_emit rfl S2 hi1 (f1.2 i hi1) (fun q τ3 S3 => ?_) fun q => pan_onr (h2 fun k => q ((fits_put f1 hi1).1 (k.of_le hD))))
        simp only [ibin_up hlt (by omega), RR]
        have e1 : manyS (fun k B => mkC cs f k i false B) (fun B => putS B i (oc0 7)) (ks.dropLast.take (j + 1)) B = putS (mkC cs f (ks.dropLast.getD j 0) i false (manyS (fun k B => mkC cs f k i false B) (fun B => putS B i (oc0 7)) (ks.dropLast.take j) B)) i (oc0 7) := by
          rw [List.take_succ_eq_append_getElem hlt, many_app, getD_get hlt]
          rfl
        exact hR' hlt _ _ (.refl _) (by rw [e1]; exact ⟨S3, (fits_put f1 hi1).2 q⟩)
      · have g : ¬ (j : Int) < (ks.dropLast.length : Int) := by omega
        obtain rfl : j = ks.dropLast.length := by omega
        rw [List.take_length] at S fS hij
        have hlast : ks.getD (ks.length - 1) 0 = ks.getLastD 0 := by
          rw [List.getLastD_eq_getLast?, List.getLast?_eq_getElem?]; rfl
        have ix : idx 1 (roK ks) (iv ((ks.length : Int) - 1)) τ1 = some (.rop [iv ((ks.getLastD 0 : Nat) : Int)] 0) := by
          have := idx_K (σ := τ1) (ks := ks) (j := ks.length - 1) (by omega)
          rw [hlast, show ((ks.length - 1 : Nat) : Int) = (ks.length : Int) - 1 by omega] at this
          exact this
        simp only [g, ix, lod_1, RR]
        refine ih _ i e _ τ1 _ (hkd _ hlm).1 (hkd _ hlm).2 hij S fS (fun f1 τ2 S2 => ?_) fun q => pan_onr (h2 q)
        simp only [RR]
        exact ret_here (h1 f1 τ2 S2)
    rw [if_neg c6] at h1 h2
    have c9 : c.kind = 9 := by omega
    have hkl : ks.length ≤ 160 := by
      have := hw.len.2
      rw [← hks]
      unfold kidsC
      exact Nat.le_trans (List.length_filter_le _ _) (by simpa using this)
    simp only [c9, lenK, Int.reduceEq, RR]
    refine lp_for ks.length (fun j => (.ptr φm 0 0 0, iv (i : Int), bv e, roK ks, roK ks, iv (ks.length : Int), iv (j : Int), ())) (fun j τ' => CSt (preI cs) σ τ' φm (manyS (fun k B => mkC cs f k i false B) id (ks.take j) B) ∧ fits (manyS (fun k B => mkC cs f k i false B) id (ks.take j) B)) rfl ⟨h, hf⟩ ?_
    rintro j τ1 hj ⟨S, fS⟩ R' hR'
    have hall : ∀ l B, leS B (manyS (fun k B => mkC cs f k i false B) id l B) := leS_many (fun k B => mkC_le ..) (fun B => .refl B)
    have hij : i < (manyS (fun k B => mkC cs f k i false B) id (ks.take j) B).length := Nat.lt_of_lt_of_le hi (hall _ _).1
    by_cases hlt : j < ks.length
    · have g : (j : Int) < (ks.length : Int) := by omega
      simp only [g, idx_K hlt, lod_1, RR]
      have hm : ks.getD j 0 ∈ ks := by simp [List.getD, hlt]
      have htk : manyS (fun k B => mkC cs f k i false B) id ks B = manyS (fun k B => mkC cs f k i false B) id (ks.drop (j + 1)) (mkC cs f (ks.getD j 0) i false (manyS (fun k B => mkC cs f k i false B) id (ks.take j) B)) := by
        conv => lhs; rw [← List.take_append_drop j ks, many_app, List.drop_eq_getElem_cons hlt]
        simp only [manyS, id]
        rw [show ks.getD j 0 = ks[j] by simp [List.getD, hlt]]
      refine ih _ i false _ τ1 _ (hkd _ hm).1 (hkd _ hm).2 hij S fS (fun f1 τ2 S2 => ?_) fun q => pan_onr (h2 fun k => q (k.of_le (by rw [htk]; exact (hall _ _).trans (leS_put ..))))
      simp only [ibin_up hlt (by omega), RR]
      have e1 : manyS (fun k B => mkC cs f k i false B) id (ks.take (j + 1)) B = mkC cs f (ks.getD j 0) i false (manyS (fun k B => mkC cs f k i false B) id (ks.take j) B) := by
        rw [List.take_succ_eq_append_getElem hlt, many_app, show ks.getD j 0 = ks[j] by simp [List.getD, hlt]]
        rfl
      exact hR' hlt _ _ (.refl _) (by rw [e1]; exact ⟨S2, f1⟩)
    · have g : ¬ (j : Int) < (ks.length : Int) := by omega
      obtain rfl : j = ks.length := by omega
      rw [List.take_length] at S fS hij
      have es : ibin .sub (iv (ks.length : Int)) (.val (.int .i64 1)) = some (iv ((ks.length : Int) - 1)) := ibin_sub (by omega) (by omega)
      have eb : ∀ q : Int, bld [(.val (.int .i64 0)), (.val (.int .i64 0)), (.val (.int .i64 0)), (.val (.int .i64 0)), (.val (.int .i64 0)), (.val (.string ⟨#[]⟩)), (.val (.slice none 0 0))] [(0, 1), (1, 1), (2, 1), (3, 1), (4, 1), (5, 1), (6, 1)] [(0, iv q), (1, iv ((ks.length : Int) - 1))] = some (.agg (encOpA (ocA q ((ks.length : Int) - 1)) nilS)) := fun q => rfl
      cases e with
      | true =>
        simp only [g, jn, lenK, es, eb, RR]
        refine nil_op _ rfl rfl (c_impl_emit rfl S hij (fS.2 i hij) (fun q τ3 S3 => ?_) fun q => pan_onr (h2 fun k => q ((fits_put fS hij).1 k)))
        simp only [RR]
        exact ret_here (h1 ((fits_put fS hij).2 q) τ3 S3)
      | false =>
        simp only [g, jn, lenK, es, eb, RR]
        refine nil_op _ rfl rfl (c_impl_emit rfl S hij (fS.2 i hij) (fun q τ3 S3 => ?_) fun q => pan_onr (h2 fun k => q ((fits_put fS hij).1 k)))
        simp only [RR]
        exact ret_here (h1 ((fits_put fS hij).2 q) τ3 S3)
end
end Go.Proofs.YtmmhaiidcfgbbaaGreatDoor.E
