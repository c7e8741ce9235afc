/- Forms as texts, drawn. -/
import Derived.Test.YtnmggfcjbpnekaaA1
set_option linter.unusedSectionVars false
set_option linter.unusedSimpArgs false
set_option linter.unusedVariables false
namespace Go.Proofs.Ytnmggfcjbpnekaa.E
open Go Go.RowKit
set_option maxRecDepth 100000
/-- How long a form's text is, and how many draws it takes, by its depth. -/
def Sz : Nat → Nat
  | 0 => 30
  | d + 1 => 3 * Sz d + 300
def Dw : Nat → Nat
  | 0 => 10
  | d + 1 => 3 * Dw d + 10
section
variable [L : Lam]
variable {σ τ : AH} {R : AEnd → AH → Prop}
theorem dig30 {v : Int} (h0 : 0 ≤ v) (h1 : v < 1000) : ∃ x : ByteArray, x.size ≤ 30 ∧ ∀ {σ : AH} {K : AEnd → AH → Prop}, K (.ret (str x)) σ → acall TP fn_spec_l1Digits [iv v] σ K := by
  obtain ⟨n, rfl⟩ : ∃ n : Nat, v = (n : Int) := ⟨v.toNat, by omega⟩
  refine ⟨bs (Lib.decDigits n), ?_, fun h => c_spec_l1Digits_nat n (by omega) h⟩
  have := decDigits_len 3 n (by omega)
  rw [size_bs]; omega
/-- A form's text, at a depth. -/
def Src (ns : List Int) (d : Nat) : Prop := ∀ (φ u : Nat) (τ : AH) (a : AV) (xs : List ByteArray) (K : AEnd → AH → Prop), Nms φ τ a xs → xs.length ≤ 100 - d → d ≤ 10 → u + Dw d ≤ 1000000 →
  (∀ (x : ByteArray) (u' : Nat), x.size ≤ Sz d → u ≤ u' → u' ≤ u + Dw d → K (.ret (str x)) (τ.set φ (Sr ns u'))) → acall TP fn_spec_l4Source [.ptr φ 0 0 0, a, iv (d : Int)] (τ.set φ (Sr ns u)) K
/-- The leaf of a form: a name or a word. -/
theorem leaf {ns : List Int} {φ u : Nat} {τ : AH} {a : AV} {xs : List ByteArray} (hb : Bts ns) (hN : Nms φ τ a xs) (hu : u + 9 ≤ 1000000)
    (h : ∀ (x : ByteArray) (u' : Nat), x.size ≤ 30 → u ≤ u' → u' ≤ u + 9 → R (.ret (str x)) (τ.set φ (Sr ns u'))) :
    jn (X := Tup [0, 1, 21]) (fun x2 σ =>
            apick x2.2.2.1 (
              og (lenS x2.2.1) fun v25 =>
              acall TP fn_spec_l1Next [x2.1, v25] σ (onr (fun v26 σ =>
              og (idx 1 x2.2.1 v26 σ) fun v27 =>
              og (lod v27 σ) fun v28 =>
              aret v28 σ R) (fun v σ => apan v σ R))) (
              acall TP fn_spec_l1Next [x2.1, iv 9] σ (onr (fun v30 σ =>
              acall TP fn_spec_l1Digits [v30] σ (onr (fun v31 σ =>
              acall TP fn_spec_l1Next [x2.1, iv 99] σ (onr (fun v33 σ =>
              acall TP fn_spec_l1Digits [v33] σ (onr (fun v34 σ =>
              bsl 1 [(.val (.string ⟨#[]⟩))] 9 [(0, v31), (1, (.val (.string ⟨#[35, 116]⟩))), (2, (.val (.string ⟨#[39, 40, 49, 32, 50, 41]⟩))), (3, (.val (.string ⟨#[103]⟩))), (4, (.val (.string ⟨#[104]⟩))), (5, (.val (.string ⟨#[39, 97]⟩))), (6, v34), (7, (.val (.string ⟨#[99, 97, 114]⟩))), (8, (.val (.string ⟨#[43]⟩)))] σ fun v35 σ =>
              acall TP fn_spec_l1Next [x2.1, iv 9] σ (onr (fun v37 σ =>
              og (idx 1 v35 v37 σ) fun v38 =>
              og (lod v38 σ) fun v39 =>
              aret v39 σ R) (fun v σ => apan v σ R))) (fun v σ => apan v σ R))) (fun v σ => apan v σ R))) (fun v σ => apan v σ R))) (fun v σ => apan v σ R)))) (fun k2 =>
          og (lenS a) fun v16 =>
          og (ibin .gtr v16 (iv 0)) fun v17 =>
          og (gval v17 true false (some (.ptr φ 0 0 0))) fun v19 =>
          gpick v17 (
            acall TP fn_spec_l1Chance [v19, iv 2] (τ.set φ (Sr ns u)) (onr (fun v20 σ =>
            k2 (.ptr φ 0 0 0, a, v20, ()) σ) (fun v σ => apan v σ R))) (
            k2 (.ptr φ 0 0 0, a, bv false, ()) (τ.set φ (Sr ns u))) (False)) := by
  refine jn_by (P := fun x2 T => ∃ (b : Bool) (u' : Nat), x2 = (AV.ptr φ 0 0 0, a, bv b, ()) ∧ T = τ.set φ (Sr ns u') ∧ u ≤ u' ∧ u' ≤ u + 1 ∧ (b = true → 0 < xs.length)) ?_ ?_
  · rintro x2 T ⟨b, u', rfl, rfl, h1, h2, hx⟩
    cases b with
    | true =>
      have hpos := hx rfl
      have hl := hN.len
      simp only [hN.lenS, RR]
      refine nx hb (by omega) (by omega) (by omega) fun v v0 v1 => ?_
      obtain ⟨p, hp⟩ := hN.at (j := v.toNat) (by omega)
      have := hp (Sr ns (u' + 1))
      rw [show ((v.toNat : Nat) : Int) = v by omega] at this
      simp only [this, RR]
      exact ret_here (h _ _ (hN.small _ (List.getElem_mem _)) (by omega) (by omega))
    | false =>
      simp only [RR]
      refine nx hb (by omega) (by omega) (by omega) fun v v0 v1 => ?_
      obtain ⟨y1, s1, d1⟩ := dig30 v0 (by omega)
      simp only [RR]
      refine d1 ?_
      simp only [RR]
      refine nx hb (by omega) (by omega) (by omega) fun v' v0' v1' => ?_
      obtain ⟨y2, s2, d2⟩ := dig30 v0' (by omega)
      simp only [RR]
      refine d2 ?_
      simp only [RR]
      refine bsl_next (ws := [y1, ⟨#[35, 116]⟩, ⟨#[39, 40, 49, 32, 50, 41]⟩, ⟨#[103]⟩, ⟨#[104]⟩, ⟨#[39, 97]⟩, y2, ⟨#[99, 97, 114]⟩, ⟨#[43]⟩]) hb (by omega) rfl rfl (by omega) (by omega) fun ψ w hw hne hψ => ?_
      refine aret_sub (Keep.sub (.set (.refl φ τ) hψ)) (h w _ ?_ (by omega) (by omega))
      simp only [List.mem_cons, List.not_mem_nil, or_false] at hw
      rcases hw with rfl | rfl | rfl | rfl | rfl | rfl | rfl | rfl | rfl <;> first | assumption | decide
  · intro k hk
    by_cases c : (0 : Int) < (xs.length : Int)
    · simp only [hN.lenS, c, RR]
      refine chance hb (by omega) (by omega) fun b => ?_
      simp only [RR]
      exact hk _ _ ⟨b, u + 1, rfl, rfl, by omega, by omega, fun _ => by omega⟩
    · simp only [hN.lenS, c, RR]
      exact hk _ _ ⟨false, u, rfl, rfl, by omega, by omega, fun h => by cases h⟩
theorem og_bslR {n : Nat} {ps : List (Nat × AV)} {ws : List ByteArray} {k : AV → Prop} (he : afillS 1 (List.replicate n [str ⟨#[]⟩]) ps = some (txs ws)) (h0 : 0 < n) (h1 : n ≤ 1000) (hk : k (.ro (txs ws))) : og (bslR 1 [str ⟨#[]⟩] n ps) k := by
  rw [bslR_lit he h0 h1]
  exact hk
theorem Sz_le : ∀ d, d ≤ 10 → Sz d ≤ 100000000 := by decide
theorem Dw_ge (d : Nat) : 10 ≤ Dw d := by
  cases d with
  | zero => exact Nat.le_refl _
  | succ d => unfold Dw; omega
theorem Sz_ge (d : Nat) : 30 ≤ Sz d := by
  cases d with
  | zero => exact Nat.le_refl _
  | succ d => unfold Sz; omega
set_option maxHeartbeats 2000000 in
theorem src_all {ns : List Int} (hb : Bts ns) : ∀ d, Src ns d := by
  intro d
  induction d with
  | zero =>
    intro φ u τ a xs K hN hx hd hu h
    have e0 : Dw 0 = 10 := rfl
    refine s_spec_l4Source_ok ?_
    unfold s_spec_l4Source
    refine jn_by (P := fun x1 T => x1 = (AV.ptr φ 0 0 0, a, iv ((0 : Nat) : Int), bv true, ()) ∧ T = τ.set φ (Sr ns u)) ?_ ?_
    · rintro x1 T ⟨rfl, rfl⟩
      try simp only [RR]
      exact leaf hb hN (by omega) fun x u' a1 a2 a3 => h x u' a1 a2 (by omega)
    · intro k hk
      simp only [RR, show ((0 : Nat) : Int) ≤ 0 by omega]
      exact hk _ _ ⟨rfl, rfl⟩
  | succ e ih =>
    intro φ u τ a xs K hN hx hd hu h
    have hS : Sz (e + 1) = 3 * Sz e + 300 := rfl
    have hD : Dw (e + 1) = 3 * Dw e + 10 := rfl
    have hSl := Sz_le e (by omega)
    rw [hD] at hu
    have sub1 : ibin .sub (iv ((e + 1 : Nat) : Int)) (iv 1) = some (iv (e : Int)) := by rw [ibin_sub (by omega) (by omega)]; congr 3; omega
    refine s_spec_l4Source_ok ?_
    unfold s_spec_l4Source
    refine jn_by (P := fun x1 T => ∃ (b : Bool) (u' : Nat), x1 = (AV.ptr φ 0 0 0, a, iv ((e + 1 : Nat) : Int), bv b, ()) ∧ T = τ.set φ (Sr ns u') ∧ u' = u + 1) ?_ ?_
    case refine_2 =>
      intro k hk
      simp only [RR, show ¬ ((e + 1 : Nat) : Int) ≤ 0 by omega]
      refine chance hb (by omega) (by omega) fun b => ?_
      try simp only [RR]
      exact hk _ _ ⟨b, u + 1, rfl, rfl, rfl⟩
    rintro x1 T ⟨b, u', rfl, rfl, rfl⟩
    cases b with
    | true =>
      try simp only [RR]
      have := Sz_ge (e + 1)
      exact leaf hb hN (by omega) fun x u' a1 a2 a3 => h x u' (by omega) (by omega) (by omega)
    | false =>
      try simp only [RR]
      refine bsl_next (ws := [⟨#[120]⟩, ⟨#[121]⟩, ⟨#[122]⟩]) hb (by omega) rfl rfl (by omega) (by omega) fun ψ one hw hne hψ => ?_
      have hone : one.size ≤ 30 := by
        simp only [List.mem_cons, List.not_mem_nil, or_false] at hw
        rcases hw with rfl | rfl | rfl <;> decide
      have K1 : Keep φ τ (τ.set ψ ⟨0, 1, txs [⟨#[120]⟩, ⟨#[121]⟩, ⟨#[122]⟩]⟩) := .set (.refl φ τ) hψ
      generalize τ.set ψ ⟨0, 1, txs [⟨#[120]⟩, ⟨#[121]⟩, ⟨#[122]⟩]⟩ = τ1 at K1
      refine grow (hN.keep K1) (by omega) hone fun inner τ2 K2 hI => ?_
      have K3 := K1.trans K2
      have hN2 := hN.keep K3
      have fin : ∀ (x : ByteArray) (u' : Nat), x.size ≤ 3 * Sz e + 300 → u + 1 ≤ u' → u' ≤ u + (3 * Dw e + 10) → aret (str x) (τ2.set φ (Sr ns u')) K := fun x u' a1 a2 a3 =>
        aret_sub (Keep.sub K3) (h x u' (by omega) (by omega) (by omega))
      have rc : ∀ {K' : AEnd → AH → Prop} {b : AV} {ys : List ByteArray} {v : Nat}, Nms φ τ2 b ys → ys.length ≤ 100 - e → v + Dw e ≤ 1000000 →
          (∀ (x : ByteArray) (v' : Nat), x.size ≤ Sz e → v ≤ v' → v' ≤ v + Dw e → K' (.ret (str x)) (τ2.set φ (Sr ns v'))) → acall TP fn_spec_l4Source [.ptr φ 0 0 0, b, iv (e : Int)] (τ2.set φ (Sr ns v)) K' :=
        fun hb1 hb2 hb3 hb4 => ih φ _ τ2 _ _ _ hb1 hb2 (by omega) hb3 hb4
      have hxa : xs.length ≤ 100 - e := by omega
      have hxi : (xs ++ [one]).length ≤ 100 - e := by simp; omega
      refine jn_by (P := fun x3 T => ∃ v : Nat, x3 = (AV.ptr φ 0 0 0, a, iv ((e + 1 : Nat) : Int), ()) ∧ T = τ2.set φ (Sr ns v) ∧ u + 1 ≤ v ∧ v ≤ u + 3) ?_ ?_
      · rintro x3 T ⟨v, rfl, rfl, v1, v2⟩
        try simp only [sub1, RR]
        refine og_bslR (ws := [⟨#[43]⟩, ⟨#[45]⟩, ⟨#[42]⟩, ⟨#[60]⟩, ⟨#[61]⟩]) rfl (by omega) (by omega) ?_
        try simp only [RR]
        refine nx hb (by omega) (by omega) (by omega) fun i i0 i1 => ?_
        obtain ⟨q, hq, hat⟩ := ro_at (ws := [⟨#[43]⟩, ⟨#[45]⟩, ⟨#[42]⟩, ⟨#[60]⟩, ⟨#[61]⟩]) i0 i1
        have hq30 : q.size ≤ 30 := by
          simp only [List.mem_cons, List.not_mem_nil, or_false] at hq
          rcases hq with rfl | rfl | rfl | rfl | rfl <;> decide
        simp only [hat, RR, true_and]
        refine cat 30 _ (by decide) hq30 (by omega) fun z1 s1 => ?_
        refine cat _ 30 s1 (by decide) (by omega) fun z2 s2 => ?_
        refine rc hN2 hxa (by omega) fun y1 w1 t1 a1 b1 => ?_
        simp only [hat, RR, and_true, true_and]
        refine cat _ _ s2 t1 (by omega) fun z3 s3 => ?_
        refine cat _ 30 s3 (by decide) (by omega) fun z4 s4 => ?_
        refine rc hN2 hxa (by omega) fun y2 w2 t2 a2 b2 => ?_
        simp only [hat, RR, and_true, true_and]
        refine cat _ _ s4 t2 (by omega) fun z5 s5 => ?_
        refine cat _ 30 s5 (by decide) (by omega) fun z6 s6 => ?_
        exact fin _ _ (by omega) (by omega) (by omega)
      · intro k3 hk3
        refine nx hb (by omega) (by omega) (by omega) fun i i0 i1 => ?_
        try simp only [RR]
        by_cases c0 : i = 0
        · simp only [c0, sub1, RR]
          refine rc hN2 hxa (by omega) fun y1 w1 t1 a1 b1 => ?_
          try simp only [RR]
          refine cat 30 _ (by decide) t1 (by omega) fun z1 s1 => ?_
          refine cat _ 30 s1 (by decide) (by omega) fun z2 s2 => ?_
          try simp only [sub1, RR]
          refine rc hN2 hxa (by omega) fun y2 w2 t2 a2 b2 => ?_
          try simp only [RR]
          refine cat _ _ s2 t2 (by omega) fun z3 s3 => ?_
          refine cat _ 30 s3 (by decide) (by omega) fun z4 s4 => ?_
          try simp only [sub1, RR]
          refine rc hN2 hxa (by omega) fun y3 w3 t3 a3 b3 => ?_
          try simp only [RR]
          refine cat _ _ s4 t3 (by omega) fun z5 s5 => ?_
          refine cat _ 30 s5 (by decide) (by omega) fun z6 s6 => ?_
          exact fin _ _ (by omega) (by omega) (by omega)
        by_cases c1 : i = 1
        · subst c1
          simp only [RR, show ¬ (1 : Int) = 0 by omega]
          refine cat 30 _ (by decide) hone (by omega) fun z1 s1 => ?_
          refine cat _ 30 s1 (by decide) (by omega) fun z2 s2 => ?_
          try simp only [sub1, RR]
          refine rc hI hxi (by omega) fun y1 w1 t1 a1 b1 => ?_
          try simp only [RR]
          refine cat _ _ s2 t1 (by omega) fun z3 s3 => ?_
          refine cat _ 30 s3 (by decide) (by omega) fun z4 s4 => ?_
          exact fin _ _ (by omega) (by omega) (by omega)
        simp only [c0, c1, RR]
        refine jn_by (P := fun x4 T => ∃ (fl : Bool), x4 = (AV.ptr φ 0 0 0, a, iv ((e + 1 : Nat) : Int), str one, inner, iv i, bv fl, ()) ∧ T = τ2.set φ (Sr ns (u + 1 + 1 + 1))) ?_ ?_
        case refine_2 =>
          intro k4 hk4
          by_cases c2 : i = 2
          · subst c2
            try simp only [RR]
            exact hk4 _ _ ⟨true, rfl, rfl⟩
          · simp only [c2, RR]
            exact hk4 _ _ ⟨decide (i = 3), rfl, rfl⟩
        rintro x4 T ⟨fl, rfl, rfl⟩
        cases fl with
        | true =>
          try simp only [RR]
          refine cat 30 _ (by decide) hone (by omega) fun z1 s1 => ?_
          refine cat _ 30 s1 (by decide) (by omega) fun z2 s2 => ?_
          try simp only [sub1, RR]
          refine rc hN2 hxa (by omega) fun y1 w1 t1 a1 b1 => ?_
          try simp only [RR]
          refine cat _ _ s2 t1 (by omega) fun z3 s3 => ?_
          refine cat _ 30 s3 (by decide) (by omega) fun z4 s4 => ?_
          try simp only [sub1, RR]
          refine rc hI hxi (by omega) fun y2 w2 t2 a2 b2 => ?_
          try simp only [RR]
          refine cat _ _ s4 t2 (by omega) fun z5 s5 => ?_
          refine cat _ 30 s5 (by decide) (by omega) fun z6 s6 => ?_
          exact fin _ _ (by omega) (by omega) (by omega)
        | false =>
          try simp only [RR]
          by_cases c4 : i = 4
          · simp only [c4, sub1, RR]
            refine rc hN2 hxa (by omega) fun y1 w1 t1 a1 b1 => ?_
            try simp only [RR]
            refine cat 30 _ (by decide) t1 (by omega) fun z1 s1 => ?_
            refine cat _ 30 s1 (by decide) (by omega) fun z2 s2 => ?_
            try simp only [sub1, RR]
            refine rc hN2 hxa (by omega) fun y2 w2 t2 a2 b2 => ?_
            try simp only [RR]
            refine cat _ _ s2 t2 (by omega) fun z3 s3 => ?_
            refine cat _ 30 s3 (by decide) (by omega) fun z4 s4 => ?_
            exact fin _ _ (by omega) (by omega) (by omega)
          by_cases c5 : i = 5
          · subst c5
            simp only [RR, show ¬ (5 : Int) = 4 by omega]
            refine cat 30 _ (by decide) hone (by omega) fun z1 s1 => ?_
            refine cat _ 30 s1 (by decide) (by omega) fun z2 s2 => ?_
            try simp only [sub1, RR]
            refine rc hI hxi (by omega) fun y1 w1 t1 a1 b1 => ?_
            try simp only [RR]
            refine cat _ _ s2 t1 (by omega) fun z3 s3 => ?_
            refine cat _ 30 s3 (by decide) (by omega) fun z4 s4 => ?_
            try simp only [sub1, RR]
            refine rc hN2 hxa (by omega) fun y2 w2 t2 a2 b2 => ?_
            try simp only [RR]
            refine cat _ _ s4 t2 (by omega) fun z5 s5 => ?_
            refine cat _ 30 s5 (by decide) (by omega) fun z6 s6 => ?_
            exact fin _ _ (by omega) (by omega) (by omega)
          by_cases c6 : i = 6
          · subst c6
            simp only [RR, show ¬ (6 : Int) = 4 by omega, show ¬ (6 : Int) = 5 by omega]
            refine og_bslR (ws := [⟨#[103]⟩, ⟨#[104]⟩]) rfl (by omega) (by omega) ?_
            try simp only [sub1, RR]
            refine nx hb (by omega) (by omega) (by omega) fun j j0 j1 => ?_
            obtain ⟨q, hq, hat⟩ := ro_at (ws := [⟨#[103]⟩, ⟨#[104]⟩]) j0 j1
            have hq30 : q.size ≤ 30 := by
              simp only [List.mem_cons, List.not_mem_nil, or_false] at hq
              rcases hq with rfl | rfl <;> decide
            simp only [hat, RR, true_and]
            refine cat 30 _ (by decide) hq30 (by omega) fun z1 s1 => ?_
            refine cat _ 30 s1 (by decide) (by omega) fun z2 s2 => ?_
            refine rc hN2 hxa (by omega) fun y1 w1 t1 a1 b1 => ?_
            simp only [hat, RR, and_true, true_and]
            refine cat _ _ s2 t1 (by omega) fun z3 s3 => ?_
            refine cat _ 30 s3 (by decide) (by omega) fun z4 s4 => ?_
            exact fin _ _ (by omega) (by omega) (by omega)
          by_cases c7 : i = 7
          · subst c7
            simp only [RR, show ¬ (7 : Int) = 4 by omega, show ¬ (7 : Int) = 5 by omega, show ¬ (7 : Int) = 6 by omega]
            refine grow hN2 (by omega) (w := ⟨#[107]⟩) (by decide) fun names' τ3 K4 hI3 => ?_
            have K5 := K3.trans K4
            try simp only [sub1, RR]
            refine ih φ _ τ3 _ _ _ hI3 (by simp; omega) (by omega) (by omega) fun y1 w1 t1 a1 b1 => ?_
            try simp only [RR]
            refine cat 30 _ (by decide) t1 (by omega) fun z1 s1 => ?_
            refine cat _ 30 s1 (by decide) (by omega) fun z2 s2 => ?_
            exact aret_sub (Keep.sub K5) (h _ _ (by omega) (by omega) (by omega))
          by_cases c8 : i = 8
          · subst c8
            simp only [RR, show ¬ (8 : Int) = 4 by omega, show ¬ (8 : Int) = 5 by omega, show ¬ (8 : Int) = 6 by omega, show ¬ (8 : Int) = 7 by omega]
            refine og_bslR (ws := [⟨#[99, 97, 114]⟩, ⟨#[99, 100, 114]⟩, ⟨#[110, 117, 108, 108, 63]⟩, ⟨#[112, 97, 105, 114, 63]⟩, ⟨#[110, 111, 116]⟩]) rfl (by omega) (by omega) ?_
            try simp only [sub1, RR]
            refine nx hb (by omega) (by omega) (by omega) fun j j0 j1 => ?_
            obtain ⟨q, hq, hat⟩ := ro_at (ws := [⟨#[99, 97, 114]⟩, ⟨#[99, 100, 114]⟩, ⟨#[110, 117, 108, 108, 63]⟩, ⟨#[112, 97, 105, 114, 63]⟩, ⟨#[110, 111, 116]⟩]) j0 j1
            have hq30 : q.size ≤ 30 := by
              simp only [List.mem_cons, List.not_mem_nil, or_false] at hq
              rcases hq with rfl | rfl | rfl | rfl | rfl <;> decide
            simp only [hat, RR, true_and]
            refine cat 30 _ (by decide) hq30 (by omega) fun z1 s1 => ?_
            refine cat _ 30 s1 (by decide) (by omega) fun z2 s2 => ?_
            refine rc hN2 hxa (by omega) fun y1 w1 t1 a1 b1 => ?_
            simp only [hat, RR, and_true, true_and]
            refine cat _ _ s2 t1 (by omega) fun z3 s3 => ?_
            refine cat _ 30 s3 (by decide) (by omega) fun z4 s4 => ?_
            exact fin _ _ (by omega) (by omega) (by omega)
          by_cases c9 : i = 9
          · subst c9
            simp only [RR, show ¬ (9 : Int) = 4 by omega, show ¬ (9 : Int) = 5 by omega, show ¬ (9 : Int) = 6 by omega, show ¬ (9 : Int) = 7 by omega, show ¬ (9 : Int) = 8 by omega]
            refine og_bslR (ws := [⟨#[99, 111, 110, 115]⟩, ⟨#[108, 105, 115, 116]⟩, ⟨#[101, 113, 63]⟩]) rfl (by omega) (by omega) ?_
            try simp only [sub1, RR]
            refine nx hb (by omega) (by omega) (by omega) fun j j0 j1 => ?_
            obtain ⟨q, hq, hat⟩ := ro_at (ws := [⟨#[99, 111, 110, 115]⟩, ⟨#[108, 105, 115, 116]⟩, ⟨#[101, 113, 63]⟩]) j0 j1
            have hq30 : q.size ≤ 30 := by
              simp only [List.mem_cons, List.not_mem_nil, or_false] at hq
              rcases hq with rfl | rfl | rfl <;> decide
            simp only [hat, RR, true_and]
            refine cat 30 _ (by decide) hq30 (by omega) fun z1 s1 => ?_
            refine cat _ 30 s1 (by decide) (by omega) fun z2 s2 => ?_
            refine rc hN2 hxa (by omega) fun y1 w1 t1 a1 b1 => ?_
            simp only [hat, RR, and_true, true_and]
            refine cat _ _ s2 t1 (by omega) fun z3 s3 => ?_
            refine cat _ 30 s3 (by decide) (by omega) fun z4 s4 => ?_
            refine rc hN2 hxa (by omega) fun y2 w2 t2 a2 b2 => ?_
            simp only [hat, RR, and_true, true_and]
            refine cat _ _ s4 t2 (by omega) fun z5 s5 => ?_
            refine cat _ 30 s5 (by decide) (by omega) fun z6 s6 => ?_
            exact fin _ _ (by omega) (by omega) (by omega)
          by_cases c10 : i = 10
          · subst c10
            simp only [RR, show ¬ (10 : Int) = 4 by omega, show ¬ (10 : Int) = 5 by omega, show ¬ (10 : Int) = 6 by omega, show ¬ (10 : Int) = 7 by omega, show ¬ (10 : Int) = 8 by omega, show ¬ (10 : Int) = 9 by omega]
            by_cases cx : (0 : Int) < (xs.length : Int)
            · simp only [hN2.lenS, cx, sub1, RR]
              refine nx hb (by omega) (by omega) (by omega) fun j j0 j1 => ?_
              obtain ⟨p, hp⟩ := hN2.at (j := j.toNat) (by omega)
              rw [show ((j.toNat : Nat) : Int) = j by omega] at hp
              have hq30 : (xs[j.toNat]'(by omega)).size ≤ 30 := hN2.small _ (List.getElem_mem _)
              simp only [hp, RR, true_and]
              refine cat 30 _ (by decide) hq30 (by omega) fun z1 s1 => ?_
              refine cat _ 30 s1 (by decide) (by omega) fun z2 s2 => ?_
              refine rc hN2 hxa (by omega) fun y1 w1 t1 a1 b1 => ?_
              simp only [hp, RR, and_true, true_and]
              refine cat _ _ s2 t1 (by omega) fun z3 s3 => ?_
              refine cat _ 30 s3 (by decide) (by omega) fun z4 s4 => ?_
              exact fin _ _ (by omega) (by omega) (by omega)
            · simp only [hN2.lenS, cx, RR]
              exact hk3 _ _ ⟨_, rfl, rfl, by omega, by omega⟩
          simp only [c4, c5, c6, c7, c8, c9, c10, RR]
          exact hk3 _ _ ⟨_, rfl, rfl, by omega, by omega⟩
end
end Go.Proofs.Ytnmggfcjbpnekaa.E
