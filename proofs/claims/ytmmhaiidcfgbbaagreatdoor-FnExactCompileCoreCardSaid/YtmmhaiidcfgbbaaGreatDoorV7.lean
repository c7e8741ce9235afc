/- Cores that are made to code: the reference's way. -/
import Derived.Test.YtmmhaiidcfgbbaaGreatDoorV6
set_option linter.unusedSectionVars false
set_option linter.unusedSimpArgs false
set_option linter.unusedVariables false
namespace Go.Proofs.YtmmhaiidcfgbbaaGreatDoor.E
open Go Go.RowKit
set_option maxRecDepth 100000
variable [L : Lam]
variable {σ τ τ' : AH} {R : AEnd → AH → Prop}
theorem push_row {sz : Nat} {a x : AV} {es : List (List AV)} {z row : List AV} {k : AV → AH → Prop} (h : Buf τ sz a es) (he : afillS sz [z] [(0, x)] = some [row]) (hs : sz ≤ 1000) (hr : row.length = sz) (ho : ∀ y, y ∈ row → y.one = true) (hn : es.length + 1 ≤ 4294967296)
    (hk : ∀ a' τ', Buf τ' sz a' (es ++ [row]) → Kp (famL a) τ τ' → (∀ ψ, ψ ∈ famL a' → ψ ∈ famL a ∨ τ ψ = none) → k a' τ') : bsl sz z 1 [(0, x)] τ fun v τ => E.app sz a v τ k := by
  refine bsl1 he (by omega) fun ψ hψ => ?_
  have hs1 : AH.Sub τ (τ.set ψ ⟨0, sz, [row]⟩) := .set (.refl τ) _ hψ
  refine buf_app ((Kp.of_sub (F := []) hs1).buf h fun _ _ c => by cases c) ael1 (by intro c hc; obtain rfl := List.mem_singleton.1 hc; exact hr) (by intro c hc; obtain rfl := List.mem_singleton.1 hc; exact ho) (by simpa using hn) fun a' τ' hB hK hfam => hk a' τ' hB (fun χ hχ hn => ?_) fun χ hχ => ?_
  · rw [hK χ hχ (by rw [AH.set_ne' (by rintro rfl; exact hn hψ)]; exact hn), AH.set_ne' (by rintro rfl; exact hn hψ)]
  · rcases hfam χ hχ with c | c
    · exact .inl c
    · exact .inr (hs1.none c)
theorem c_spec_l4Kids {cs : List Cor} {x : Nat} (hl : cs.length ≤ 1000000) (h : R (.ret (roK (kidsC cs x))) σ) : acall TP fn_spec_l4Kids [roC cs, iv (x : Int)] σ R := by
  refine s_spec_l4Kids_ok ?_
  unfold s_spec_l4Kids
  refine bsl0 ?_
  refine lp_rel cs.length (fun i y τ => ∃ u, y = (roC cs, iv (x : Int), u, iv (i : Int), ()) ∧ Buf τ 1 u (innK (kidsTo cs i x)) ∧ AH.Sub σ τ ∧ ∀ ψ, ψ ∈ famL u → σ ψ = none) ⟨.emp, rfl, .inl ⟨.inr rfl, rfl⟩, .refl σ, fun ψ c => by cases c⟩ ?_
  rintro i _ τ hi ⟨u, rfl, hB, hs, hf⟩ R' hR'
  simp only [len_ro, RR]
  by_cases hlt : i < cs.length
  · have g : (i : Int) < (cs.length : Int) := by omega
    have l1 : ∀ τ, lod (.rop (encCor (corAt cs i)) 1) τ = some (iv (corAt cs i).parent) := fun _ => rfl
    simp only [g, idx_ro hlt len_encCor, corAt_eq hlt, l1, jn, RR]
    by_cases c : (corAt cs i).parent = (x : Int)
    · simp only [c, RR]
      refine push_row (row := [iv (i : Int)]) hB rfl (by omega) rfl (fun y hy => by obtain rfl := List.mem_singleton.1 hy; rfl) (by have := kidsTo_le cs i x; simp; omega) fun u' τ' hB' hK hfam => ?_
      simp only [ibin_up hlt (by omega), RR]
      refine hR' _ _ _ hlt (.refl _) ⟨u', rfl, ?_, hK.sub hs hf, fun ψ hψ => (hfam ψ hψ).elim (hf ψ) fun d => hs.none d⟩
      rw [kidsTo_succ, if_pos c]
      simpa [innK] using hB'
    · simp only [c, ibin_up hlt (by omega), RR]
      refine hR' _ _ _ hlt (.refl _) ⟨u, rfl, ?_, hs, hf⟩
      rw [kidsTo_succ, if_neg c, List.append_nil]; exact hB
  · have g : ¬ (i : Int) < (cs.length : Int) := by omega
    obtain rfl : i = cs.length := by omega
    simp only [g, RR]
    exact aret_freeze hs (fz_row hB hf rfl (by intro c hc; obtain ⟨o, _, rfl⟩ := List.mem_map.1 hc; rfl) fun _ _ _ _ => .same _) h
theorem bld_dat {a : AV} {es : List (List AV)} {k : Int} {ds : List Dat} (h : Buf τ 4 a es) : bld [(.val (.int .i64 0)), (.val (.int .i64 0)), (.val (.int .i64 0)), (.val (.int .i64 0)), (.val (.int .i64 0)), (.val (.string ⟨#[]⟩)), (.val (.slice none 0 0))] [(0, 1), (1, 1), (2, 1), (3, 1), (4, 1), (5, 1), (6, 1)] [(0, iv k), (6, a)] = some (.agg (encOpA (ocD k ds) a)) := by
  rcases h with ⟨rfl | rfl, _⟩ | ⟨φ, st, rfl, _⟩ <;> rfl
theorem visK_at {cs : List Cor} {f j : Nat} {l : List Nat} (h : j < l.length) : visK cs f l = visK cs f (l.take j) + ((vis cs f l[j]).length + visK cs f (l.drop (j + 1))) := by
  have h1 := visK_app cs f (l.take j) (l.drop j)
  rw [List.take_append_drop] at h1
  rw [h1, List.drop_eq_getElem_cons h]
  simp only [visK, List.map_cons, List.sum_cons]
section
variable {φm : Nat} {B : St} {cs : List Cor}
def MakeC (cs : List Cor) (f : Nat) (σ : AH) (φm : Nat) : Prop := ∀ (x i : Nat) (e : Bool) (B : St) (τ : AH) (R : AEnd → AH → Prop), x < cs.length → cs.length ≤ f + x → i < B.length → CSt [roC cs] σ τ φm B → totS B + 4 * (vis cs f x).length ≤ 1000 →
  (∀ τ', CSt [roC cs] σ τ' φm (mkC cs f x i e B) → R (.ret (.tup [])) τ') → acall TP fn_spec_l9Make [.ptr φm 0 0 0, iv (x : Int), iv (i : Int), bv e] τ R
theorem lt_len {B : St} {N : Nat} (h : totS B ≤ N) (i : Nat) : lenS' B i ≤ N := Nat.le_trans (lenS_tot B i) h
set_option maxHeartbeats 400000 in
theorem c_spec_l9If {f : Nat} (hw : WfC cs) (hC : MakeC cs f σ φm) {k1 k2 k3 i : Nat} {e : Bool} (hx : ∀ k, k ∈ [k1, k2, k3] → k < cs.length ∧ cs.length ≤ f + k) (h : CSt [roC cs] σ τ φm B) (hi : i < B.length) (ht : totS B + 4 * (1 + ((vis cs f k1).length + ((vis cs f k2).length + (vis cs f k3).length))) ≤ 1000) {B1 B2 B3 B4 B5 D : St}
    (d1 : B1 = mkC cs f k1 i false B) (d2 : B2 = mkC cs f k2 i e (putS B1 i (oc0 6))) (d3 : B3 = if e then B2 else putS B2 i (oc0 5)) (d4 : B4 = setS B3 i (lenS' B1 i) (lenS' B3 i : Int)) (d5 : B5 = mkC cs f k3 i e B4) (hD : D = if e then B5 else setS B5 i (lenS' B2 i) (lenS' B5 i : Int))
    (h1 : ∀ τ', CSt [roC cs] σ τ' φm D → R (.ret (.tup [])) τ') : acall TP fn_spec_l9If [.ptr φm 0 0 0, roK [k1, k2, k3], iv (i : Int), bv e] τ R := by
  have l1 : leS B B1 := by rw [d1]; exact mkC_le ..
  have l2 : leS (putS B1 i (oc0 6)) B2 := by rw [d2]; exact mkC_le ..
  have l3 : leS B2 B3 := by rw [d3]; cases e <;> first | exact leS_put _ _ _ | exact leS.refl _
  have l4 : leS B3 B4 := by rw [d4]; exact leS_set ..
  have l5 : leS B4 B5 := by rw [d5]; exact mkC_le ..
  have i1 : i < B1.length := Nat.lt_of_lt_of_le hi l1.1
  have i1' : i < (putS B1 i (oc0 6)).length := by rw [len_put]; exact i1
  have i2 : i < B2.length := Nat.lt_of_lt_of_le i1' l2.1
  have i3 : i < B3.length := Nat.lt_of_lt_of_le i2 l3.1
  have i4 : i < B4.length := Nat.lt_of_lt_of_le i3 l4.1
  have i5 : i < B5.length := Nat.lt_of_lt_of_le i4 l5.1
  have t1 := mkC_tot hw f k1 i false B (hx k1 (by simp)).1 (hx k1 (by simp)).2
  rw [← d1] at t1
  have t2 := tot_put B1 i (oc0 6)
  have t3 := mkC_tot hw f k2 i e (putS B1 i (oc0 6)) (hx k2 (by simp)).1 (hx k2 (by simp)).2
  rw [← d2] at t3
  have t4 : totS B3 ≤ totS B2 + 1 := by rw [d3]; cases e <;> first | exact tot_put _ _ _ | exact Nat.le_succ _
  have t5 : totS B4 ≤ totS B3 := by rw [d4]; exact tot_set ..
  have n1 : lenS' B1 i < lenS' B3 i := by
    have := l2.2 i i1'
    rw [lenS_put, if_pos ⟨rfl, i1⟩] at this
    have := l3.2 i i2
    omega
  have x0 : ∀ τ, idx 1 (roK [k1, k2, k3]) (.val (.int .i64 0)) τ = some (.rop [iv (k1 : Int)] 0) := fun τ => idx_K (j := 0) (by simp)
  have x1 : ∀ τ, idx 1 (roK [k1, k2, k3]) (.val (.int .i64 1)) τ = some (.rop [iv (k2 : Int)] 0) := fun τ => idx_K (j := 1) (by simp)
  have x2 : ∀ τ, idx 1 (roK [k1, k2, k3]) (.val (.int .i64 2)) τ = some (.rop [iv (k3 : Int)] 0) := fun τ => idx_K (j := 2) (by simp)
  have eb6 : bld [(.val (.int .i64 0)), (.val (.int .i64 0)), (.val (.int .i64 0)), (.val (.int .i64 0)), (.val (.int .i64 0)), (.val (.string ⟨#[]⟩)), (.val (.slice none 0 0))] [(0, 1), (1, 1), (2, 1), (3, 1), (4, 1), (5, 1), (6, 1)] [(0, (.val (.int .i64 6)))] = some (.agg [iv 6, iv 0, iv 0, iv 0, iv 0, str ⟨#[]⟩, nilS]) := rfl
  have eb5 : bld [(.val (.int .i64 0)), (.val (.int .i64 0)), (.val (.int .i64 0)), (.val (.int .i64 0)), (.val (.int .i64 0)), (.val (.string ⟨#[]⟩)), (.val (.slice none 0 0))] [(0, 1), (1, 1), (2, 1), (3, 1), (4, 1), (5, 1), (6, 1)] [(0, (.val (.int .i64 5)))] = some (.agg [iv 5, iv 0, iv 0, iv 0, iv 0, str ⟨#[]⟩, nilS]) := rfl
  refine s_spec_l9If_ok ?_
  unfold s_spec_l9If
  simp only [x0, lod_1, RR]
  refine hC k1 i false B τ _ (hx k1 (by simp)).1 (hx k1 (by simp)).2 hi h (by omega) fun τ1 S1 => ?_
  rw [← d1] at S1
  simp only [eb6, RR]
  refine nil_op (oc0 6) rfl rfl ?_
  refine c_spec_l9Put rfl S1 i1 (lt_len (N := 1000000) (by omega) i) fun τ2 S2 => ?_
  simp only [x1, lod_1, RR]
  refine hC k2 i e _ τ2 _ (hx k2 (by simp)).1 (hx k2 (by simp)).2 i1' S2 (by omega) fun τ3 S3 => ?_
  rw [← d2] at S3
  simp only [jn, RR]
  have fin : ∀ (τ : AH) (u : Int), CSt [roC cs] σ τ φm B3 → (e = false → u = (lenS' B2 i : Int)) → (e = true → u = -1) →
      og (anil (.ptr φm 0 0 0)) fun v34 => og (fldA 1 v34) fun v35 => og (lod v35 τ) fun v36 => og (idx 2 v36 (iv (i : Int)) τ) fun v38 => og (fldA 1 v38) fun v39 => og (lod v39 τ) fun v40 =>
      og (anil (.ptr φm 0 0 0)) fun v43 => og (fldA 1 v43) fun v44 => og (lod v44 τ) fun v45 => og (idx 2 v45 (iv (i : Int)) τ) fun v47 => og (fldA 1 v47) fun v48 => og (lod v48 τ) fun v49 => og (lenS v49) fun v50 =>
      og (idx 7 v40 (iv (lenS' B1 i : Int)) τ) fun v51 => og (fldA 1 v51) fun v52 => sto 1 v52 v50 τ fun σ =>
      (True) ∧
      og (idx 1 (roK [k1, k2, k3]) (.val (.int .i64 2)) σ) fun v55 => og (lod v55 σ) fun v56 =>
      acall TP fn_spec_l9Make [.ptr φm 0 0 0, v56, iv (i : Int), bv e] σ (onr (fun _ σ =>
      og (ibin .geq (iv u) (.val (.int .i64 0))) fun v61 =>
      apick v61 (
        og (anil (.ptr φm 0 0 0)) fun v63 => og (fldA 1 v63) fun v64 => og (lod v64 σ) fun v65 => og (idx 2 v65 (iv (i : Int)) σ) fun v67 => og (fldA 1 v67) fun v68 => og (lod v68 σ) fun v69 =>
        og (anil (.ptr φm 0 0 0)) fun v72 => og (fldA 1 v72) fun v73 => og (lod v73 σ) fun v74 => og (idx 2 v74 (iv (i : Int)) σ) fun v76 => og (fldA 1 v76) fun v77 => og (lod v77 σ) fun v78 => og (lenS v78) fun v79 =>
        og (idx 7 v69 (iv u) σ) fun v80 => og (fldA 1 v80) fun v81 => sto 1 v81 v79 σ fun σ =>
        (True) ∧
        aret (.tup []) σ R) (
        aret (.tup []) σ R)) (fun v σ => apan v σ R)) := by
    intro τ u S hu hu2
    obtain ⟨v, φ, st, w, e1, e2, e3, e4, _, e6⟩ := S.open i3
    replace e1 : lod (.ptr φm 0 0 1) τ = some v := e1
    obtain ⟨φw, stw, g1, g2⟩ := e6 (lenS' B1 i) n1
    simp only [e1, e2, e3, e4, g1, RR]
    refine g2 _ _ fun τ4 S4 => ?_
    rw [← d4] at S4
    simp only [x2, lod_1, RR, true_and]
    refine hC k3 i e B4 τ4 _ (hx k3 (by simp)).1 (hx k3 (by simp)).2 i4 S4 (by omega) fun τ5 S5 => ?_
    rw [← d5] at S5
    cases e with
    | true =>
      rw [if_pos rfl] at hD
      obtain rfl := hu2 rfl
      have g : ¬ (0 : Int) ≤ -1 := by omega
      simp only [g, RR]
      rw [hD] at h1
      exact ret_here (h1 τ5 S5)
    | false =>
      rw [if_neg (by decide)] at hD d3
      obtain rfl := hu rfl
      have n2 : lenS' B2 i < lenS' B5 i := by
        have a1 := l4.2 i i3
        have a2 := l5.2 i i4
        have a3 : lenS' B3 i = lenS' B2 i + 1 := by rw [d3, lenS_put, if_pos ⟨rfl, i2⟩]
        omega
      have g : (0 : Int) ≤ (lenS' B2 i : Int) := by omega
      obtain ⟨v', φ', st', w', q1, q2, q3, q4, _, q6⟩ := S5.open i5
      replace q1 : lod (.ptr φm 0 0 1) τ5 = some v' := q1
      obtain ⟨φw', stw', g1', g2'⟩ := q6 (lenS' B2 i) n2
      simp only [g, q1, q2, q3, q4, g1', RR]
      refine g2' _ _ fun τ6 S6 => ?_
      rw [← hD] at S6
      exact ret_here (h1 τ6 S6)
  cases e with
  | true =>
    rw [if_pos rfl] at d3
    subst d3
    have hf := fin τ3 (-1) S3 (fun c => by cases c) fun _ => rfl
    simp only [RR] at hf ⊢
    exact hf
  | false =>
    rw [if_neg (by decide)] at d3
    simp only [eb5, RR]
    refine nil_op (oc0 5) rfl rfl ?_
    refine c_spec_l9Put rfl S3 i2 (lt_len (N := 1000000) (by omega) i) fun τ4 S4 => ?_
    rw [← d3] at S4
    have hf := fin τ4 _ S4 (fun _ => rfl) fun c => by cases c
    simp only [RR] at hf ⊢
    exact hf
set_option maxHeartbeats 1000000 in
theorem make_all (hw : WfC cs) (hbd : ∀ i, (corAt cs i).data.length ≤ 1048576) : ∀ f, MakeC cs f σ φm := by
  intro f
  induction f with
  | zero => intro x i e B τ R hx hf; omega
  | succ f ih =>
    intro x i e B τ R hx hfx hi h ht h1
    have hkd : ∀ k, k ∈ kidsC cs x → k < cs.length ∧ cs.length ≤ f + k := fun k hk => by have := hw.kid hk; omega
    have hkk := hw.kids x hx
    have hkind := hw.kind x hx
    have htl : ∀ k, k ∈ kidsC cs x → ∀ i e B, totS (mkC cs f k i e B) + 1 ≤ totS B + 4 * (vis cs f k).length := fun k hk i e B => mkC_tot hw f k i e B (hkd k hk).1 (hkd k hk).2
    rw [vis_len] at ht
    have hbx := hbd x
    have ex : ∀ τ, idx 6 (roC cs) (iv (x : Int)) τ = some (.rop (encCor (corAt cs x)) 0) := fun τ => by rw [← corAt_eq hx]; exact idx_ro hx len_encCor
    have p0 : ∀ {τ} {B}, CSt [roC cs] σ τ φm B → lod (.ptr φm 0 0 0) τ = some (roC cs) := fun h => h.fix rfl
    refine s_spec_l9Make_ok ?_
    unfold s_spec_l9Make
    simp only [p0 h, ex, RR]
    refine c_spec_l4Kids (by have := hw.len; omega) ?_
    have l0 : ∀ τ, lod (.rop (encCor (corAt cs x)) 0) τ = some (iv (corAt cs x).kind) := fun _ => rfl
    have l2 : ∀ τ, lod (.rop (encCor (corAt cs x)) 2) τ = some (iv (corAt cs x).a) := fun _ => rfl
    have l3 : ∀ τ, lod (.rop (encCor (corAt cs x)) 3) τ = some (iv (corAt cs x).b) := fun _ => rfl
    have l4 : ∀ τ, lod (.rop (encCor (corAt cs x)) 4) τ = some (str (corAt cs x).name) := fun _ => rfl
    have l5 : ∀ τ, lod (.rop (encCor (corAt cs x)) 5) τ = some (roD (corAt cs x).data) := fun _ => rfl
    simp only [l0, l2, l3, l4, l5, jn, RR]
    rw [mkC] at h1
    dsimp only at h1
    generalize hks : kidsC cs x = ks at *
    generalize hc : corAt cs x = c at *
    have one : ∀ (o : OpD) (τ : AH), CSt [roC cs] σ τ φm B → (∀ τ', CSt [roC cs] σ τ' φm (endS (putS B i o) i e) → R (.ret (.tup [])) τ') →
        acall TP fn_spec_l9Put [.ptr φm 0 0 0, iv (i : Int), .agg (encOp o)] τ (onr (fun _ σ =>
        acall TP fn_spec_l9End [.ptr φm 0 0 0, iv (i : Int), bv e] σ (onr (fun _ σ =>
        aret (.tup []) σ R) (fun v σ => apan v σ R))) (fun v σ => apan v σ R)) := by
      intro o τ h g1
      refine c_spec_l9Put rfl h hi (lt_len (N := 1000000) (by omega) i) fun τ' S => ?_
      simp only [RR]
      refine c_spec_l9End rfl S (by rw [len_put]; exact hi) (lt_len (N := 1000000) (by have := tot_put B i o; omega) i) fun τ2 S2 => ?_
      simp only [RR]
      exact ret_here (g1 τ2 S2)
    by_cases c1 : c.kind = 1
    · rw [if_pos c1] at h1
      simp only [c1, RR]
      refine bsl0 ?_
      refine buf_app (es := []) (.inl ⟨.inr rfl, rfl⟩) (xs := c.data.map encDat) rfl (by intro c hc; obtain ⟨x, _, rfl⟩ := List.mem_map.1 hc; rfl) (by intro c hc y hy; obtain ⟨x, _, rfl⟩ := List.mem_map.1 hc; exact one_encDat x y hy) (by simp; omega) fun a τ1 hB hK hfam => ?_
      rw [List.nil_append] at hB
      have hf1 : ∀ ψ, ψ ∈ famL a → τ ψ = none := fun ψ hψ => (hfam ψ hψ).elim (fun c => by cases c) id
      simp only [bld_dat (k := 1) (ds := c.data) hB, RR]
      exact frz_op (hK.sub (.refl τ) fun ψ c => by cases c) (fz_data hB hf1) (one _ τ h h1)
    rw [if_neg c1] at h1
    by_cases c2 : c.kind = 2
    · rw [if_pos c2] at h1
      have eb : bld [(.val (.int .i64 0)), (.val (.int .i64 0)), (.val (.int .i64 0)), (.val (.int .i64 0)), (.val (.int .i64 0)), (.val (.string ⟨#[]⟩)), (.val (.slice none 0 0))] [(0, 1), (1, 1), (2, 1), (3, 1), (4, 1), (5, 1), (6, 1)] [(0, (.val (.int .i64 2))), (1, iv c.a), (2, iv c.b)] = some (.agg (encOpA (ocAB 2 c.a c.b) nilS)) := rfl
      simp only [c2, eb, Int.reduceEq, RR, true_and]
      exact nil_op _ rfl rfl (one _ τ h h1)
    rw [if_neg c2] at h1
    by_cases c3 : c.kind = 3
    · rw [if_pos c3] at h1
      have eb : bld [(.val (.int .i64 0)), (.val (.int .i64 0)), (.val (.int .i64 0)), (.val (.int .i64 0)), (.val (.int .i64 0)), (.val (.string ⟨#[]⟩)), (.val (.slice none 0 0))] [(0, 1), (1, 1), (2, 1), (3, 1), (4, 1), (5, 1), (6, 1)] [(0, (.val (.int .i64 3))), (5, str c.name)] = some (.agg (encOpA (ocN 3 c.name) nilS)) := rfl
      simp only [c3, eb, Int.reduceEq, RR]
      exact nil_op _ rfl rfl (one _ τ h h1)
    rw [if_neg c3] at h1
    have z0 : ∀ {k : Nat} {r : List Nat} τ, idx 1 (roK (k :: r)) (.val (.int .i64 0)) τ = some (.rop [iv (k : Int)] 0) := fun {k r} τ => by have := idx_K (σ := τ) (ks := k :: r) (j := 0) (by simp); simpa using this
    by_cases c5 : c.kind = 5
    · rw [if_pos c5] at h1
      unfold hasK at hkk
      rw [if_neg (by omega), if_pos (.inl c5)] at hkk
      obtain ⟨k, rfl⟩ : ∃ k, ks = [k] := by
        match ks, hkk with
        | [k], _ => exact ⟨k, rfl⟩
      have ev : visK cs f [k] = (vis cs f k).length := by simp [visK]
      rw [ev] at ht
      have eb : bld [(.val (.int .i64 0)), (.val (.int .i64 0)), (.val (.int .i64 0)), (.val (.int .i64 0)), (.val (.int .i64 0)), (.val (.string ⟨#[]⟩)), (.val (.slice none 0 0))] [(0, 1), (1, 1), (2, 1), (3, 1), (4, 1), (5, 1), (6, 1)] [(0, (.val (.int .i64 4))), (1, iv (B.length : Int))] = some (.agg (encOpA (ocA 4 (B.length : Int)) nilS)) := rfl
      have eb2 : bld [(.val (.int .i64 0)), (.val (.slice none 0 0))] [(0, 1), (1, 1)] [(0, iv c.a)] = some (.agg [iv c.a, nilS]) := rfl
      obtain ⟨v, e1, e2⟩ := h.len
      have e1' := e1
      replace e1 : lod (.ptr φm 0 0 1) τ = some v := e1
      have hBl := len_tot B
      simp only [c5, e1, eb2, Int.reduceEq, RR]
      rw [lit1 (sz := 2) (row := [iv c.a, nilS]) rfl rfl (by omega)]
      simp only [RR]
      refine h.push (v := v) (a := c.a) e1' rfl (by omega) fun v' τ1 k1 => ?_
      refine ⟨trivial, k1 _ fun τ2 S2 g2 g3 => ?_⟩
      replace g2 : lod (.ptr φm 0 0 1) τ2 = some v' := g2
      have es : ibin .sub (iv ((B.length + 1 : Nat) : Int)) (.val (.int .i64 1)) = some (iv (B.length : Int)) := by
        rw [ibin_sub (by omega) (by omega)]
        congr 3; omega
      simp only [g2, g3, es, z0, lod_1, RR, true_and]
      have hk := hkd k (by simp)
      have hi1 : i < (B ++ [(c.a, [])]).length := by simp; omega
      have tp := tot_push B c.a
      refine ih k B.length true _ τ2 _ hk.1 hk.2 (by simp) S2 (by omega) fun τ3 S3 => ?_
      have t3 := htl k (by simp) B.length true (B ++ [(c.a, [])])
      have hi3 : i < (mkC cs f k B.length true (B ++ [(c.a, [])])).length := Nat.lt_of_lt_of_le hi1 (mkC_le ..).1
      simp only [eb, RR]
      refine nil_op _ rfl rfl (c_spec_l9Put rfl S3 hi3 (lt_len (N := 1000000) (by omega) i) fun τ4 S4 => ?_)
      simp only [RR]
      refine c_spec_l9End rfl S4 (by rw [len_put]; exact hi3) (lt_len (N := 1000000) (by have := tot_put (mkC cs f k B.length true (B ++ [(c.a, [])])) i (ocA 4 (B.length : Int)); omega) i) fun τ5 S5 => ?_
      simp only [List.getD_cons_zero] at h1
      rw [mkC_put cs f k B.length true (B ++ [(c.a, [])]) (by omega) hi1] at h1
      simp only [RR]
      exact ret_here (h1 τ5 S5)
    rw [if_neg c5] at h1
    by_cases c78 : c.kind = 7 ∨ c.kind = 8
    · rw [if_pos c78] at h1
      unfold hasK at hkk
      rw [if_neg (by omega), if_pos (by omega)] at hkk
      obtain ⟨k, rfl⟩ : ∃ k, ks = [k] := by
        match ks, hkk with
        | [k], _ => exact ⟨k, rfl⟩
      have ev : visK cs f [k] = (vis cs f k).length := by simp [visK]
      rw [ev] at ht
      simp only [List.getD_cons_zero] at h1
      have hk := hkd k (by simp)
      have t1 := htl k (by simp) i false B
      have hi1 : i < (mkC cs f k i false B).length := Nat.lt_of_lt_of_le hi (mkC_le ..).1
      have eb : bld [(.val (.int .i64 0)), (.val (.int .i64 0)), (.val (.int .i64 0)), (.val (.int .i64 0)), (.val (.int .i64 0)), (.val (.string ⟨#[]⟩)), (.val (.slice none 0 0))] [(0, 1), (1, 1), (2, 1), (3, 1), (4, 1), (5, 1), (6, 1)] [(0, iv (c.kind - 7 + 8)), (5, str c.name)] = some (.agg (encOpA (ocN (c.kind - 7 + 8) c.name) nilS)) := rfl
      have go : acall TP fn_spec_l9Make [.ptr φm 0 0 0, iv (k : Int), iv (i : Int), bv false] τ (onr (fun _ σ =>
          acall TP fn_spec_l9Put [.ptr φm 0 0 0, iv (i : Int), .agg (encOpA (ocN (c.kind - 7 + 8) c.name) nilS)] σ (onr (fun _ σ =>
          acall TP fn_spec_l9End [.ptr φm 0 0 0, iv (i : Int), bv e] σ (onr (fun _ σ =>
          aret (.tup []) σ R) (fun v σ => apan v σ R))) (fun v σ => apan v σ R))) (fun v σ => apan v σ R)) := by
        refine ih k i false B τ _ hk.1 hk.2 hi h (by omega) fun τ1 S1 => ?_
        simp only [RR]
        refine nil_op _ rfl rfl (c_spec_l9Put rfl S1 hi1 (lt_len (N := 1000000) (by omega) i) fun τ2 S2 => ?_)
        simp only [RR]
        refine c_spec_l9End rfl S2 (by rw [len_put]; exact hi1) (lt_len (N := 1000000) (by have := tot_put (mkC cs f k i false B) i (ocN (c.kind - 7 + 8) c.name); omega) i) fun τ3 S3 => ?_
        simp only [RR]
        exact ret_here (h1 τ3 S3)
      rcases c78 with c7 | c8
      · simp only [c7, z0, lod_1, Int.reduceEq, Int.reduceSub, Int.reduceAdd, RR] at eb go ⊢
        simp only [eb, RR]
        exact go
      · simp only [c8, z0, lod_1, Int.reduceEq, Int.reduceSub, Int.reduceAdd, RR] at eb go ⊢
        simp only [eb, RR]
        exact go
    rw [if_neg c78] at h1
    have c7 : ¬ c.kind = 7 := fun k => c78 (.inl k)
    have c8 : ¬ c.kind = 8 := fun k => c78 (.inr k)
    by_cases c4 : c.kind = 4
    · rw [if_pos c4] at h1
      unfold hasK at hkk
      rw [if_pos c4] at hkk
      obtain ⟨k1, k2, k3, rfl⟩ : ∃ k1 k2 k3, ks = [k1, k2, k3] := by
        match ks, hkk with
        | [k1, k2, k3], _ => exact ⟨k1, k2, k3, rfl⟩
      simp only [List.getD_cons_zero, List.getD_cons_succ] at h1
      have ev : visK cs f [k1, k2, k3] = (vis cs f k1).length + ((vis cs f k2).length + (vis cs f k3).length) := by simp [visK]
      rw [ev] at ht
      simp only [c4, Int.reduceEq, RR]
      refine c_spec_l9If hw ih hkd h hi ht rfl rfl rfl rfl rfl rfl fun τ' S => ?_
      simp only [RR]
      exact ret_here (h1 τ' S)
    rw [if_neg c4] at h1
    have hkl : ks.length ≤ 160 := by
      have := hw.len.2
      rw [← hks]
      unfold kidsC
      exact Nat.le_trans (List.length_filter_le _ _) (by simpa using this)
    by_cases c6 : c.kind = 6
    · rw [if_pos c6] at h1
      unfold hasK at hkk
      rw [if_neg c4, if_neg (by omega), if_pos c6] at hkk
      have hne : ks ≠ [] := by intro c; rw [c] at hkk; simp at hkk
      have hsp := getD_last hne
      have hmem : ∀ k, k ∈ ks.dropLast → k ∈ ks := fun k hm => by rw [← hsp]; exact List.mem_append_left _ hm
      have hlm : ks.getLastD 0 ∈ ks := by
        have : ks.getLastD 0 ∈ ks.dropLast ++ [ks.getLastD 0] := List.mem_append_right _ (List.mem_singleton.2 rfl)
        rwa [hsp] at this
      have hdl : ks.dropLast.length = ks.length - 1 := List.length_dropLast
      have eb : bld [(.val (.int .i64 0)), (.val (.int .i64 0)), (.val (.int .i64 0)), (.val (.int .i64 0)), (.val (.int .i64 0)), (.val (.string ⟨#[]⟩)), (.val (.slice none 0 0))] [(0, 1), (1, 1), (2, 1), (3, 1), (4, 1), (5, 1), (6, 1)] [(0, (.val (.int .i64 7)))] = some (.agg (encOpA (oc0 7) nilS)) := rfl
      have evs : visK cs f ks = visK cs f ks.dropLast + (vis cs f (ks.getLastD 0)).length := by
        conv => lhs; rw [← hsp]
        rw [visK_app]; simp [visK]
      have hm : ∀ l : List Nat, (∀ k, k ∈ l → k ∈ ks) → ∀ B, totS (manyS (fun k B => mkC cs f k i false B) (fun B => putS B i (oc0 7)) l B) ≤ totS B + 4 * visK cs f l := by
        intro l
        induction l with
        | nil => intro _ B; simp [manyS, visK]
        | cons k r ih2 =>
          intro hl B
          have g1 := htl k (hl k (by simp)) i false B
          have g2 := tot_put (mkC cs f k i false B) i (oc0 7)
          have g3 := ih2 (fun k hk => hl k (by simp [hk])) (putS (mkC cs f k i false B) i (oc0 7))
          have e : visK cs f (k :: r) = (vis cs f k).length + visK cs f r := by simp [visK]
          rw [manyS, e]
          omega
      simp only [c6, Int.reduceEq, RR]
      refine lp_for ks.dropLast.length (fun j => (.ptr φm 0 0 0, iv (i : Int), bv e, roK ks, iv (j : Int), ())) (fun j τ' => CSt [roC cs] σ τ' φm (manyS (fun k B => mkC cs f k i false B) (fun B => putS B i (oc0 7)) (ks.dropLast.take j) B)) rfl h ?_
      rintro j τ1 hj S R' hR'
      have hall : ∀ l B, leS B (manyS (fun k B => mkC cs f k i false B) (fun B => putS B i (oc0 7)) l B) := leS_many (fun k B => mkC_le ..) (fun B => leS_put ..)
      have hij : i < (manyS (fun k B => mkC cs f k i false B) (fun B => putS B i (oc0 7)) (ks.dropLast.take j) B).length := Nat.lt_of_lt_of_le hi (hall _ _).1
      have htj := hm (ks.dropLast.take j) (fun k hk => hmem k (List.mem_of_mem_take hk)) B
      have ea : ibin .add (iv (j : Int)) (.val (.int .i64 1)) = some (iv ((j : Int) + 1)) := ibin_add (by omega) (by omega)
      by_cases hlt : j < ks.dropLast.length
      · have g : (j : Int) + 1 < (ks.length : Int) := by omega
        have hjk : j < ks.length := by omega
        have hge : ks.getD j 0 = ks.dropLast.getD j 0 := by
          conv => lhs; rw [← hsp]
          simp [List.getD, List.getElem?_append_left hlt]
        have hm0 : ks.dropLast.getD j 0 ∈ ks := hmem _ (by rw [getD_get hlt]; exact List.getElem_mem hlt)
        have evj : visK cs f ks.dropLast = visK cs f (ks.dropLast.take j) + ((vis cs f (ks.dropLast.getD j 0)).length + visK cs f (ks.dropLast.drop (j + 1))) := by
          rw [getD_get hlt]; exact visK_at hlt
        simp only [ea, lenK, g, idx_K hjk, hge, lod_1, RR]
        refine ih _ i false _ τ1 _ (hkd _ hm0).1 (hkd _ hm0).2 hij S (by omega) fun τ2 S2 => ?_
        have hi1 : i < (mkC cs f (ks.dropLast.getD j 0) i false (manyS (fun k B => mkC cs f k i false B) (fun B => putS B i (oc0 7)) (ks.dropLast.take j) B)).length := Nat.lt_of_lt_of_le hij (mkC_le ..).1
        have t2 := htl _ hm0 i false (manyS (fun k B => mkC cs f k i false B) (fun B => putS B i (oc0 7)) (ks.dropLast.take j) B)
        simp only [eb, RR]
        refine nil_op _ rfl rfl (c_spec_l9Put rfl S2 hi1 (lt_len (N := 1000000) (by omega) i) fun τ3 S3 => ?_)
        simp only [ea, RR]
        have e1 : manyS (fun k B => mkC cs f k i false B) (fun B => putS B i (oc0 7)) (ks.dropLast.take (j + 1)) B = putS (mkC cs f (ks.dropLast.getD j 0) i false (manyS (fun k B => mkC cs f k i false B) (fun B => putS B i (oc0 7)) (ks.dropLast.take j) B)) i (oc0 7) := by
          rw [List.take_succ_eq_append_getElem hlt, many_app, getD_get hlt]
          rfl
        exact hR' hlt _ _ (.refl _) (by rw [e1]; exact S3)
      · have g : ¬ (j : Int) + 1 < (ks.length : Int) := by omega
        obtain rfl : j = ks.dropLast.length := by omega
        rw [List.take_length] at S hij htj
        have hlast : ks.getD (ks.length - 1) 0 = ks.getLastD 0 := by
          rw [List.getLastD_eq_getLast?, List.getLast?_eq_getElem?]; rfl
        have es : ibin .sub (iv (ks.length : Int)) (.val (.int .i64 1)) = some (iv ((ks.length : Int) - 1)) := ibin_sub (by omega) (by omega)
        have ix : idx 1 (roK ks) (iv ((ks.length : Int) - 1)) τ1 = some (.rop [iv ((ks.getLastD 0 : Nat) : Int)] 0) := by
          have := idx_K (σ := τ1) (ks := ks) (j := ks.length - 1) (by omega)
          rw [hlast, show ((ks.length - 1 : Nat) : Int) = (ks.length : Int) - 1 by omega] at this
          exact this
        simp only [ea, lenK, g, es, ix, lod_1, RR]
        refine ih _ i e _ τ1 _ (hkd _ hlm).1 (hkd _ hlm).2 hij S (by omega) fun τ2 S2 => ?_
        simp only [RR]
        exact ret_here (h1 τ2 S2)
    rw [if_neg c6] at h1
    have c9 : c.kind = 9 := by omega
    have hm : ∀ l : List Nat, (∀ k, k ∈ l → k ∈ ks) → ∀ B, totS (manyS (fun k B => mkC cs f k i false B) id l B) ≤ totS B + 4 * visK cs f l := by
      intro l
      induction l with
      | nil => intro _ B; simp [manyS, visK]
      | cons k r ih2 =>
        intro hl B
        have g1 := htl k (hl k (by simp)) i false B
        have g3 := ih2 (fun k hk => hl k (by simp [hk])) (mkC cs f k i false B)
        have e : visK cs f (k :: r) = (vis cs f k).length + visK cs f r := by simp [visK]
        rw [manyS, e]
        simp only [id]
        omega
    simp only [c9, Int.reduceEq, RR]
    refine lp_for ks.length (fun j => (.ptr φm 0 0 0, iv (i : Int), bv e, roK ks, iv (j : Int), ())) (fun j τ' => CSt [roC cs] σ τ' φm (manyS (fun k B => mkC cs f k i false B) id (ks.take j) B)) rfl h ?_
    rintro j τ1 hj S R' hR'
    have hall : ∀ l B, leS B (manyS (fun k B => mkC cs f k i false B) id l B) := leS_many (fun k B => mkC_le ..) (fun B => .refl B)
    have hij : i < (manyS (fun k B => mkC cs f k i false B) id (ks.take j) B).length := Nat.lt_of_lt_of_le hi (hall _ _).1
    have htj := hm (ks.take j) (fun k hk => List.mem_of_mem_take hk) B
    by_cases hlt : j < ks.length
    · have g : (j : Int) < (ks.length : Int) := by omega
      have hm0 : ks.getD j 0 ∈ ks := by rw [getD_get hlt]; exact List.getElem_mem hlt
      have evj : visK cs f ks = visK cs f (ks.take j) + ((vis cs f (ks.getD j 0)).length + visK cs f (ks.drop (j + 1))) := by
        rw [getD_get hlt]; exact visK_at hlt
      simp only [lenK, g, idx_K hlt, lod_1, RR]
      refine ih _ i false _ τ1 _ (hkd _ hm0).1 (hkd _ hm0).2 hij S (by omega) fun τ2 S2 => ?_
      simp only [ibin_up hlt (by omega), RR]
      have e1 : manyS (fun k B => mkC cs f k i false B) id (ks.take (j + 1)) B = mkC cs f (ks.getD j 0) i false (manyS (fun k B => mkC cs f k i false B) id (ks.take j) B) := by
        rw [List.take_succ_eq_append_getElem hlt, many_app, getD_get hlt]
        rfl
      exact hR' hlt _ _ (.refl _) (by rw [e1]; exact S2)
    · have g : ¬ (j : Int) < (ks.length : Int) := by omega
      obtain rfl : j = ks.length := by omega
      rw [List.take_length] at S hij htj
      have es : ibin .sub (iv (ks.length : Int)) (.val (.int .i64 1)) = some (iv ((ks.length : Int) - 1)) := ibin_sub (by omega) (by omega)
      have eb : ∀ q : Int, bld [(.val (.int .i64 0)), (.val (.int .i64 0)), (.val (.int .i64 0)), (.val (.int .i64 0)), (.val (.int .i64 0)), (.val (.string ⟨#[]⟩)), (.val (.slice none 0 0))] [(0, 1), (1, 1), (2, 1), (3, 1), (4, 1), (5, 1), (6, 1)] [(0, iv q), (1, iv ((ks.length : Int) - 1))] = some (.agg (encOpA (ocA q ((ks.length : Int) - 1)) nilS)) := fun q => rfl
      cases e with
      | true =>
        simp only [g, jn, lenK, es, eb, RR]
        refine nil_op _ rfl rfl (c_spec_l9Put rfl S hij (lt_len (N := 1000000) (by omega) i) fun τ3 S3 => ?_)
        simp only [RR]
        exact ret_here (h1 τ3 S3)
      | false =>
        simp only [g, jn, lenK, es, eb, RR]
        refine nil_op _ rfl rfl (c_spec_l9Put rfl S hij (lt_len (N := 1000000) (by omega) i) fun τ3 S3 => ?_)
        simp only [RR]
        exact ret_here (h1 τ3 S3)
/-- There is room, as a bool. -/
def fitB (B : St) : Bool := decide (B.length ≤ 60) && decide (∀ k, k < B.length → lenS' B k ≤ 200)
theorem fitB_iff {B : St} : fitB B = true ↔ fits B := by simp [fitB, fits]
set_option maxHeartbeats 1000000 in
theorem c_spec_l9Code (hw : WfC cs) (hbd : ∀ i, (corAt cs i).data.length ≤ 1048576) (h : R (.ret (.tup [roBk (toBk (fin0 cs)), bv (fitB (fin0 cs))])) σ) : acall TP fn_spec_l9Code [roC cs] σ R := by
  refine s_spec_l9Code_ok ?_
  unfold s_spec_l9Code
  have eb0 : bld [(.val (.int .i64 0)), (.val (.slice none 0 0))] [(0, 1), (1, 1)] [] = some (.agg [iv 0, nilS]) := rfl
  simp only [eb0, RR]
  refine bsl1 (row := [iv 0, nilS]) rfl (by omega) fun φb hφb => ?_
  have eb1 : bld [(.val (.slice none 0 0)), (.val (.slice none 0 0))] [(0, 1), (1, 1)] [(0, roC cs), (1, .own φb 0 0 1)] = some (.agg [roC cs, .own φb 0 0 1]) := rfl
  simp only [eb1, RR]
  intro φm hφm
  have hne : φm ≠ φb := by rintro rfl; rw [AH.set_same] at hφm; cases hφm
  refine sto_own (es := [[nilS, nilS]]) (cs := [roC cs, .own φb 0 0 1]) (by rw [AH.set_same]; rfl) (by simp) rfl rfl rfl (by intro y hy; simp only [List.mem_cons, List.not_mem_nil, or_false] at hy; rcases hy with rfl | rfl <;> rfl) ?_
  simp only [List.set_cons_zero, AH.set_set]
  rw [AH.set_none] at hφm
  have hS0 : CSt [roC cs] σ ((σ.set φb ⟨0, 2, [[iv 0, nilS]]⟩).set φm ⟨0, 2, [[roC cs, .own φb 0 0 1]]⟩) φm [(0, [])] := by
    refine ⟨⟨.own φb 0 0 1, [((0, []), nilS)], AH.set_same .., ⟨.inr ⟨φb, 0, rfl, by rw [AH.set_ne' (Ne.symm hne), AH.set_same]; rfl⟩, fun p hp => ?_, by simp [famL, l2F], fun ψ hψ => ?_, fun ψ F hF => ?_⟩, rfl, by simp [famL, l2F, hne]⟩, hφm.2⟩
    · obtain rfl := List.mem_singleton.1 hp; exact nilB
    · have : ψ = φb := by simpa [famL, l2F] using hψ
      subst this; exact hφb
    · rw [AH.set_ne' (by rintro rfl; rw [hφm.2] at hF; cases hF), AH.set_ne' (by rintro rfl; rw [hφb] at hF; cases hF)]; exact hF
  have hl := hw.len
  have hv := vis_bound hw cs.length 0 (by omega)
  refine make_all hw hbd cs.length 0 0 true [(0, [])] _ _ (by omega) (by omega) (by simp) hS0 (by simp [totS]; omega) fun τ2 S2 => ?_
  change CSt [roC cs] σ τ2 φm (fin0 cs) at S2
  have htf := mkC_tot hw cs.length 0 0 true [(0, [])] (by omega) (by omega)
  change totS (fin0 cs) + 1 ≤ _ at htf
  have htf2 : totS (fin0 cs) ≤ 1000 := by simp [totS] at htf ⊢; omega
  simp only [RR]
  refine ⟨_, σ, S2.sub, S2.fz (fs := [roC cs] ++ [roBk (toBk (fin0 cs))]) rfl, ?_⟩
  have e2 : ∀ τ, lod (.rop ([roC cs] ++ [roBk (toBk (fin0 cs))]) 1) τ = some (roBk (toBk (fin0 cs))) := fun _ => rfl
  have hBl := len_tot (fin0 cs)
  have htl : (toBk (fin0 cs)).length = (fin0 cs).length := by simp [toBk]
  simp only [e2, len_ro, RR]
  refine lp_read (fin0 cs).length (fun i => (AV.rop ([roC cs] ++ [roBk (toBk (fin0 cs))]) 0, bv (decide ((fin0 cs).length ≤ 60) && decide (∀ k, k < i → lenS' (fin0 cs) k ≤ 200)), iv (i : Int), ())) ?_ ?_
  · have : decide (((toBk (fin0 cs)).length : Int) ≤ 60) = decide ((fin0 cs).length ≤ 60) := by rw [htl]; congr 1; apply propext; omega
    rw [this]
    simp
    rfl
  intro i hi R' hR'
  simp only [e2, len_ro, htl, RR]
  by_cases hlt : i < (fin0 cs).length
  · have g : (i : Int) < ((fin0 cs).length : Int) := by omega
    have hlt2 : i < (toBk (fin0 cs)).length := by omega
    have eg : (toBk (fin0 cs))[i].ops.length = lenS' (fin0 cs) i := by simp [toBk, lenS', List.getD, hlt]
    have ix := fun τ => idx_ro (σ := τ) hlt2 len_encBlk
    have lo : ∀ τ, lod (.rop (encBlk (toBk (fin0 cs))[i]) 1) τ = some (roO (toBk (fin0 cs))[i].ops) := fun _ => rfl
    have hn := hR' hlt σ (.refl σ)
    have hd : decide (∀ k, k < i + 1 → lenS' (fin0 cs) k ≤ 200) = (decide (∀ k, k < i → lenS' (fin0 cs) k ≤ 200) && decide (((toBk (fin0 cs))[i].ops.length : Int) ≤ 200)) := by
      rw [eg, ← Bool.decide_and]
      congr 1
      apply propext
      constructor
      · intro h; exact ⟨fun k hk => h k (by omega), by have := h i (by omega); omega⟩
      · rintro ⟨h, h2⟩ k hk
        by_cases c : k < i
        · exact h k c
        · obtain rfl : k = i := by omega
          omega
    rw [hd, ← Bool.and_assoc] at hn
    generalize (decide ((fin0 cs).length ≤ 60) && decide (∀ k, k < i → lenS' (fin0 cs) k ≤ 200)) = b at hn ⊢
    cases b with
    | true =>
      rw [Bool.true_and] at hn
      simp only [g, e2, ix, lo, len_ro, ibin_up hlt (by omega), RR]
      exact hn
    | false =>
      rw [Bool.false_and] at hn
      simp only [g, ibin_up hlt (by omega), RR]
      exact hn
  · have g : ¬ (i : Int) < ((fin0 cs).length : Int) := by omega
    obtain rfl : i = (fin0 cs).length := by omega
    simp only [g, RR]
    exact ret_here h
end
end Go.Proofs.YtmmhaiidcfgbbaaGreatDoor.E
