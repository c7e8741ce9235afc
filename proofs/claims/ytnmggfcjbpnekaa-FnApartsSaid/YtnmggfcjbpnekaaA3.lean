/- Lines drawn; two lists of lines drawn. -/
import Derived.Test.YtnmggfcjbpnekaaA2
set_option linter.unusedSectionVars false
set_option linter.unusedSimpArgs false
set_option linter.unusedVariables false
namespace Go.Proofs.Ytnmggfcjbpnekaa.E
open Go Go.RowKit
set_option maxRecDepth 100000
section
variable [L : Lam]
variable {σ τ : AH} {R : AEnd → AH → Prop}
theorem bsl_own {φ : Nat} {S : Fam} {w : ByteArray} {k : AV → AH → Prop} (hk : ∀ χ, χ ≠ φ → τ χ = none → k (.own χ 0 0 1) ((τ.set χ ⟨0, 1, txs [w]⟩).set φ S)) : bsl 1 [str ⟨#[]⟩] 1 [(0, str w)] (τ.set φ S) k := by
  refine ⟨by decide, ?_⟩
  rw [if_neg (by decide)]
  intro χ hχ
  obtain ⟨hne, hχ'⟩ := AH.set_none.1 hχ
  rw [AH.set_comm _ _ _ hne.symm]
  exact hk χ hne hχ'
/-- A list of texts of one's own, that grows. -/
structure Lst (σ : AH) (φ : Nat) (τ : AH) (a : AV) (xs : List ByteArray) : Prop where
  buf : Buf τ 1 a (txs xs)
  far : ¬ Buf.fam a φ
  new : ∀ ψ, Buf.fam a ψ → σ ψ = none
theorem Lst.set {φ : Nat} {a : AV} {xs : List ByteArray} {S : Fam} (h : Lst σ φ τ a xs) : Lst σ φ (τ.set φ S) a xs :=
  ⟨h.buf.keep fun ψ hf => AH.set_ne' (by rintro rfl; exact h.far hf), h.far, h.new⟩
theorem Lst.keep {φ : Nat} {τ' : AH} {a : AV} {xs : List ByteArray} (h : Lst σ φ τ a xs) (k : Keep φ τ τ') : Lst σ φ τ' a xs := by
  refine ⟨?_, h.far, h.new⟩
  rcases h.buf with h' | ⟨ψ, st, rfl, hF⟩
  · exact .inl h'
  · exact .inr ⟨ψ, st, rfl, k ψ _ (by rintro rfl; exact h.far ⟨_, _, _, rfl⟩) hF⟩
theorem Lst.emp (σ τ : AH) (φ : Nat) : Lst σ φ τ .emp [] := ⟨.inl ⟨.inr rfl, rfl⟩, (by rintro ⟨_, _, _, e⟩; cases e), (by rintro ψ ⟨_, _, _, e⟩; cases e)⟩
theorem Lst.fz {φ : Nat} {a : AV} {xs : List ByteArray} {S : Fam} (h : Lst σ φ τ a xs) : Fz (σ.set φ S) (τ.set φ S) a (.ro (txs xs)) := by
  rcases h.set (S := S) |>.buf with ⟨e1, e⟩ | ⟨ψ, st, rfl, hF⟩
  · rw [e]
    rcases e1 with rfl | rfl
    · exact .nil
    · exact .emp
  · have hn : ψ ≠ φ := by rintro rfl; exact h.far ⟨_, _, _, rfl⟩
    refine .own hF (by rw [AH.set_ne' hn]; exact h.new ψ ⟨_, _, _, rfl⟩) rfl (by simp) rfl (fun i hi => ?_) (fun i j hi hj => ?_)
    · have hi' : i < xs.length := by simpa [txs] using hi
      simp [txs, hi']
    · simp only [Nat.zero_add]
      exact .same _
theorem txs_one (zs : List ByteArray) : ∀ c, c ∈ txs zs → c.length = 1 := by intro c hc; obtain ⟨x, _, rfl⟩ := List.mem_map.1 hc; rfl
theorem txs_one' (zs : List ByteArray) : ∀ c, c ∈ txs zs → ∀ y, y ∈ c → y.one = true := by intro c hc y hy; obtain ⟨x, _, rfl⟩ := List.mem_map.1 hc; rw [List.mem_singleton.1 hy]; rfl
/-- What comes of a list to which others are put. -/
theorem app_lst {φ u : Nat} {ns : List Int} {a x : AV} {xs ys : List ByteArray} {k : AV → AH → Prop} (hL : Lst σ φ τ a xs) (hK : Keep φ σ τ) (hl : xs.length + ys.length ≤ 100000) (hx : aelems (τ.set φ (Sr ns u)) x = some (txs ys))
    (hk : ∀ a' τ', Keep φ σ τ' → Lst σ φ τ' a' (xs ++ ys) → k a' (τ'.set φ (Sr ns u))) : app 1 a x (τ.set φ (Sr ns u)) k := by
  have hL1 : Lst σ φ (τ.set φ (Sr ns u)) a xs := hL.set
  generalize hT : τ.set φ (Sr ns u) = T at hL1 hx
  have hTφ : T φ = some (Sr ns u) := by rw [← hT, AH.set_same]
  have hKT : Keep φ σ T := fun ψ F hn hF => by rw [← hT, AH.set_ne' hn]; exact hK ψ F hn hF
  refine Buf.app hL1.buf hx (txs_one ys) (txs_one' ys) (by simp [txs]; omega) ?_
  intro a2 T2 d1 d2 d3 d4
  have e5 : T2 = T2.set φ (Sr ns u) := (AH.set_self (by rw [d2 φ hL1.far (by rw [hTφ]; simp), hTφ])).symm
  have hK2 : Keep φ σ T2 := fun ψ F hn hF => by
    have n2 : ¬ Buf.fam a ψ := fun hf => by rw [hL.new ψ hf] at hF; cases hF
    have e1 := hKT ψ F hn hF
    rw [d2 ψ n2 (by rw [e1]; simp)]; exact e1
  have far2 : ¬ Buf.fam a2 φ := fun hf => by
    rcases d3 φ hf with hf | hn
    · exact hL1.far hf
    · rw [hTφ] at hn; cases hn
  have new2 : ∀ ψ, Buf.fam a2 ψ → σ ψ = none := fun ψ hf => by
    rcases d3 ψ hf with hf | hn
    · exact hL.new ψ hf
    · cases e : σ ψ with
      | none => rfl
      | some F =>
        have hn' : ψ ≠ φ := by rintro rfl; exact far2 hf
        rw [hKT ψ F hn' e] at hn; cases hn
  rw [e5]
  exact hk a2 T2 hK2 ⟨by rw [show txs (xs ++ ys) = txs xs ++ txs ys by simp [txs]]; exact d1, far2, new2⟩
theorem snoc {φ u : Nat} {ns : List Int} {a : AV} {xs : List ByteArray} {w : ByteArray} {k : AV → AH → Prop} (hL : Lst σ φ τ a xs) (hK : Keep φ σ τ) (hl : xs.length < 1000)
    (hk : ∀ a' τ', Keep φ σ τ' → Lst σ φ τ' a' (xs ++ [w]) → k a' (τ'.set φ (Sr ns u))) :
    bsl 1 [str ⟨#[]⟩] 1 [(0, str w)] (τ.set φ (Sr ns u)) fun v15 σ => app 1 a v15 σ fun v16 σ => k v16 σ := by
  refine bsl_own fun χ hne hχ => ?_
  have K1 : Keep φ τ (τ.set χ ⟨0, 1, txs [w]⟩) := .set (.refl φ τ) hχ
  refine app_lst (hL.keep K1) (hK.trans K1) (by simp; omega) ?_ hk
  have : ((τ.set χ ⟨0, 1, txs [w]⟩).set φ (Sr ns u)) χ = some ⟨0, 1, txs [w]⟩ := by rw [AH.set_ne' hne, AH.set_same]
  simp only [aelems, this]
  simp [txs]
theorem nms_nil (φ : Nat) (τ : AH) : Nms φ τ nilT [] := ⟨.inl ⟨.inl rfl, rfl⟩, (by rintro ⟨_, _, _, e⟩; cases e), (by simp), (by simp)⟩
theorem Dw23 : Dw 2 = 130 ∧ Dw 3 = 400 ∧ Sz 2 = 1470 ∧ Sz 3 = 4710 := by decide
theorem c_spec_l8Line {ns : List Int} {φ u : Nat} {τ : AH} {K : AEnd → AH → Prop} (hb : Bts ns) (hu : u ≤ 900000)
    (h : ∀ (x : ByteArray) (u' : Nat), x.size ≤ 10000 → u ≤ u' → u' ≤ u + 500 → K (.ret (str x)) (τ.set φ (Sr ns u'))) : acall TP fn_spec_l8Line [.ptr φ 0 0 0] (τ.set φ (Sr ns u)) K := by
  obtain ⟨D2, D3, S2, S3⟩ := Dw23
  refine s_spec_l8Line_ok ?_
  unfold s_spec_l8Line
  refine nx hb (by omega) (by omega) (by omega) fun i i0 i1 => ?_
  simp only [RR]
  have lst : ∀ w : ByteArray, w.size ≤ 30 → ∀ χ, χ ≠ φ → Nms φ (τ.set χ ⟨0, 1, txs [w]⟩) (.own χ 0 0 1) [w] := fun w hw χ hne =>
    ⟨.inr ⟨χ, 0, rfl, AH.set_same ..⟩, (by rintro ⟨_, _, _, e⟩; cases e; exact hne rfl), fun x hx => by rw [List.mem_singleton.1 hx]; exact hw, by simp⟩
  by_cases c0 : i = 0
  · simp only [c0, RR]
    refine bsl_own (w := ⟨#[120]⟩) fun χ hne hχ => ?_
    refine src_all hb 2 φ _ _ _ [⟨#[120]⟩] _ (lst _ (by decide) χ hne) (by decide) (by omega) (by omega) fun x u' a1 a2 a3 => ?_
    simp only [RR]
    refine cat 30 _ (by decide) a1 (by omega) fun z1 s1 => ?_
    refine cat _ 30 s1 (by decide) (by omega) fun z2 s2 => ?_
    exact aret_sub (Keep.sub (.set (.refl φ τ) hχ)) (h _ _ (by omega) (by omega) (by omega))
  by_cases c1 : i = 1
  · subst c1
    simp only [RR, show ¬ (1 : Int) = 0 by omega]
    refine src_all hb 2 φ _ _ _ [] _ (nms_nil φ τ) (by decide) (by omega) (by omega) fun x u' a1 a2 a3 => ?_
    simp only [RR]
    refine cat 30 _ (by decide) a1 (by omega) fun z1 s1 => ?_
    refine cat _ 30 s1 (by decide) (by omega) fun z2 s2 => ?_
    exact ret_here (h _ _ (by omega) (by omega) (by omega))
  by_cases c2 : i = 2
  · subst c2
    simp only [RR, show ¬ (2 : Int) = 0 by omega, show ¬ (2 : Int) = 1 by omega]
    exact ret_here (h _ _ (by decide) (by omega) (by omega))
  by_cases c3 : i = 3
  · subst c3
    simp only [RR, show ¬ (3 : Int) = 0 by omega, show ¬ (3 : Int) = 1 by omega, show ¬ (3 : Int) = 2 by omega]
    refine nx hb (by omega) (by omega) (by omega) fun v v0 v1 => ?_
    obtain ⟨y1, s1, d1⟩ := dig30 v0 (by omega)
    simp only [RR]
    refine d1 ?_
    simp only [RR]
    refine cat 30 _ (by decide) s1 (by omega) fun z1 s1 => ?_
    refine cat _ 30 s1 (by decide) (by omega) fun z2 s2 => ?_
    exact ret_here (h _ _ (by omega) (by omega) (by omega))
  by_cases c4 : i = 4
  · subst c4
    simp only [RR, show ¬ (4 : Int) = 0 by omega, show ¬ (4 : Int) = 1 by omega, show ¬ (4 : Int) = 2 by omega, show ¬ (4 : Int) = 3 by omega]
    exact ret_here (h _ _ (by decide) (by omega) (by omega))
  by_cases c5 : i = 5
  · subst c5
    simp only [RR, show ¬ (5 : Int) = 0 by omega, show ¬ (5 : Int) = 1 by omega, show ¬ (5 : Int) = 2 by omega, show ¬ (5 : Int) = 3 by omega, show ¬ (5 : Int) = 4 by omega]
    refine bsl_own (w := ⟨#[99]⟩) fun χ hne hχ => ?_
    refine src_all hb 2 φ _ _ _ [⟨#[99]⟩] _ (lst _ (by decide) χ hne) (by decide) (by omega) (by omega) fun x u' a1 a2 a3 => ?_
    simp only [RR]
    refine cat 100 _ (by decide) a1 (by omega) fun z1 s1 => ?_
    refine cat _ 30 s1 (by decide) (by omega) fun z2 s2 => ?_
    exact aret_sub (Keep.sub (.set (.refl φ τ) hχ)) (h _ _ (by omega) (by omega) (by omega))
  by_cases c6 : i = 6
  · subst c6
    simp only [RR, show ¬ (6 : Int) = 0 by omega, show ¬ (6 : Int) = 1 by omega, show ¬ (6 : Int) = 2 by omega, show ¬ (6 : Int) = 3 by omega, show ¬ (6 : Int) = 4 by omega, show ¬ (6 : Int) = 5 by omega]
    refine nx hb (by omega) (by omega) (by omega) fun v v0 v1 => ?_
    obtain ⟨y1, s1, d1⟩ := dig30 v0 (by omega)
    simp only [RR]
    refine d1 ?_
    simp only [RR]
    refine cat 30 _ (by decide) s1 (by omega) fun z1 s1 => ?_
    refine cat _ 30 s1 (by decide) (by omega) fun z2 s2 => ?_
    exact ret_here (h _ _ (by omega) (by omega) (by omega))
  simp only [c0, c1, c2, c3, c4, c5, c6, RR]
  refine src_all hb 3 φ _ _ _ [] _ (nms_nil φ τ) (by decide) (by omega) (by omega) fun x u' a1 a2 a3 => ?_
  simp only [RR]
  exact ret_here (h _ _ (by omega) (by omega) (by omega))
theorem mk_s : mkInfo TT ty_Ls = some (1, [str ⟨#[]⟩], true) := by kernel_rfl
theorem mk_b : mkInfo TT ty_Lb = some (1, [.val (.int .u8 0)], true) := by kernel_rfl
theorem zeros_abytes : ∀ n : Nat, abytes (List.replicate n [AV.val (.int .u8 0)]) = some (List.replicate n 0) := by
  intro n
  induction n with
  | zero => rfl
  | succ n ih => rw [List.replicate_succ, List.replicate_succ]; simp [abytes, ih]
theorem c_spec_l8DrawLines {ns : List Int} {φ u : Nat} {σ : AH} {K : AEnd → AH → Prop} (hb : Bts ns) (hu : u ≤ 100000)
    (h : ∀ (xs : List ByteArray) (u' : Nat), xs.length ≤ 20 → u ≤ u' → u' ≤ u + 5000 → K (.ret (.ro (txs xs))) (σ.set φ (Sr ns u'))) : acall TP fn_spec_l8DrawLines [.ptr φ 0 0 0] (σ.set φ (Sr ns u)) K := by
  refine s_spec_l8DrawLines_ok ?_
  unfold s_spec_l8DrawLines
  refine ⟨by decide, ?_⟩
  rw [if_pos rfl]
  refine nx hb (by omega) (by omega) (by omega) fun i i0 i1 => ?_
  simp only [RR]
  refine lp_by (fun k y T => ∃ (a : AV) (xs : List ByteArray) (v : Nat) (τ : AH), y = (AV.ptr φ 0 0 0, a, iv (k : Int), ()) ∧ T = τ.set φ (Sr ns v) ∧ Keep φ σ τ ∧ Lst σ φ τ a xs ∧ k + xs.length ≤ 8 ∧ u + 1 ≤ v ∧ v ≤ u + 1 + 500 * xs.length) i.toNat ?_ ?_
  · refine ⟨.emp, [], u + 1, σ, ?_, rfl, .refl φ σ, .emp σ σ φ, by simp; omega, by omega, by simp⟩
    rw [show ((i.toNat : Nat) : Int) = i by omega]
    rfl
  rintro k y T ⟨a, xs, v, τ, rfl, rfl, hK, hL, hkx, hv1, hv2⟩ R' hR'
  by_cases ck : (0 : Int) < (k : Int)
  · simp only [ck, RR]
    refine c_spec_l8Line hb (by omega) fun x v' s1 a1 a2 => ?_
    simp only [RR]
    refine snoc hL hK (by omega) fun a' τ' hK' hL' => ?_
    have sub1 : ibin .sub (iv (k : Int)) (iv 1) = some (iv ((k - 1 : Nat) : Int)) := by rw [ibin_sub (by omega) (by omega)]; congr 3; omega
    simp only [sub1, RR]
    exact hR' _ _ (k - 1) _ (by omega) (.refl _) ⟨a', xs ++ [x], v', τ', rfl, rfl, hK', hL', by simp; omega, by omega, by simp; omega⟩
  · simp only [ck, RR]
    refine jn_by (P := fun x2 T => ∃ (b : AV) (ys : List ByteArray) (w : Nat) (τ' : AH), x2 = (b, ()) ∧ T = τ'.set φ (Sr ns w) ∧ Keep φ σ τ' ∧ Lst σ φ τ' b ys ∧ ys.length ≤ 20 ∧ u ≤ w ∧ w ≤ u + 5000) ?_ ?_
    · rintro x2 T ⟨b, ys, w, τ', rfl, rfl, hK', hL', h1, h2, h3⟩
      exact aret_freeze (Keep.sub hK') hL'.fz (h ys w h1 h2 h3)
    · intro k2 hk2
      refine nx hb (by omega) (by omega) (by omega) fun j j0 j1 => ?_
      simp only [RR]
      by_cases c0 : j = 0
      · simp only [c0, RR]
        refine bsl_next (ws := [⟨#[40]⟩, ⟨#[65]⟩, ⟨#[40, 41]⟩, ⟨#[105, 102]⟩, ⟨#[40, 99, 97, 114, 32, 49, 41]⟩, ⟨#[40, 113, 117, 111, 32, 49, 32, 48, 41]⟩]) hb (by omega) rfl rfl (by omega) (by omega) fun ψ w hw hne hψ => ?_
        have K1 : Keep φ τ (τ.set ψ ⟨0, 1, txs [⟨#[40]⟩, ⟨#[65]⟩, ⟨#[40, 41]⟩, ⟨#[105, 102]⟩, ⟨#[40, 99, 97, 114, 32, 49, 41]⟩, ⟨#[40, 113, 117, 111, 32, 49, 32, 48, 41]⟩]⟩) := .set (.refl φ τ) hψ
        refine snoc (hL.keep K1) (hK.trans K1) (by omega) fun a' τ' hK' hL' => ?_
        exact hk2 _ _ ⟨a', xs ++ [w], _, τ', rfl, rfl, hK', hL', by simp; omega, by omega, by omega⟩
      by_cases c1 : j = 1
      · subst c1
        simp only [RR, show ¬ (1 : Int) = 0 by omega]
        refine amake_info mk_s (by omega) (by omega) (by omega) fun χ hχ => ?_
        obtain ⟨hne, hχ'⟩ := AH.set_none.1 hχ
        rw [AH.set_comm _ _ _ hne.symm]
        refine hk2 _ _ ⟨.own χ 0 0 13, List.replicate 13 ⟨#[]⟩, _, τ.set χ ⟨0, 1, txs (List.replicate 13 ⟨#[]⟩)⟩, rfl, rfl, hK.set hχ', ⟨.inr ⟨χ, 0, rfl, AH.set_same ..⟩, (by rintro ⟨_, _, _, e⟩; cases e; exact hne rfl), ?_⟩, by simp, by omega, by omega⟩
        rintro ψ ⟨_, _, _, e⟩
        cases e
        cases e : σ χ with
        | none => rfl
        | some F => rw [hK χ F hne e] at hχ'; cases hχ'
      by_cases c2 : j = 2
      · subst c2
        simp only [RR, show ¬ (2 : Int) = 0 by omega, show ¬ (2 : Int) = 1 by omega]
        refine amake_info mk_b (by omega) (by omega) (by omega) fun χ hχ => ?_
        obtain ⟨hne, hχ'⟩ := AH.set_none.1 hχ
        rw [AH.set_comm _ _ _ hne.symm]
        have hc : ((τ.set χ ⟨0, 1, List.replicate (401 : Int).toNat [AV.val (.int .u8 0)]⟩).set φ (Sr ns (v + 1))) χ = some ⟨0, 1, List.replicate (401 : Int).toNat [AV.val (.int .u8 0)]⟩ := by rw [AH.set_ne' hne, AH.set_same]
        have ha : aelems ((τ.set χ ⟨0, 1, List.replicate (401 : Int).toNat [AV.val (.int .u8 0)]⟩).set φ (Sr ns (v + 1))) (.own χ 0 0 (401 : Int).toNat) = some (List.replicate (401 : Int).toNat [AV.val (.int .u8 0)]) := by
          simp only [aelems, hc]
          simp
        refine aconv_bytes bytes_Lb ha (zeros_abytes _) (by intro u h; cases h) (by intro kd n h; cases h) ?_
        have K1 : Keep φ τ (τ.set χ ⟨0, 1, List.replicate (401 : Int).toNat [AV.val (.int .u8 0)]⟩) := .set (.refl φ τ) hχ'
        refine snoc (hL.keep K1) (hK.trans K1) (by omega) fun a' τ' hK' hL' => ?_
        exact hk2 _ _ ⟨a', _, _, τ', rfl, rfl, hK', hL', by simp; omega, by omega, by omega⟩
      simp only [c0, c1, c2, RR]
      exact hk2 _ _ ⟨a, xs, _, τ, rfl, rfl, hK, hL, by omega, by omega, by omega⟩
end
end Go.Proofs.Ytnmggfcjbpnekaa.E
