import Derived.Test.YtbapalgndjiamaaGreatDoorSB14
/- Forms as texts, drawn: parts. -/
set_option linter.unusedSectionVars false
set_option linter.unusedSimpArgs false
set_option linter.unusedVariables false
namespace Go.Proofs.YtbapalgndjiamaaGreatDoor.E
open Go Go.RowKit
set_option maxRecDepth 100000
section
variable [L : Lam]
variable {σ τ : AH} {R : AEnd → AH → Prop}
theorem cat {a b : ByteArray} {k : AV → Prop} (n m : Nat) (ha : a.size ≤ n) (hb : b.size ≤ m) (hn : n + m ≤ 1000000000) (hk : ∀ z : ByteArray, z.size ≤ n + m → k (str z)) : og (sbin .add (str a) (str b)) k := by
 rw [sbin_add a b (by omega)]
 exact hk (a ++ b) (by rw [ByteArray.size_append]; omega)
def Keep (φ : Nat) (σ τ : AH) : Prop := ∀ ψ F, ψ ≠ φ → σ ψ = some F → τ ψ = some F
theorem Keep.refl (φ : Nat) (σ : AH) : Keep φ σ σ := fun _ _ _ h => h
theorem Keep.trans {φ : Nat} {a b c : AH} (h : Keep φ a b) (k : Keep φ b c) : Keep φ a c := fun ψ F hn hF => k ψ F hn (h ψ F hn hF)
theorem Keep.sub {φ : Nat} {S : Fam} (h : Keep φ σ τ) : AH.Sub (σ.set φ S) (τ.set φ S) := by
 intro ψ F hF
 by_cases e : ψ = φ
 ·subst e; rw [AH.set_same] at hF ⊢; exact hF
 ·rw [AH.set_ne' e] at hF ⊢; exact h ψ F e hF
theorem Keep.set {φ ψ : Nat} {F : Fam} (h : Keep φ σ τ) (hn : τ ψ = none) : Keep φ σ (τ.set ψ F) := by
 intro χ G hχ hG
 have := h χ G hχ hG
 rw [AH.set_ne' (by rintro rfl; rw [hn] at this; cases this)]; exact this
structure Nms (φ : Nat) (τ : AH) (a : AV) (xs : List ByteArray) : Prop where
 buf : Buf τ 1 a (txs xs)
 far : ¬ Buf.fam a φ
 small : ∀ x, x ∈ xs → x.size ≤ 30
 len : xs.length ≤ 1000
theorem Nms.set {φ : Nat} {a : AV} {xs : List ByteArray} {S : Fam} (h : Nms φ τ a xs) : Nms φ (τ.set φ S) a xs :=
 ⟨h.buf.keep fun ψ hf => AH.set_ne' (by rintro rfl; exact h.far hf), h.far, h.small, h.len⟩
theorem Nms.keep {φ : Nat} {a : AV} {xs : List ByteArray} (h : Nms φ σ a xs) (k : Keep φ σ τ) : Nms φ τ a xs := by
 refine ⟨?_, h.far, h.small, h.len⟩
 rcases h.buf with h' | ⟨ψ, st, rfl, hF⟩
 ·exact .inl h'
 ·exact .inr ⟨ψ, st, rfl, k ψ _ (by rintro rfl; exact h.far ⟨_, _, _, rfl⟩) hF⟩
theorem Nms.lenS {φ : Nat} {a : AV} {xs : List ByteArray} (h : Nms φ τ a xs) : lenS a = some (iv (xs.length : Int)) := (buf_rd h.buf).len
theorem Nms.at {φ : Nat} {a : AV} {xs : List ByteArray} (h : Nms φ τ a xs) {j : Nat} (hj : j < xs.length) : ∃ p, ∀ S, idx 1 a (iv (j : Int)) (τ.set φ S) = some p ∧ lod p (τ.set φ S) = some (str xs[j]) := by
 rcases h.buf with ⟨_, e⟩ | ⟨ψ, st, rfl, hF⟩
 ·have : xs = [] := by simpa [txs] using e
  subst this
  cases hj
 ·have hn : ψ ≠ φ := by rintro rfl; exact h.far ⟨_, _, _, rfl⟩
  refine ⟨.ptr ψ st j 0, fun S => ?_⟩
  have hF' : (τ.set φ S) ψ = some ⟨st, 1, txs xs⟩ := by rw [AH.set_ne' hn]; exact hF
  have hl : (txs xs).length = xs.length := by simp [txs]
  refine ⟨?_, lod_at hF' rfl ?_⟩
  ·have := idx_own (st := st) (off := 0) (n := (txs xs).length) hF' (by omega : j < (txs xs).length)
   rwa [Nat.zero_add] at this
  ·simp [txs, List.getD, hj]
theorem nx {φ u : Nat} {ns : List Int} {n : Int} {K : AEnd → AH → Prop} (hb : Bts ns) (hu : u ≤ 1000000) (h1 : 1 ≤ n) (h2 : n ≤ 1000) (h : ∀ v : Int, 0 ≤ v → v < n → K (.ret (iv v)) (τ.set φ (Sr ns (u + 1)))) :
  acall TP fn_spec_l1Next [.ptr φ 0 0 0, iv n] (τ.set φ (Sr ns u)) K := by
 refine c_spec_l1Next (AH.set_same ..) hb hu (by omega) fun v _ hv => ?_
 rw [AH.set_set]
 exact h v (hv h1).1 (hv h1).2
theorem chance {φ u : Nat} {ns : List Int} {n : Int} {K : AEnd → AH → Prop} (hb : Bts ns) (hu : u ≤ 1000000) (h2 : n ≤ 1000) (h : ∀ b : Bool, K (.ret (bv b)) (τ.set φ (Sr ns (u + 1)))) :
  acall TP fn_spec_l1Chance [.ptr φ 0 0 0, iv n] (τ.set φ (Sr ns u)) K := by
 refine c_spec_l1Chance (AH.set_same ..) hb hu (by omega) fun b => ?_
 rw [AH.set_set]
 exact h b
theorem bsl_next {φ u n : Nat} {ns : List Int} {ws : List ByteArray} {ps : List (Nat × AV)} {k : AV → AH → Prop} {P : AV → AH → Prop} (hb : Bts ns) (hu : u ≤ 1000000) (he : afillS 1 (List.replicate n [str ⟨#[]⟩]) ps = some (txs ws)) (hn : ws.length = n) (h0 : 0 < n) (h1 : n ≤ 1000)
  (hk : ∀ ψ w, w ∈ ws → ψ ≠ φ → τ ψ = none → k (str w) ((τ.set ψ ⟨0, 1, txs ws⟩).set φ (Sr ns (u + 1)))) :
  bsl 1 [str ⟨#[]⟩] n ps (τ.set φ (Sr ns u)) fun v40 σ => acall TP fn_spec_l1Next [.ptr φ 0 0 0, iv (n : Int)] σ (onr (fun v42 σ => og (idx 1 v40 v42 σ) fun v43 => og (lod v43 σ) fun v44 => k v44 σ) P) := by
 unfold bsl
 rw [he]
 refine ⟨by omega, ?_⟩
 rw [if_neg (by omega)]
 intro ψ hψ
 obtain ⟨hne, hψ'⟩ := AH.set_none.1 hψ
 rw [AH.set_comm _ _ _ hne.symm]
 refine nx hb hu (by omega) (by omega) fun v v0 v1 => ?_
 have hj : v.toNat < ws.length := by omega
 have hF : ((τ.set ψ ⟨0, 1, txs ws⟩).set φ (Sr ns (u + 1))) ψ = some ⟨0, 1, txs ws⟩ := by rw [AH.set_ne' hne, AH.set_same]
 have p1 := idx_own (st := 0) (off := 0) (n := n) hF (by omega : v.toNat < n)
 rw [show ((v.toNat : Nat) : Int) = v by omega, Nat.zero_add] at p1
 have p2 := lod_at (i := v.toNat) (off := 0) (c := str ws[v.toNat]) hF rfl (by simp [txs, List.getD, hj])
 simp only [p1, p2, RR]
 exact hk ψ _ (List.getElem_mem hj) hne hψ'
theorem bslR_lit {n : Nat} {ps : List (Nat × AV)} {ws : List ByteArray} (he : afillS 1 (List.replicate n [str ⟨#[]⟩]) ps = some (txs ws)) (h0 : 0 < n) (h1 : n ≤ 1000) : bslR 1 [str ⟨#[]⟩] n ps = some (.ro (txs ws)) := by
 unfold bslR
 rw [he]
 simp only
 rw [if_pos ⟨by omega, by intro c hc; obtain ⟨x, _, rfl⟩ := List.mem_map.1 hc; rfl⟩, if_neg (by omega)]
theorem ro_at {ws : List ByteArray} {v : Int} (v0 : 0 ≤ v) (v1 : v < (ws.length : Int)) : ∃ w, w ∈ ws ∧ ∀ τ, idx 1 (.ro (txs ws)) (iv v) τ = some (.rop [str w] 0) ∧ lod (.rop [str w] 0) τ = some (str w) := by
 have hj : v.toNat < ws.length := by omega
 refine ⟨ws[v.toNat], List.getElem_mem hj, fun τ => ⟨?_, rfl⟩⟩
 have := idx_ro (σ := τ) (enc := fun x => [str x]) (sz := 1) hj (fun _ => rfl)
 rwa [show ((v.toNat : Nat) : Int) = v by omega] at this
theorem grow {φ u : Nat} {ns : List Int} {a : AV} {xs : List ByteArray} {w : ByteArray} {k : AV → AH → Prop} (hN : Nms φ τ a xs) (hl : xs.length < 1000) (hw : w.size ≤ 30)
  (hk : ∀ a' τ', Keep φ τ τ' → Nms φ τ' a' (xs ++ [w]) → k a' (τ'.set φ (Sr ns u))) :
  bsl 1 [str ⟨#[]⟩] 0 [] (τ.set φ (Sr ns u)) fun v45 σ => app 1 v45 a σ fun v47 σ => bsl 1 [str ⟨#[]⟩] 1 [(0, str w)] σ fun v49 σ => app 1 v47 v49 σ fun v50 σ => k v50 σ := by
 refine ⟨by decide, ?_⟩
 rw [if_pos rfl]
 have hN1 : Nms φ (τ.set φ (Sr ns u)) a xs := hN.set
 generalize hT : τ.set φ (Sr ns u) = T at hN1
 have hTφ : T φ = some (Sr ns u) := by rw [← hT, AH.set_same]
 have hKT : Keep φ τ T := fun ψ F hn hF => by rw [← hT, AH.set_ne' hn]; exact hF
 have hae : aelems T a = some (txs xs) := by
  rcases hN1.buf with ⟨e1, e⟩ | ⟨ψ, st, rfl, hF⟩
  ·rw [e]; rcases e1 with rfl | rfl <;> rfl
  ·have hl2 : (txs xs).length = xs.length := by simp [txs]
   simp [aelems, hF]
   exact List.take_of_length_le (by omega)
 have one : ∀ (zs : List ByteArray) c, c ∈ txs zs → c.length = 1 := by intro zs c hc; obtain ⟨x, _, rfl⟩ := List.mem_map.1 hc; rfl
 have one' : ∀ (zs : List ByteArray) c, c ∈ txs zs → ∀ y, y ∈ c → y.one = true := by intro zs c hc y hy; obtain ⟨x, _, rfl⟩ := List.mem_map.1 hc; rw [List.mem_singleton.1 hy]; rfl
 refine Buf.app (es := []) (.inl ⟨.inr rfl, rfl⟩) hae (one xs) (one' xs) (by simp [txs]; omega) ?_
 intro a1 T1 b1 b2 b3 b4
 have emp_fam : ∀ ψ, ¬ Buf.fam AV.emp ψ := by rintro ψ ⟨_, _, _, e⟩; cases e
 have hK1 : ∀ ψ F, T ψ = some F → T1 ψ = some F := fun ψ F hF => by rw [b2 ψ (emp_fam ψ) (by rw [hF]; simp)]; exact hF
 refine ⟨by decide, ?_⟩
 rw [if_neg (by decide)]
 intro χ hχ
 have nf1 : ∀ ψ, Buf.fam a1 ψ → T ψ = none := fun ψ hf => (b3 ψ hf).resolve_left (emp_fam ψ)
 have hχT : T χ = none := by
  cases e : T χ with
  | none => rfl
  | some F => rw [hK1 χ F e] at hχ; cases hχ
 have B2 : Buf (T1.set χ ⟨0, 1, [[str w]]⟩) 1 a1 (txs xs) := by
  have b1' : Buf T1 1 a1 (txs xs) := by simpa using b1
  refine b1'.keep fun ψ hf => AH.set_ne' ?_
  rintro rfl
  obtain ⟨F, hF⟩ := b1'.fam_some hf
  rw [hχ] at hF; cases hF
 have hae2 : aelems (T1.set χ ⟨0, 1, [[str w]]⟩) (.own χ 0 0 1) = some (txs [w]) := by simp [aelems, txs]
 refine Buf.app B2 hae2 (one [w]) (one' [w]) (by simp [txs]; omega) ?_
 intro a2 T2 d1 d2 d3 d4
 have hK2 : ∀ ψ F, T ψ = some F → T2 ψ = some F := fun ψ F hF => by
  have n1 : ψ ≠ χ := by rintro rfl; rw [hχT] at hF; cases hF
  have n2 : ¬ Buf.fam a1 ψ := fun hf => by rw [nf1 ψ hf] at hF; cases hF
  have e1 := hK1 ψ F hF
  rw [d2 ψ n2 (by rw [AH.set_ne' n1, e1]; simp), AH.set_ne' n1]; exact e1
 have e5 : T2 = T2.set φ (Sr ns u) := (AH.set_self (hK2 φ _ hTφ)).symm
 have far2 : ¬ Buf.fam a2 φ := fun hf => by
  rcases d3 φ hf with hf | hn
  ·have := nf1 φ hf; rw [hTφ] at this; cases this
  ·have := (AH.set_none.1 hn).2
   rw [hK1 φ _ hTφ] at this; cases this
 rw [e5]
 refine hk a2 T2 (fun ψ F hn hF => hK2 ψ F (hKT ψ F hn hF)) ⟨by rw [show txs (xs ++ [w]) = txs xs ++ txs [w] by simp [txs]]; exact d1, far2, fun x hx => ?_, by simp; omega⟩
 rcases List.mem_append.1 hx with hx | hx
 ·exact hN.small x hx
 ·rw [List.mem_singleton.1 hx]; exact hw
end
end Go.Proofs.YtbapalgndjiamaaGreatDoor.E
/- Forms as texts, drawn. -/
namespace Go.Proofs.YtbapalgndjiamaaGreatDoor.E
open Go Go.RowKit
set_option maxRecDepth 100000
def Sz : Nat → Nat
 | 0 => 30
 | d + 1 => 3 * Sz d + 300
def Dw : Nat → Nat
 | 0 => 10
 | d + 1 => 3 * Dw d + 10
section
variable [L : Lam]
variable {σ τ : AH} {R : AEnd → AH → Prop}
theorem dig30 {v : Int} (h0 : 0 ≤ v) (h1 : v < 1000) : ∃ x : ByteArray, x.size ≤ 30 ∧ ∀ {σ : AH} {K : AEnd → AH → Prop}, K (.ret (str x)) σ → acall TP fn_spec_l1Digits [iv v] σ K := by
 obtain ⟨n, rfl⟩ : ∃ n : Nat, v = (n : Int) := ⟨v.toNat, by omega⟩
 refine ⟨bs (Lib.decDigits n), ?_, fun h => c_spec_l1Digits_nat n (by omega) h⟩
 have := decDigits_len 3 n (by omega)
 rw [size_bs]; omega
def Src (ns : List Int) (d : Nat) : Prop := ∀ (φ u : Nat) (τ : AH) (a : AV) (xs : List ByteArray) (K : AEnd → AH → Prop), Nms φ τ a xs → xs.length ≤ 100 - d → d ≤ 10 → u + Dw d ≤ 1000000 →
 (∀ (x : ByteArray) (u' : Nat), x.size ≤ Sz d → u ≤ u' → u' ≤ u + Dw d → K (.ret (str x)) (τ.set φ (Sr ns u'))) → acall TP fn_spec_l4Source [.ptr φ 0 0 0, a, iv (d : Int)] (τ.set φ (Sr ns u)) K
theorem leaf {ns : List Int} {φ u : Nat} {τ : AH} {a : AV} {xs : List ByteArray} (hb : Bts ns) (hN : Nms φ τ a xs) (hu : u + 9 ≤ 1000000)
   (h : ∀ (x : ByteArray) (u' : Nat), x.size ≤ 30 → u ≤ u' → u' ≤ u + 9 → R (.ret (str x)) (τ.set φ (Sr ns u'))) :
   jn (X := Tup [0, 1, 21]) (fun x2 σ =>
           apick x2.2.2.1 (
             og (lenS x2.2.1) fun v25 =>
             acall TP fn_spec_l1Next [x2.1, v25] σ (onr (fun v26 σ =>
             og (idx 1 x2.2.1 v26 σ) fun v27 =>
             og (lod v27 σ) fun v28 =>
             aret v28 σ R) (fun v σ => apan v σ R))) (
             acall TP fn_spec_l1Next [x2.1, iv 9] σ (onr (fun v30 σ =>
             acall TP fn_spec_l1Digits [v30] σ (onr (fun v31 σ =>
             acall TP fn_spec_l1Next [x2.1, iv 99] σ (onr (fun v33 σ =>
             acall TP fn_spec_l1Digits [v33] σ (onr (fun v34 σ =>
             bsl 1 [(.val (.string ⟨#[]⟩))] 9 [(0, v31), (1, (.val (.string ⟨#[35, 116]⟩))), (2, (.val (.string ⟨#[39, 40, 49, 32, 50, 41]⟩))), (3, (.val (.string ⟨#[103]⟩))), (4, (.val (.string ⟨#[104]⟩))), (5, (.val (.string ⟨#[39, 97]⟩))), (6, v34), (7, (.val (.string ⟨#[99, 97, 114]⟩))), (8, (.val (.string ⟨#[43]⟩)))] σ fun v35 σ =>
             acall TP fn_spec_l1Next [x2.1, iv 9] σ (onr (fun v37 σ =>
             og (idx 1 v35 v37 σ) fun v38 =>
             og (lod v38 σ) fun v39 =>
             aret v39 σ R) (fun v σ => apan v σ R))) (fun v σ => apan v σ R))) (fun v σ => apan v σ R))) (fun v σ => apan v σ R))) (fun v σ => apan v σ R)))) (fun k2 =>
         og (lenS a) fun v16 =>
         og (ibin .gtr v16 (iv 0)) fun v17 =>
         og (gval v17 true false (some (.ptr φ 0 0 0))) fun v19 =>
         gpick v17 (
           acall TP fn_spec_l1Chance [v19, iv 2] (τ.set φ (Sr ns u)) (onr (fun v20 σ =>
           k2 (.ptr φ 0 0 0, a, v20, ()) σ) (fun v σ => apan v σ R))) (
           k2 (.ptr φ 0 0 0, a, bv false, ()) (τ.set φ (Sr ns u))) (False)) := by
 refine jn_by (P := fun x2 T => ∃ (b : Bool) (u' : Nat), x2 = (AV.ptr φ 0 0 0, a, bv b, ()) ∧ T = τ.set φ (Sr ns u') ∧ u ≤ u' ∧ u' ≤ u + 1 ∧ (b = true → 0 < xs.length)) ?_ ?_
 · rintro x2 T ⟨b, u', rfl, rfl, h1, h2, hx⟩
   cases b with
   | true =>
     have hpos := hx rfl
     have hl := hN.len
     simp only [hN.lenS, RR]
     refine nx hb (by omega) (by omega) (by omega) fun v v0 v1 => ?_
     obtain ⟨p, hp⟩ := hN.at (j := v.toNat) (by omega)
     have := hp (Sr ns (u' + 1))
     rw [show ((v.toNat : Nat) : Int) = v by omega] at this
     simp only [this, RR]
     exact ret_here (h _ _ (hN.small _ (List.getElem_mem _)) (by omega) (by omega))
   | false =>
     simp only [RR]
     refine nx hb (by omega) (by omega) (by omega) fun v v0 v1 => ?_
     obtain ⟨y1, s1, d1⟩ := dig30 v0 (by omega)
     simp only [RR]
     refine d1 ?_
     simp only [RR]
     refine nx hb (by omega) (by omega) (by omega) fun v' v0' v1' => ?_
     obtain ⟨y2, s2, d2⟩ := dig30 v0' (by omega)
     simp only [RR]
     refine d2 ?_
     simp only [RR]
     refine bsl_next (ws := [y1, ⟨#[35, 116]⟩, ⟨#[39, 40, 49, 32, 50, 41]⟩, ⟨#[103]⟩, ⟨#[104]⟩, ⟨#[39, 97]⟩, y2, ⟨#[99, 97, 114]⟩, ⟨#[43]⟩]) hb (by omega) rfl rfl (by omega) (by omega) fun ψ w hw hne hψ => ?_
     refine aret_sub (Keep.sub (.set (.refl φ τ) hψ)) (h w _ ?_ (by omega) (by omega))
     simp only [List.mem_cons, List.not_mem_nil, or_false] at hw
     rcases hw with rfl | rfl | rfl | rfl | rfl | rfl | rfl | rfl | rfl <;> first | assumption | decide
 · intro k hk
   by_cases c : (0 : Int) < (xs.length : Int)
   · simp only [hN.lenS, c, RR]
     refine chance hb (by omega) (by omega) fun b => ?_
     simp only [RR]
     exact hk _ _ ⟨b, u + 1, rfl, rfl, by omega, by omega, fun _ => by omega⟩
   · simp only [hN.lenS, c, RR]
     exact hk _ _ ⟨false, u, rfl, rfl, by omega, by omega, fun h => by cases h⟩
theorem og_bslR {n : Nat} {ps : List (Nat × AV)} {ws : List ByteArray} {k : AV → Prop} (he : afillS 1 (List.replicate n [str ⟨#[]⟩]) ps = some (txs ws)) (h0 : 0 < n) (h1 : n ≤ 1000) (hk : k (.ro (txs ws))) : og (bslR 1 [str ⟨#[]⟩] n ps) k := by
 rw [bslR_lit he h0 h1]
 exact hk
theorem Sz_le : ∀ d, d ≤ 10 → Sz d ≤ 100000000 := by decide
theorem Sz_ge (d : Nat) : 30 ≤ Sz d := by
 cases d with
 | zero => exact Nat.le_refl _
 | succ d => unfold Sz; omega
set_option maxHeartbeats 2000000 in
theorem src_all {ns : List Int} (hb : Bts ns) : ∀ d, Src ns d := by
 intro d
 induction d with
 | zero =>
  intro φ u τ a xs K hN hx hd hu h
  have e0 : Dw 0 = 10 := rfl
  refine s_spec_l4Source_ok ?_
  unfold s_spec_l4Source
  refine jn_by (P := fun x1 T => x1 = (AV.ptr φ 0 0 0, a, iv ((0 : Nat) : Int), bv true, ()) ∧ T = τ.set φ (Sr ns u)) ?_ ?_
  ·rintro x1 T ⟨rfl, rfl⟩
   try simp only [RR]
   exact leaf hb hN (by omega) fun x u' a1 a2 a3 => h x u' a1 a2 (by omega)
  ·intro k hk
   simp only [RR, show ((0 : Nat) : Int) ≤ 0 by omega]
   exact hk _ _ ⟨rfl, rfl⟩
 | succ e ih =>
  intro φ u τ a xs K hN hx hd hu h
  have hS : Sz (e + 1) = 3 * Sz e + 300 := rfl
  have hD : Dw (e + 1) = 3 * Dw e + 10 := rfl
  have hSl := Sz_le e (by omega)
  rw [hD] at hu
  have sub1 : ibin .sub (iv ((e + 1 : Nat) : Int)) (iv 1) = some (iv (e : Int)) := by rw [ibin_sub (by omega) (by omega)]; congr 3; omega
  refine s_spec_l4Source_ok ?_
  unfold s_spec_l4Source
  refine jn_by (P := fun x1 T => ∃ (b : Bool) (u' : Nat), x1 = (AV.ptr φ 0 0 0, a, iv ((e + 1 : Nat) : Int), bv b, ()) ∧ T = τ.set φ (Sr ns u') ∧ u' = u + 1) ?_ ?_
  case refine_2 =>
   intro k hk
   simp only [RR, show ¬ ((e + 1 : Nat) : Int) ≤ 0 by omega]
   refine chance hb (by omega) (by omega) fun b => ?_
   try simp only [RR]
   exact hk _ _ ⟨b, u + 1, rfl, rfl, rfl⟩
  rintro x1 T ⟨b, u', rfl, rfl, rfl⟩
  cases b with
  | true =>
   try simp only [RR]
   have := Sz_ge (e + 1)
   exact leaf hb hN (by omega) fun x u' a1 a2 a3 => h x u' (by omega) (by omega) (by omega)
  | false =>
   try simp only [RR]
   refine bsl_next (ws := [⟨#[120]⟩, ⟨#[121]⟩, ⟨#[122]⟩]) hb (by omega) rfl rfl (by omega) (by omega) fun ψ one hw hne hψ => ?_
   have hone : one.size ≤ 30 := by
    simp only [List.mem_cons, List.not_mem_nil, or_false] at hw
    rcases hw with rfl | rfl | rfl <;> decide
   have K1 : Keep φ τ (τ.set ψ ⟨0, 1, txs [⟨#[120]⟩, ⟨#[121]⟩, ⟨#[122]⟩]⟩) := .set (.refl φ τ) hψ
   generalize τ.set ψ ⟨0, 1, txs [⟨#[120]⟩, ⟨#[121]⟩, ⟨#[122]⟩]⟩ = τ1 at K1
   refine grow (hN.keep K1) (by omega) hone fun inner τ2 K2 hI => ?_
   have K3 := K1.trans K2
   have hN2 := hN.keep K3
   have fin : ∀ (x : ByteArray) (u' : Nat), x.size ≤ 3 * Sz e + 300 → u + 1 ≤ u' → u' ≤ u + (3 * Dw e + 10) → aret (str x) (τ2.set φ (Sr ns u')) K := fun x u' a1 a2 a3 =>
    aret_sub (Keep.sub K3) (h x u' (by omega) (by omega) (by omega))
   have rc : ∀ {K' : AEnd → AH → Prop} {b : AV} {ys : List ByteArray} {v : Nat}, Nms φ τ2 b ys → ys.length ≤ 100 - e → v + Dw e ≤ 1000000 →
     (∀ (x : ByteArray) (v' : Nat), x.size ≤ Sz e → v ≤ v' → v' ≤ v + Dw e → K' (.ret (str x)) (τ2.set φ (Sr ns v'))) → acall TP fn_spec_l4Source [.ptr φ 0 0 0, b, iv (e : Int)] (τ2.set φ (Sr ns v)) K' :=
    fun hb1 hb2 hb3 hb4 => ih φ _ τ2 _ _ _ hb1 hb2 (by omega) hb3 hb4
   have hxa : xs.length ≤ 100 - e := by omega
   have hxi : (xs ++ [one]).length ≤ 100 - e := by simp; omega
   refine jn_by (P := fun x3 T => ∃ v : Nat, x3 = (AV.ptr φ 0 0 0, a, iv ((e + 1 : Nat) : Int), ()) ∧ T = τ2.set φ (Sr ns v) ∧ u + 1 ≤ v ∧ v ≤ u + 3) ?_ ?_
   ·rintro x3 T ⟨v, rfl, rfl, v1, v2⟩
    try simp only [sub1, RR]
    refine og_bslR (ws := [⟨#[43]⟩, ⟨#[45]⟩, ⟨#[42]⟩, ⟨#[60]⟩, ⟨#[61]⟩]) rfl (by omega) (by omega) ?_
    try simp only [RR]
    refine nx hb (by omega) (by omega) (by omega) fun i i0 i1 => ?_
    obtain ⟨q, hq, hat⟩ := ro_at (ws := [⟨#[43]⟩, ⟨#[45]⟩, ⟨#[42]⟩, ⟨#[60]⟩, ⟨#[61]⟩]) i0 i1
    have hq30 : q.size ≤ 30 := by
     simp only [List.mem_cons, List.not_mem_nil, or_false] at hq
     rcases hq with rfl | rfl | rfl | rfl | rfl <;> decide
    simp only [hat, RR, true_and]
    refine cat 30 _ (by decide) hq30 (by omega) fun z1 s1 => ?_
    refine cat _ 30 s1 (by decide) (by omega) fun z2 s2 => ?_
    refine rc hN2 hxa (by omega) fun y1 w1 t1 a1 b1 => ?_
    simp only [hat, RR, and_true, true_and]
    refine cat _ _ s2 t1 (by omega) fun z3 s3 => ?_
    refine cat _ 30 s3 (by decide) (by omega) fun z4 s4 => ?_
    refine rc hN2 hxa (by omega) fun y2 w2 t2 a2 b2 => ?_
    simp only [hat, RR, and_true, true_and]
    refine cat _ _ s4 t2 (by omega) fun z5 s5 => ?_
    refine cat _ 30 s5 (by decide) (by omega) fun z6 s6 => ?_
    exact fin _ _ (by omega) (by omega) (by omega)
   ·intro k3 hk3
    refine nx hb (by omega) (by omega) (by omega) fun i i0 i1 => ?_
    try simp only [RR]
    by_cases c0 : i = 0
    ·simp only [c0, sub1, RR]
     refine rc hN2 hxa (by omega) fun y1 w1 t1 a1 b1 => ?_
     try simp only [RR]
     refine cat 30 _ (by decide) t1 (by omega) fun z1 s1 => ?_
     refine cat _ 30 s1 (by decide) (by omega) fun z2 s2 => ?_
     try simp only [sub1, RR]
     refine rc hN2 hxa (by omega) fun y2 w2 t2 a2 b2 => ?_
     try simp only [RR]
     refine cat _ _ s2 t2 (by omega) fun z3 s3 => ?_
     refine cat _ 30 s3 (by decide) (by omega) fun z4 s4 => ?_
     try simp only [sub1, RR]
     refine rc hN2 hxa (by omega) fun y3 w3 t3 a3 b3 => ?_
     try simp only [RR]
     refine cat _ _ s4 t3 (by omega) fun z5 s5 => ?_
     refine cat _ 30 s5 (by decide) (by omega) fun z6 s6 => ?_
     exact fin _ _ (by omega) (by omega) (by omega)
    by_cases c1 : i = 1
    ·subst c1
     simp only [RR, show ¬ (1 : Int) = 0 by omega]
     refine cat 30 _ (by decide) hone (by omega) fun z1 s1 => ?_
     refine cat _ 30 s1 (by decide) (by omega) fun z2 s2 => ?_
     try simp only [sub1, RR]
     refine rc hI hxi (by omega) fun y1 w1 t1 a1 b1 => ?_
     try simp only [RR]
     refine cat _ _ s2 t1 (by omega) fun z3 s3 => ?_
     refine cat _ 30 s3 (by decide) (by omega) fun z4 s4 => ?_
     exact fin _ _ (by omega) (by omega) (by omega)
    simp only [c0, c1, RR]
    refine jn_by (P := fun x4 T => ∃ (fl : Bool), x4 = (AV.ptr φ 0 0 0, a, iv ((e + 1 : Nat) : Int), str one, inner, iv i, bv fl, ()) ∧ T = τ2.set φ (Sr ns (u + 1 + 1 + 1))) ?_ ?_
    case refine_2 =>
     intro k4 hk4
     by_cases c2 : i = 2
     ·subst c2
      try simp only [RR]
      exact hk4 _ _ ⟨true, rfl, rfl⟩
     ·simp only [c2, RR]
      exact hk4 _ _ ⟨decide (i = 3), rfl, rfl⟩
    rintro x4 T ⟨fl, rfl, rfl⟩
    cases fl with
    | true =>
     try simp only [RR]
     refine cat 30 _ (by decide) hone (by omega) fun z1 s1 => ?_
     refine cat _ 30 s1 (by decide) (by omega) fun z2 s2 => ?_
     try simp only [sub1, RR]
     refine rc hN2 hxa (by omega) fun y1 w1 t1 a1 b1 => ?_
     try simp only [RR]
     refine cat _ _ s2 t1 (by omega) fun z3 s3 => ?_
     refine cat _ 30 s3 (by decide) (by omega) fun z4 s4 => ?_
     try simp only [sub1, RR]
     refine rc hI hxi (by omega) fun y2 w2 t2 a2 b2 => ?_
     try simp only [RR]
     refine cat _ _ s4 t2 (by omega) fun z5 s5 => ?_
     refine cat _ 30 s5 (by decide) (by omega) fun z6 s6 => ?_
     exact fin _ _ (by omega) (by omega) (by omega)
    | false =>
     try simp only [RR]
     by_cases c4 : i = 4
     ·simp only [c4, sub1, RR]
      refine rc hN2 hxa (by omega) fun y1 w1 t1 a1 b1 => ?_
      try simp only [RR]
      refine cat 30 _ (by decide) t1 (by omega) fun z1 s1 => ?_
      refine cat _ 30 s1 (by decide) (by omega) fun z2 s2 => ?_
      try simp only [sub1, RR]
      refine rc hN2 hxa (by omega) fun y2 w2 t2 a2 b2 => ?_
      try simp only [RR]
      refine cat _ _ s2 t2 (by omega) fun z3 s3 => ?_
      refine cat _ 30 s3 (by decide) (by omega) fun z4 s4 => ?_
      exact fin _ _ (by omega) (by omega) (by omega)
     by_cases c5 : i = 5
     ·subst c5
      simp only [RR, show ¬ (5 : Int) = 4 by omega]
      refine cat 30 _ (by decide) hone (by omega) fun z1 s1 => ?_
      refine cat _ 30 s1 (by decide) (by omega) fun z2 s2 => ?_
      try simp only [sub1, RR]
      refine rc hI hxi (by omega) fun y1 w1 t1 a1 b1 => ?_
      try simp only [RR]
      refine cat _ _ s2 t1 (by omega) fun z3 s3 => ?_
      refine cat _ 30 s3 (by decide) (by omega) fun z4 s4 => ?_
      try simp only [sub1, RR]
      refine rc hN2 hxa (by omega) fun y2 w2 t2 a2 b2 => ?_
      try simp only [RR]
      refine cat _ _ s4 t2 (by omega) fun z5 s5 => ?_
      refine cat _ 30 s5 (by decide) (by omega) fun z6 s6 => ?_
      exact fin _ _ (by omega) (by omega) (by omega)
     by_cases c6 : i = 6
     ·subst c6
      simp only [RR, show ¬ (6 : Int) = 4 by omega, show ¬ (6 : Int) = 5 by omega]
      refine og_bslR (ws := [⟨#[103]⟩, ⟨#[104]⟩]) rfl (by omega) (by omega) ?_
      try simp only [sub1, RR]
      refine nx hb (by omega) (by omega) (by omega) fun j j0 j1 => ?_
      obtain ⟨q, hq, hat⟩ := ro_at (ws := [⟨#[103]⟩, ⟨#[104]⟩]) j0 j1
      have hq30 : q.size ≤ 30 := by
       simp only [List.mem_cons, List.not_mem_nil, or_false] at hq
       rcases hq with rfl | rfl <;> decide
      simp only [hat, RR, true_and]
      refine cat 30 _ (by decide) hq30 (by omega) fun z1 s1 => ?_
      refine cat _ 30 s1 (by decide) (by omega) fun z2 s2 => ?_
      refine rc hN2 hxa (by omega) fun y1 w1 t1 a1 b1 => ?_
      simp only [hat, RR, and_true, true_and]
      refine cat _ _ s2 t1 (by omega) fun z3 s3 => ?_
      refine cat _ 30 s3 (by decide) (by omega) fun z4 s4 => ?_
      exact fin _ _ (by omega) (by omega) (by omega)
     by_cases c7 : i = 7
     ·subst c7
      simp only [RR, show ¬ (7 : Int) = 4 by omega, show ¬ (7 : Int) = 5 by omega, show ¬ (7 : Int) = 6 by omega]
      refine grow hN2 (by omega) (w := ⟨#[107]⟩) (by decide) fun names' τ3 K4 hI3 => ?_
      have K5 := K3.trans K4
      try simp only [sub1, RR]
      refine ih φ _ τ3 _ _ _ hI3 (by simp; omega) (by omega) (by omega) fun y1 w1 t1 a1 b1 => ?_
      try simp only [RR]
      refine cat 30 _ (by decide) t1 (by omega) fun z1 s1 => ?_
      refine cat _ 30 s1 (by decide) (by omega) fun z2 s2 => ?_
      exact aret_sub (Keep.sub K5) (h _ _ (by omega) (by omega) (by omega))
     by_cases c8 : i = 8
     ·subst c8
      simp only [RR, show ¬ (8 : Int) = 4 by omega, show ¬ (8 : Int) = 5 by omega, show ¬ (8 : Int) = 6 by omega, show ¬ (8 : Int) = 7 by omega]
      refine og_bslR (ws := [⟨#[99, 97, 114]⟩, ⟨#[99, 100, 114]⟩, ⟨#[110, 117, 108, 108, 63]⟩, ⟨#[112, 97, 105, 114, 63]⟩, ⟨#[110, 111, 116]⟩]) rfl (by omega) (by omega) ?_
      try simp only [sub1, RR]
      refine nx hb (by omega) (by omega) (by omega) fun j j0 j1 => ?_
      obtain ⟨q, hq, hat⟩ := ro_at (ws := [⟨#[99, 97, 114]⟩, ⟨#[99, 100, 114]⟩, ⟨#[110, 117, 108, 108, 63]⟩, ⟨#[112, 97, 105, 114, 63]⟩, ⟨#[110, 111, 116]⟩]) j0 j1
      have hq30 : q.size ≤ 30 := by
       simp only [List.mem_cons, List.not_mem_nil, or_false] at hq
       rcases hq with rfl | rfl | rfl | rfl | rfl <;> decide
      simp only [hat, RR, true_and]
      refine cat 30 _ (by decide) hq30 (by omega) fun z1 s1 => ?_
      refine cat _ 30 s1 (by decide) (by omega) fun z2 s2 => ?_
      refine rc hN2 hxa (by omega) fun y1 w1 t1 a1 b1 => ?_
      simp only [hat, RR, and_true, true_and]
      refine cat _ _ s2 t1 (by omega) fun z3 s3 => ?_
      refine cat _ 30 s3 (by decide) (by omega) fun z4 s4 => ?_
      exact fin _ _ (by omega) (by omega) (by omega)
     by_cases c9 : i = 9
     ·subst c9
      simp only [RR, show ¬ (9 : Int) = 4 by omega, show ¬ (9 : Int) = 5 by omega, show ¬ (9 : Int) = 6 by omega, show ¬ (9 : Int) = 7 by omega, show ¬ (9 : Int) = 8 by omega]
      refine og_bslR (ws := [⟨#[99, 111, 110, 115]⟩, ⟨#[108, 105, 115, 116]⟩, ⟨#[101, 113, 63]⟩]) rfl (by omega) (by omega) ?_
      try simp only [sub1, RR]
      refine nx hb (by omega) (by omega) (by omega) fun j j0 j1 => ?_
      obtain ⟨q, hq, hat⟩ := ro_at (ws := [⟨#[99, 111, 110, 115]⟩, ⟨#[108, 105, 115, 116]⟩, ⟨#[101, 113, 63]⟩]) j0 j1
      have hq30 : q.size ≤ 30 := by
       simp only [List.mem_cons, List.not_mem_nil, or_false] at hq
       rcases hq with rfl | rfl | rfl <;> decide
      simp only [hat, RR, true_and]
      refine cat 30 _ (by decide) hq30 (by omega) fun z1 s1 => ?_
      refine cat _ 30 s1 (by decide) (by omega) fun z2 s2 => ?_
      refine rc hN2 hxa (by omega) fun y1 w1 t1 a1 b1 => ?_
      simp only [hat, RR, and_true, true_and]
      refine cat _ _ s2 t1 (by omega) fun z3 s3 => ?_
      refine cat _ 30 s3 (by decide) (by omega) fun z4 s4 => ?_
      refine rc hN2 hxa (by omega) fun y2 w2 t2 a2 b2 => ?_
      simp only [hat, RR, and_true, true_and]
      refine cat _ _ s4 t2 (by omega) fun z5 s5 => ?_
      refine cat _ 30 s5 (by decide) (by omega) fun z6 s6 => ?_
      exact fin _ _ (by omega) (by omega) (by omega)
     by_cases c10 : i = 10
     ·subst c10
      simp only [RR, show ¬ (10 : Int) = 4 by omega, show ¬ (10 : Int) = 5 by omega, show ¬ (10 : Int) = 6 by omega, show ¬ (10 : Int) = 7 by omega, show ¬ (10 : Int) = 8 by omega, show ¬ (10 : Int) = 9 by omega]
      by_cases cx : (0 : Int) < (xs.length : Int)
      ·simp only [hN2.lenS, cx, sub1, RR]
       refine nx hb (by omega) (by omega) (by omega) fun j j0 j1 => ?_
       obtain ⟨p, hp⟩ := hN2.at (j := j.toNat) (by omega)
       rw [show ((j.toNat : Nat) : Int) = j by omega] at hp
       have hq30 : (xs[j.toNat]'(by omega)).size ≤ 30 := hN2.small _ (List.getElem_mem _)
       simp only [hp, RR, true_and]
       refine cat 30 _ (by decide) hq30 (by omega) fun z1 s1 => ?_
       refine cat _ 30 s1 (by decide) (by omega) fun z2 s2 => ?_
       refine rc hN2 hxa (by omega) fun y1 w1 t1 a1 b1 => ?_
       simp only [hp, RR, and_true, true_and]
       refine cat _ _ s2 t1 (by omega) fun z3 s3 => ?_
       refine cat _ 30 s3 (by decide) (by omega) fun z4 s4 => ?_
       exact fin _ _ (by omega) (by omega) (by omega)
      ·simp only [hN2.lenS, cx, RR]
       exact hk3 _ _ ⟨_, rfl, rfl, by omega, by omega⟩
     simp only [c4, c5, c6, c7, c8, c9, c10, RR]
     exact hk3 _ _ ⟨_, rfl, rfl, by omega, by omega⟩
end
end Go.Proofs.YtbapalgndjiamaaGreatDoor.E
/- Draws: data. -/
namespace Go.Proofs.YtbapalgndjiamaaGreatDoor.E
open Go Go.RowKit
set_option maxRecDepth 100000
variable [L : Lam]
theorem toks_sm (t : List UInt8) : ∀ f p out, (∀ x, x ∈ out → (Tok.name x).size ≤ t.length) → ∀ x, x ∈ (toks t f p out).1 → (Tok.name x).size ≤ t.length := by
 intro f
 induction f with
 | zero => intro p out h; exact h
 | succ f ih =>
  intro p out h
  rw [toks]
  split
  ·exact h
  ·rename_i c r hd
   split
   ·split
    ·intro x hx; cases hx
    ·refine ih _ _ fun x hx => ?_
     rcases List.mem_append.1 hx with k | k
     ·exact h x k
     ·obtain rfl := List.mem_singleton.1 k; exact Nat.zero_le _
   ·split
    ·intro x hx; cases hx
    ·split
     ·intro x hx; cases hx
     ·refine ih _ _ fun x hx => ?_
      rcases List.mem_append.1 hx with k | k
      ·exact h x k
      ·obtain rfl := List.mem_singleton.1 k
       have hl : ((c :: r).take (wrd (c :: r))).length ≤ t.length := by
        rw [← hd, List.length_take, List.length_drop]; omega
       unfold wordT
       split
       ·exact Nat.zero_le _
       split
       ·exact Nat.zero_le _
       split
       ·exact Nat.zero_le _
       ·show (bs _).size ≤ _; rw [size_bs]; exact hl
theorem tokR_sm (t : List UInt8) : ∀ x, x ∈ (tokR t).1 → (Tok.name x).size ≤ t.length := by
 unfold tokR
 split
 ·intro x hx; cases hx
 ·exact toks_sm t _ _ [] (fun x hx => by cases hx)
theorem sD_app {a b : List Dat} (h : sD a) (g : sD b) : sD (a ++ b) := fun d hd => (List.mem_append.1 hd).elim (h d) (g d)
theorem sD_one {d : Dat} (h : d.name.size ≤ 1099511627776) : sD [d] := fun x hx => by obtain rfl := List.mem_singleton.1 hx; exact h
theorem tokenR_sD {t : Tok} {s : Rds} (ht : t.name.size ≤ 1099511627776) (h : sD s.1) : sD (tokenR t s).1.1 := by
 have hp : ∀ (x : Dat) (s : Rds), x.name.size ≤ 1099511627776 → sD s.1 → sD (putR x s).1.1 := fun x s hx hs => by
  unfold putR
  split
  ·exact hs
  ·exact sD_app hs (sD_one hx)
 have hb : ∀ q, sD (beginR q s).1.1 := fun q => by
  unfold beginR
  split
  ·exact h
  ·have h2 : sD (opR q s).1 := hp lisD s (Nat.zero_le _) h
   split
   ·exact hp quoD _ (by decide) h2
   ·exact h2
 unfold tokenR
 split
 ·exact hb _
 split
 ·exact hb _
 split
 ·unfold closeR
  split
  ·exact h
  ·split <;> exact h
 ·unfold leafR
  split
  ·exact h
  ·exact sD_app h (sD_one ht)
theorem readR_sD : ∀ (ts : List Tok) (i : Nat) (s : Rds), (∀ x, x ∈ ts → (Tok.name x).size ≤ 1099511627776) → sD s.1 → sD (readR ts i s).1 := by
 intro ts
 induction ts with
 | nil =>
  intro i s _ h
  rw [readR]
  split
  ·intro d hd; cases hd
  ·exact h
 | cons t r ih =>
  intro i s ht h
  rw [readR]
  split
  ·intro d hd; cases hd
  ·split
   ·intro d hd; cases hd
   ·exact ih _ _ (fun x hx => ht x (by simp [hx])) (tokenR_sD (ht t (by simp)) h)
theorem dataR_sD {t : List UInt8} (hl : t.length ≤ 1048576) : sD (dataR t).1 := by
 unfold dataR
 split
 ·intro d hd; cases hd
 ·exact readR_sD _ _ _ (fun x hx => Nat.le_trans (tokR_sm t x hx) (by omega)) (fun d hd => by cases hd)
section
variable {σ τ : AH} {R : AEnd → AH → Prop}
theorem nms_nil (φ : Nat) (τ : AH) : Nms φ τ nilT [] := ⟨.inl ⟨.inl rfl, rfl⟩, (by rintro ⟨_, _, _, e⟩; cases e), (by simp), (by simp)⟩
theorem Dw23 : Dw 2 = 130 ∧ Dw 3 = 400 ∧ Sz 2 = 1470 ∧ Sz 3 = 4710 := by decide
theorem c_spec_l4Datum {ns : List Int} {φ u : Nat} {K : AEnd → AH → Prop} (hb : Bts ns) (hu : u ≤ 900000)
  (h : ∀ (ds : List Dat) (u' : Nat), sD ds → u ≤ u' → u' ≤ u + 1000 → K (.ret (roD ds)) (τ.set φ (Sr ns u'))) : acall TP fn_spec_l4Datum [.ptr φ 0 0 0] (τ.set φ (Sr ns u)) K := by
 obtain ⟨D2, D3, S2, S3⟩ := Dw23
 refine s_spec_l4Datum_ok ?_
 unfold s_spec_l4Datum
 refine bsl_pick (n := 3) (xs := [2, 3, 3]) (AH.set_same ..) hb (by omega) rfl rfl (by omega) (by omega) fun v hv => ?_
 rw [AH.set_set]
 obtain ⟨d, hd, rfl⟩ : ∃ d : Nat, (d = 2 ∨ d = 3) ∧ v = (d : Int) := by
  simp only [List.mem_cons, List.not_mem_nil, or_false] at hv
  rcases hv with rfl | rfl | rfl
  ·exact ⟨2, .inl rfl, rfl⟩
  ·exact ⟨3, .inr rfl, rfl⟩
  ·exact ⟨3, .inr rfl, rfl⟩
 simp only [RR]
 have hDw : Dw d ≤ 400 ∧ Sz d ≤ 4710 := by rcases hd with rfl | rfl <;> omega
 refine src_all hb d φ _ _ _ [] _ (nms_nil φ τ) (by simp) (by omega) (by omega) fun x u1 a1 a2 a3 => ?_
 simp only [RR]
 refine jn_by (P := fun y T => ∃ (x : ByteArray) (u' : Nat) (τ' : AH), y = (str x, ()) ∧ T = τ'.set φ (Sr ns u') ∧ Keep φ τ τ' ∧ x.size ≤ 10000 ∧ u ≤ u' ∧ u' ≤ u + 1000) ?_ ?_
 ·rintro y T ⟨x, u', τ', rfl, rfl, hK, hx, h1, h2⟩
  have hx2 : (by8 x).length ≤ 1048576 := by rw [← size_by8]; omega
  have ex : (str x : AV) = str (bs (by8 x)) := by rw [bs_by8]
  simp only [ex]
  refine c_spec_ReadData hx2 ?_
  have hsd := dataR_sD hx2
  generalize dataR (by8 x) = E at hsd ⊢
  simp only [RR]
  intro φ2 hφ2
  refine sto_own (es := [[iv 0, iv 0, .val (.slice none 0 0)]]) (cs := [iv E.2.1, iv (E.2.2 : Nat), roD E.1]) (AH.set_same ..) (by simp) rfl rfl rfl (by intro y hy; simp only [List.mem_cons, List.not_mem_nil, or_false] at hy; rcases hy with rfl | rfl | rfl <;> rfl) ?_
  simp only [List.set_cons_zero, AH.set_set]
  refine frz_cell hφ2 rfl ?_
  have l0 : ∀ τ, lod (.rop [iv E.2.1, iv (E.2.2 : Nat), roD E.1] 0) τ = some (iv E.2.1) := fun _ => rfl
  have l2 : ∀ τ, lod (.rop [iv E.2.1, iv (E.2.2 : Nat), roD E.1] 2) τ = some (roD E.1) := fun _ => rfl
  simp only [l0, l2, RR]
  have eb : bld [(.val (.int .i64 0)), (.val (.int .i64 0)), (.val (.int .i64 0)), (.val (.string ⟨#[]⟩))] [(0, 1), (1, 1), (2, 1), (3, 1)] [(0, (.val (.int .i64 1))), (1, (.val (.int .i64 (-1)))), (2, (.val (.int .i64 1)))] = some (.agg (encDat ⟨1, -1, 1, ⟨#[]⟩⟩)) := rfl
  by_cases c : E.2.1 = 0
  ·simp only [c, RR]
   exact aret_sub (Keep.sub hK) (h _ _ hsd h1 h2)
  ·simp only [c, eb, RR]
   refine bsl1 (row := encDat ⟨1, -1, 1, ⟨#[]⟩⟩) rfl (by omega) fun ψ hψ => ?_
   refine aret_freeze (a' := roD [⟨1, -1, 1, ⟨#[]⟩⟩]) (AH.Sub.set (Keep.sub hK) _ ?_) ?_ (h [⟨1, -1, 1, ⟨#[]⟩⟩] _ (sD_one (Nat.zero_le _)) h1 h2)
   ·exact (Keep.sub hK).none hψ
   ·exact fz_row (es := [encDat ⟨1, -1, 1, ⟨#[]⟩⟩]) (.inr ⟨ψ, 0, rfl, AH.set_same ..⟩) (fun χ hχ => by obtain rfl : χ = ψ := (by simpa [famL] using hχ); exact (Keep.sub hK).none hψ) rfl (by intro c hc; obtain rfl := List.mem_singleton.1 hc; rfl) fun _ _ _ _ => .same _
 ·intro k hk
  refine chance hb (by omega) (by omega) fun b => ?_
  cases b with
  | true =>
   simp only [RR]
   refine bsl_next (ws := [⟨#[103]⟩, ⟨#[104]⟩, ⟨#[99, 97, 114]⟩]) hb (by omega) rfl rfl (by omega) (by omega) fun ψ w hw hne hψ => ?_
   have hw30 : w.size ≤ 30 := by
    simp only [List.mem_cons, List.not_mem_nil, or_false] at hw
    rcases hw with rfl | rfl | rfl <;> decide
   refine cat 30 30 (by decide) hw30 (by omega) fun z1 s1 => ?_
   refine cat _ 30 s1 (by decide) (by omega) fun z2 s2 => ?_
   refine cat _ 4710 s2 (by omega) (by omega) fun z3 s3 => ?_
   refine cat _ 30 s3 (by decide) (by omega) fun z4 s4 => ?_
   exact hk _ _ ⟨z4, _, _, rfl, rfl, .set (.refl φ τ) hψ, by omega, by omega, by omega⟩
  | false =>
   simp only [RR]
   exact hk _ _ ⟨x, _, _, rfl, rfl, .refl φ τ, by omega, by omega, by omega⟩
structure LD (sz : Nat) (σ : AH) (φ : Nat) (τ : AH) (a : AV) (es : List (List AV)) : Prop where
 buf : Buf τ sz a es
 far : φ ∉ famL a
 new : ∀ ψ, ψ ∈ famL a → σ ψ = none
variable {sz φ : Nat} {a : AV} {es : List (List AV)} {S : Fam}
theorem LD.set (h : LD sz σ φ τ a es) : Buf (τ.set φ S) sz a es := buf_keep h.buf fun ψ hf => AH.set_ne' (by rintro rfl; exact h.far hf)
theorem LD.fz (h : LD sz σ φ τ a es) (hz : ∀ c, c ∈ es → c.length = sz) : Fz (σ.set φ S) (τ.set φ S) a (.ro es) :=
 fz_row h.set (fun ψ hψ => by rw [AH.set_ne' (by rintro rfl; exact h.far hψ)]; exact h.new ψ hψ) rfl hz fun _ _ _ _ => .same _
theorem LD.nil (σ τ : AH) (φ sz : Nat) : LD sz σ φ τ nilS [] := ⟨.inl ⟨.inl rfl, rfl⟩, (fun c => by cases c), fun ψ c => by cases c⟩
theorem LD.push {z row : List AV} {x : AV} {k : AV → AH → Prop} (hL : LD sz σ φ τ a es) (hK : Keep φ σ τ) (he : afillS sz [z] [(0, x)] = some [row]) (hs : sz ≤ 1000) (hr : row.length = sz) (ho : ∀ y, y ∈ row → y.one = true) (hn : es.length + 1 ≤ 4294967296)
  (hk : ∀ a' τ', Keep φ σ τ' → LD sz σ φ τ' a' (es ++ [row]) → k a' (τ'.set φ S)) : bsl sz z 1 [(0, x)] (τ.set φ S) fun v T => E.app sz a v T k := by
 refine push_row hL.set he hs hr ho hn fun a' T hB hKp hfam => ?_
 have hTφ : (τ.set φ S) φ = some S := AH.set_same ..
 have e5 : T = T.set φ S := (AH.set_self (by rw [hKp φ hL.far (by rw [hTφ]; simp), hTφ])).symm
 have n0 : ∀ ψ, ψ ≠ φ → τ ψ = none → σ ψ = none := fun ψ hψ hn => by
  cases e : σ ψ with
  | none => rfl
  | some F => rw [hK ψ F hψ e] at hn; cases hn
 have hK2 : Keep φ σ T := fun ψ F hne hF => by
  have e1 : (τ.set φ S) ψ = some F := by rw [AH.set_ne' hne]; exact hK ψ F hne hF
  rw [hKp ψ (fun hf => by rw [hL.new ψ hf] at hF; cases hF) (by rw [e1]; simp)]; exact e1
 have hfar : φ ∉ famL a' := fun hf => by
  rcases hfam φ hf with c | c
  ·exact hL.far c
  ·rw [hTφ] at c; cases c
 rw [e5]
 refine hk a' T hK2 ⟨hB, hfar, fun ψ hf => ?_⟩
 rcases hfam ψ hf with c | c
 ·exact hL.new ψ c
 ·have hne : ψ ≠ φ := by rintro rfl; exact hfar hf
  rw [AH.set_ne' hne] at c
  exact n0 ψ hne c
theorem LD.wr (hL : LD sz σ φ τ a es) (hK : Keep φ σ τ) {i : Nat} (hi : i < es.length) (hz : ∀ c, c ∈ es → c.length = sz) : ∃ φd st, (∀ S, idx sz a (iv (i : Int)) (τ.set φ S) = some (.ptr φd st i 0)) ∧
  ∀ (S : Fam) (off : Nat) (w : AV) (k : AH → Prop), off < sz → w.one = true → (∀ τ', Keep φ σ τ' → LD sz σ φ τ' a (es.set i (es[i].set off w)) → k (τ'.set φ S)) → sto 1 (.ptr φd st i off) w (τ.set φ S) k := by
 rcases hL.buf with ⟨_, e⟩ | ⟨φd, st, rfl, hF⟩
 ·subst e; simp at hi
 ·have hne : φd ≠ φ := by rintro rfl; exact hL.far (by simp [famL])
  have hF' : ∀ S, (τ.set φ S) φd = some ⟨st, sz, es⟩ := fun S => by rw [AH.set_ne' hne]; exact hF
  refine ⟨φd, st, fun S => ?_, fun S off w k ho h1 hk => ?_⟩
  ·have := idx_own (st := st) (off := 0) (hF' S) hi
   rwa [Nat.zero_add] at this
  ·refine sto_fld (hF' S) (List.getElem?_eq_getElem hi) ho (acells_one h1) h1 ?_
   rw [AH.set_comm _ _ _ hne.symm]
   refine hk _ (fun ψ F hψ hF2 => ?_) ⟨.inr ⟨φd, st, by simp, by rw [AH.set_same]⟩, hL.far, hL.new⟩
   have hψd : ψ ≠ φd := by rintro rfl; rw [hL.new ψ (by simp [famL])] at hF2; cases hF2
   rw [AH.set_ne' hψd]; exact hK ψ F hψ hF2
end
end Go.Proofs.YtbapalgndjiamaaGreatDoor.E
/- Draws: data that are made, and bent. -/
namespace Go.Proofs.YtbapalgndjiamaaGreatDoor.E
open Go Go.RowKit
set_option maxRecDepth 100000
section
variable [L : Lam]
variable {σ τ : AH} {R : AEnd → AH → Prop}
theorem c_spec_l2Name {ns : List Int} {φ u : Nat} {K : AEnd → AH → Prop} (hb : Bts ns) (hu : u ≤ 950000) (h : ∀ w : ByteArray, w.size ≤ 30 → K (.ret (str w)) (τ.set φ (Sr ns (u + 1)))) : acall TP fn_spec_l2Name [.ptr φ 0 0 0] (τ.set φ (Sr ns u)) K := by
 refine s_spec_l2Name_ok ?_
 unfold s_spec_l2Name
 refine bsl_next (ws := [⟨#[120]⟩, ⟨#[121]⟩, ⟨#[102]⟩, ⟨#[43]⟩, ⟨#[99, 97, 114]⟩, ⟨#[105, 102]⟩, ⟨#[110, 117, 108, 108, 63]⟩, ⟨#[97]⟩]) hb (by omega) rfl rfl (by omega) (by omega) fun ψ w hw hne hψ => ?_
 have hw30 : w.size ≤ 30 := by
  simp only [List.mem_cons, List.not_mem_nil, or_false] at hw
  rcases hw with rfl | rfl | rfl | rfl | rfl | rfl | rfl | rfl <;> decide
 exact aret_sub (Keep.sub (.set (.refl φ τ) hψ)) (h w hw30)
theorem c_spec_l3Leaf {ns : List Int} {φ u : Nat} {p : Int} {K : AEnd → AH → Prop} (hb : Bts ns) (hu : u ≤ 900000) (h : ∀ (d : Dat) (u' : Nat), d.name.size ≤ 30 → u ≤ u' → u' ≤ u + 2 → K (.ret (.agg (encDat d))) (τ.set φ (Sr ns u'))) : acall TP fn_spec_l3Leaf [.ptr φ 0 0 0, iv p] (τ.set φ (Sr ns u)) K := by
 refine s_spec_l3Leaf_ok ?_
 unfold s_spec_l3Leaf
 intro ψ hψ
 obtain ⟨hne, hψ'⟩ := AH.set_none.1 hψ
 rw [AH.set_comm _ _ _ hne.symm]
 have e1 : ∀ v : Int, bld [(.val (.int .i64 0)), (.val (.int .i64 0)), (.val (.int .i64 0)), (.val (.string ⟨#[]⟩))] [(0, 1), (1, 1), (2, 1), (3, 1)] [(0, (.val (.int .i64 1))), (1, iv p), (2, iv v)] = some (.agg (encDat ⟨1, p, v, ⟨#[]⟩⟩)) := fun v => rfl
 have e2 : ∀ v : Int, bld [(.val (.int .i64 0)), (.val (.int .i64 0)), (.val (.int .i64 0)), (.val (.string ⟨#[]⟩))] [(0, 1), (1, 1), (2, 1), (3, 1)] [(0, (.val (.int .i64 2))), (1, iv p), (2, iv v)] = some (.agg (encDat ⟨2, p, v, ⟨#[]⟩⟩)) := fun v => rfl
 have e3 : ∀ w : ByteArray, bld [(.val (.int .i64 0)), (.val (.int .i64 0)), (.val (.int .i64 0)), (.val (.string ⟨#[]⟩))] [(0, 1), (1, 1), (2, 1), (3, 1)] [(0, (.val (.int .i64 3))), (1, iv p), (3, str w)] = some (.agg (encDat ⟨3, p, 0, w⟩)) := fun v => rfl
 have fin : ∀ (d : Dat) (u' : Nat), d.name.size ≤ 30 → u ≤ u' → u' ≤ u + 2 → sto 4 (.ptr ψ 0 0 0) (.agg (encDat d)) ((τ.set ψ ⟨0, 4, [[iv 0, iv 0, iv 0, str ⟨#[]⟩]]⟩).set φ (Sr ns u')) fun σ => og (lodA 4 (.ptr ψ 0 0 0) σ) fun r4 => aret r4 σ K := fun d u' h1 h2 h3 => by
  rw [← AH.set_comm _ _ _ hne.symm]
  exact fin_cell (by rw [AH.set_ne' hne]; exact hψ') rfl rfl (one_encDat d) (h d u' h1 h2 h3)
 refine nx hb (by omega) (by omega) (by omega) fun v v0 v1 => ?_
 simp only [RR]
 by_cases c0 : v = 0
 ·simp only [c0, RR]
  refine nx hb (by omega) (by omega) (by omega) fun w w0 w1 => ?_
  simp only [e1, RR]
  exact fin _ _ (Nat.zero_le _) (by omega) (by omega)
 by_cases c1 : v = 1
 ·subst c1
  simp only [show ¬ (1 : Int) = 0 by omega, RR]
  refine nx hb (by omega) (by omega) (by omega) fun w w0 w1 => ?_
  simp only [e2, RR]
  exact fin _ _ (Nat.zero_le _) (by omega) (by omega)
 simp only [c0, c1, RR]
 refine c_spec_l2Name hb (by omega) fun w hw => ?_
 simp only [e3, RR]
 exact fin ⟨3, p, 0, w⟩ (u + 1 + 1) hw (by omega) (by omega)
def MkDr (ns : List Int) (d : Nat) : Prop := ∀ (σ τ : AH) (φ u : Nat) (a : AV) (ds : List Dat) (p : Int) (K : AEnd → AH → Prop), LD 4 σ φ τ a (ds.map encDat) → Keep φ σ τ → sD ds → ds.length + 4 ^ d ≤ 1000000 → u + 5 * 4 ^ d ≤ 900000 →
 (∀ (a' : AV) (τ' : AH) (ds' : List Dat) (u' : Nat), Keep φ σ τ' → LD 4 σ φ τ' a' (ds'.map encDat) → sD ds' → ds.length < ds'.length → ds'.length ≤ ds.length + 4 ^ d → u ≤ u' → u' ≤ u + 5 * 4 ^ d → K (.ret a') (τ'.set φ (Sr ns u'))) →
 acall TP fn_spec_l3Make [.ptr φ 0 0 0, a, iv p, iv (d : Int)] (τ.set φ (Sr ns u)) K
theorem LD.keep {sz φ : Nat} {a : AV} {es : List (List AV)} {τ' : AH} (h : LD sz σ φ τ a es) (k : Keep φ τ τ') : LD sz σ φ τ' a es :=
 ⟨buf_keep h.buf fun ψ hψ => by
  obtain ⟨F, hF⟩ := buf_live h.buf hψ
  rw [hF, k ψ F (by rintro rfl; exact h.far hψ) hF], h.far, h.new⟩
theorem LD.len {sz φ : Nat} {a : AV} {X : Type} {enc : X → List AV} {xs : List X} (h : LD sz σ φ τ a (xs.map enc)) : lenS a = some (iv (xs.length : Int)) := by have := buf_len h.buf; rwa [List.length_map] at this
set_option maxHeartbeats 1000000 in
theorem make_all' {ns : List Int} (hb : Bts ns) : ∀ d, d ≤ 8 → MkDr ns d := by
 intro d
 induction d with
 | zero =>
  intro _ σ τ φ u a ds p K hL hK hsd hl hu h
  refine s_spec_l3Make_ok ?_
  unfold s_spec_l3Make
  refine jn_by (P := fun z T => z = (.ptr φ 0 0 0, a, iv p, iv ((0 : Nat) : Int), bv true, ()) ∧ T = τ.set φ (Sr ns u)) ?_ ?_
  ·rintro z T ⟨rfl, rfl⟩
   simp only [RR]
   refine c_spec_l3Leaf hb (by omega) fun x u' hx h1 h2 => ?_
   simp only [RR]
   refine hL.push hK (row := encDat x) rfl (by omega) rfl (one_encDat x) (by simp; omega) fun a' τ' hK' hL' => ?_
   exact ret_here (h a' τ' (ds ++ [x]) u' hK' (by simpa using hL') (sD_app hsd (sD_one (by omega))) (by simp) (by simp) h1 (by omega))
  ·intro k hk
   have e0 : ((0 : Nat) : Int) = 0 := rfl
   simp only [e0, RR] at hk ⊢
   exact hk _ _ ⟨rfl, rfl⟩
 | succ d ih =>
  intro hd8 σ τ φ u a ds p K hL hK hsd hl hu h
  have ih := ih (by omega)
  have hp : 1 ≤ 4 ^ d := Nat.one_le_pow _ _ (by omega)
  have hp2 : 4 ^ (d + 1) = 4 * 4 ^ d := by rw [Nat.pow_succ, Nat.mul_comm]
  have hp3 : 4 ^ d ≤ 4 ^ 8 := Nat.pow_le_pow_right (by omega) (by omega)
  have hp8 : (4 : Nat) ^ 8 = 65536 := by decide
  rw [hp2] at hu h hl
  refine s_spec_l3Make_ok ?_
  unfold s_spec_l3Make
  have lv := hL.len
  refine jn_by (P := fun z T => ∃ (b : Bool) (u1 : Nat), z = (.ptr φ 0 0 0, a, iv p, iv ((d + 1 : Nat) : Int), bv b, ()) ∧ T = τ.set φ (Sr ns u1) ∧ u ≤ u1 ∧ u1 ≤ u + 1) ?_ ?_
  ·rintro z T ⟨b, u1, rfl, rfl, h1, h2⟩
   cases b with
   | true =>
    simp only [RR]
    refine c_spec_l3Leaf hb (by omega) fun x u' hx g1 g2 => ?_
    simp only [RR]
    refine hL.push hK (row := encDat x) rfl (by omega) rfl (one_encDat x) (by simp; omega) fun a' τ' hK' hL' => ?_
    exact ret_here (h a' τ' (ds ++ [x]) u' hK' (by simpa using hL') (sD_app hsd (sD_one (by omega))) (by simp) (by simp; omega) (by omega) (by omega))
   | false =>
    have eb : bld [(.val (.int .i64 0)), (.val (.int .i64 0)), (.val (.int .i64 0)), (.val (.string ⟨#[]⟩))] [(0, 1), (1, 1), (2, 1), (3, 1)] [(0, (.val (.int .i64 4))), (1, iv p)] = some (.agg (encDat ⟨4, p, 0, ⟨#[]⟩⟩)) := rfl
    simp only [lv, eb, RR]
    refine hL.push hK (row := encDat ⟨4, p, 0, ⟨#[]⟩⟩) rfl (by omega) rfl (one_encDat _) (by simp; omega) fun a1 τ1 hK1 hL1 => ?_
    have hL1' : LD 4 σ φ τ1 a1 ((ds ++ [(⟨4, p, 0, ⟨#[]⟩⟩ : Dat)]).map encDat) := by simpa using hL1
    refine nx hb (by omega) (by omega) (by omega) fun v v0 v1 => ?_
    simp only [RR]
    refine lp_by (fun n y T => ∃ (a' : AV) (τ' : AH) (ds' : List Dat) (u' : Nat), y = (.ptr φ 0 0 0, a', iv ((d + 1 : Nat) : Int), iv (ds.length : Int), iv (n : Int), ()) ∧ T = τ'.set φ (Sr ns u') ∧ Keep φ σ τ' ∧ LD 4 σ φ τ' a' (ds'.map encDat) ∧ sD ds' ∧ ds.length < ds'.length ∧ n ≤ v.toNat ∧ ds'.length + n * 4 ^ d ≤ ds.length + 1 + v.toNat * 4 ^ d ∧ u1 + 1 ≤ u' ∧ u' + n * (5 * 4 ^ d) ≤ u1 + 1 + v.toNat * (5 * 4 ^ d)) v.toNat
     ⟨a1, τ1, ds ++ [(⟨4, p, 0, ⟨#[]⟩⟩ : Dat)], u1 + 1, by rw [show ((v.toNat : Nat) : Int) = v by omega] <;> rfl, rfl, hK1, hL1', sD_app hsd (sD_one (Nat.zero_le _)), by simp, Nat.le_refl _, by simp, Nat.le_refl _, Nat.le_refl _⟩ ?_
    rintro n y T ⟨a', τ', ds', u', rfl, rfl, hK', hL', hsd', hlt, hnv, hln, hu1, hu2⟩ R' hR'
    have hv3 : v.toNat ≤ 3 := by omega
    have hvm : v.toNat * 4 ^ d ≤ 3 * 4 ^ d := Nat.mul_le_mul_right _ hv3
    have hvm2 : v.toNat * (5 * 4 ^ d) ≤ 3 * (5 * 4 ^ d) := Nat.mul_le_mul_right _ hv3
    by_cases c : (0 : Int) < (n : Int)
    ·obtain ⟨m, rfl⟩ : ∃ m, n = m + 1 := ⟨n - 1, by omega⟩
     have em : (m + 1) * 4 ^ d = m * 4 ^ d + 4 ^ d := Nat.succ_mul ..
     have em2 : (m + 1) * (5 * 4 ^ d) = m * (5 * 4 ^ d) + 5 * 4 ^ d := Nat.succ_mul ..
     have es : ibin .sub (iv ((d + 1 : Nat) : Int)) (.val (.int .i64 1)) = some (iv (d : Int)) := by rw [ibin_sub (by omega) (by omega)]; congr 3; omega
     have es2 : ibin .sub (iv ((m + 1 : Nat) : Int)) (.val (.int .i64 1)) = some (iv (m : Int)) := by rw [ibin_sub (by omega) (by omega)]; congr 3; omega
     simp only [c, es, RR]
     refine ih σ τ' φ u' a' ds' (ds.length : Int) _ hL' hK' hsd' (by omega) (by omega) fun a2 τ2 ds2 u2 k1 k2 k3 k4 k5 k6 k7 => ?_
     simp only [es2, RR]
     exact hR' _ _ m _ (by omega) (.refl _) ⟨a2, τ2, ds2, u2, rfl, rfl, k1, k2, k3, by omega, by omega, by omega, by omega, by omega⟩
    ·obtain rfl : n = 0 := by omega
     simp only [c, RR]
     exact ret_here (h a' τ' ds' u' hK' hL' hsd' hlt (by omega) (by omega) (by omega))
  ·intro k hk
   have c1 : ¬ ((d + 1 : Nat) : Int) = 0 := by omega
   by_cases c2 : (30 : Int) < (ds.length : Int)
   ·simp only [c1, lv, c2, RR]
    exact hk _ _ ⟨true, u, rfl, rfl, by omega, by omega⟩
   ·simp only [c1, lv, c2, RR]
    refine chance hb (by omega) (by omega) fun b => ?_
    simp only [RR]
    exact hk _ _ ⟨b, u + 1, rfl, rfl, by omega, by omega⟩
theorem pickI {φ u n : Nat} {ns xs : List Int} {ps : List (Nat × AV)} {K : AEnd → AH → Prop} (hb : Bts ns) (hu : u ≤ 900000) (he : afillS 1 (List.replicate n [iv 0]) ps = some (xs.map fun x => [iv x])) (hn : xs.length = n) (h0 : 0 < n) (h1 : n ≤ 1000)
  (h : ∀ v, K (.ret (iv v)) (τ.set φ (Sr ns (u + 1)))) : bsl 1 [iv 0] n ps (τ.set φ (Sr ns u)) fun v4 σ => acall TP fn_spec_l1Pick [.ptr φ 0 0 0, v4] σ K :=
 bsl_pick (AH.set_same ..) hb (by omega) he hn h0 h1 fun v _ => by rw [AH.set_set]; exact h v
set_option maxHeartbeats 1000000 in
theorem c_spec_l3Bent {ns : List Int} {φ u : Nat} {K : AEnd → AH → Prop} (hb : Bts ns) (hu : u ≤ 800000) (h : ∀ (ds : List Dat) (u' : Nat), sD ds → u ≤ u' → u' ≤ u + 2000 → K (.ret (roD ds)) (τ.set φ (Sr ns u'))) : acall TP fn_spec_l3Bent [.ptr φ 0 0 0] (τ.set φ (Sr ns u)) K := by
 refine s_spec_l3Bent_ok ?_
 unfold s_spec_l3Bent
 have h4 : (4 : Nat) ^ 4 = 256 := by decide
 refine make_all' hb 4 (by omega) τ τ φ u nilS [] (-1) _ (LD.nil ..) (.refl φ τ) (fun d hd => by cases hd) (by rw [h4]; simp) (by omega) fun a1 τ1 ds u1 hK hL hsd hlt hle hu1 hu2 => ?_
 rw [h4] at hle hu2
 simp only [List.length_nil, Nat.zero_add] at hlt hle
 have lv := hL.len
 simp only [lv, RR]
 refine nx hb (by omega) (by omega) (by omega) fun i i0 i1 => ?_
 obtain ⟨j, rfl⟩ : ∃ j : Nat, i = (j : Int) := ⟨i.toNat, by omega⟩
 have hj : j < ds.length := by omega
 have hz : ∀ ds : List Dat, ∀ c, c ∈ ds.map encDat → c.length = 4 := fun ds c hc => by obtain ⟨x, _, rfl⟩ := List.mem_map.1 hc; rfl
 obtain ⟨φd, st, w1, w2⟩ := hL.wr hK (i := j) (by simpa using hj) (hz _)
 have hsj := hsd _ (List.getElem_mem hj)
 simp only [RR]
 refine jn_by (P := fun y T => ∃ (a : AV) (τ' : AH) (ds' : List Dat) (u' : Nat), y = (a, ()) ∧ T = τ'.set φ (Sr ns u') ∧ Keep φ τ τ' ∧ LD 4 τ φ τ' a (ds'.map encDat) ∧ sD ds' ∧ u ≤ u' ∧ u' ≤ u + 2000) ?_ ?_
 ·rintro y T ⟨a, τ', ds', u', rfl, rfl, g1, g2, g3, g4, g5⟩
  exact aret_freeze (Keep.sub g1) (g2.fz (hz _)) (h ds' u' g3 g4 g5)
 ·intro k hk
  have put : ∀ (off : Nat) (w : AV) (d' : Dat) (u' : Nat), off < 4 → w.one = true → (encDat ds[j]).set off w = encDat d' → d'.name.size ≤ 1099511627776 → u ≤ u' → u' ≤ u + 2000 → sto 1 (.ptr φd st j off) w (τ1.set φ (Sr ns u')) fun σ => k (a1, ()) σ := fun off w d' u' ho h1 he hsz g1 g2 => by
   refine w2 _ off w _ ho h1 fun τ2 hK2 hL2 => hk _ _ ⟨a1, τ2, ds.set j d', u', rfl, rfl, hK2, ?_, fun d hd => ?_, g1, g2⟩
   ·rw [List.getElem_map, he] at hL2
    rw [List.map_set]; exact hL2
   ·rcases List.mem_or_eq_of_mem_set hd with c | c
    ·exact hsd d c
    ·rw [c]; exact hsz
  refine nx hb (by omega) (by omega) (by omega) fun v v0 v1 => ?_
  simp only [RR]
  by_cases c0 : v = 0
  ·simp only [c0, RR]
   refine pickI (xs := [0, 5, 1, 4]) hb (by omega) rfl rfl (by omega) (by omega) fun x => ?_
   simp only [w1, RR]
   exact put 0 (iv x) { ds[j] with kind := x } _ (by omega) rfl rfl hsj (by omega) (by omega)
  by_cases c1 : v = 1
  ·subst c1
   simp only [show ¬ (1 : Int) = 0 by omega, RR]
   refine pickI (xs := [-1, 0, 1, 90]) hb (by omega) rfl rfl (by omega) (by omega) fun x => ?_
   simp only [w1, RR]
   exact put 1 (iv x) { ds[j] with parent := x } _ (by omega) rfl rfl hsj (by omega) (by omega)
  by_cases c2 : v = 2
  ·subst c2
   simp only [show ¬ (2 : Int) = 0 by omega, show ¬ (2 : Int) = 1 by omega, RR]
   refine pickI (xs := [2, 1000000001]) hb (by omega) rfl rfl (by omega) (by omega) fun x => ?_
   simp only [w1, RR]
   exact put 2 (iv x) { ds[j] with num := x } _ (by omega) rfl rfl hsj (by omega) (by omega)
  by_cases c3 : v = 3
  ·subst c3
   simp only [show ¬ (3 : Int) = 0 by omega, show ¬ (3 : Int) = 1 by omega, show ¬ (3 : Int) = 2 by omega, RR]
   refine bsl_next (ws := [⟨#[]⟩, ⟨#[65]⟩, ⟨#[120]⟩]) hb (by omega) rfl rfl (by omega) (by omega) fun ψ w hw hne hψ => ?_
   have hw30 : w.size ≤ 30 := by
    simp only [List.mem_cons, List.not_mem_nil, or_false] at hw
    rcases hw with rfl | rfl | rfl <;> decide
   have K1 : Keep φ τ1 (τ1.set ψ ⟨0, 1, txs [⟨#[]⟩, ⟨#[65]⟩, ⟨#[120]⟩]⟩) := .set (.refl φ τ1) hψ
   obtain ⟨φd', st', w1', w2'⟩ := (hL.keep K1).wr (hK.trans K1) (i := j) (by simpa using hj) (hz _)
   simp only [w1', RR]
   refine w2' _ 3 (str w) _ (by omega) rfl fun τ2 hK2 hL2 => hk _ _ ⟨a1, τ2, ds.set j { ds[j] with name := w }, _, rfl, rfl, hK2, ?_, fun d hd => ?_, by omega, by omega⟩
   ·rw [List.getElem_map] at hL2
    rw [List.map_set]; exact hL2
   ·rcases List.mem_or_eq_of_mem_set hd with c | c
    ·exact hsd d c
    ·rw [c]; show w.size ≤ _; omega
  by_cases c4 : v = 4
  ·subst c4
   simp only [show ¬ (4 : Int) = 0 by omega, show ¬ (4 : Int) = 1 by omega, show ¬ (4 : Int) = 2 by omega, show ¬ (4 : Int) = 3 by omega, RR]
   refine mk_LRiiisE (by omega) (by omega) (by omega) fun χ hχ => ?_
   obtain ⟨hne, hχ'⟩ := AH.set_none.1 hχ
   rw [AH.set_comm _ _ _ hne.symm]
   refine hk _ _ ⟨.own χ 0 0 81, _, List.replicate 81 ⟨0, 0, 0, ⟨#[]⟩⟩, _, rfl, rfl, hK.set hχ', ⟨.inr ⟨χ, 0, by simp, by rw [AH.set_same, List.map_replicate]; rfl⟩, ?_, ?_⟩, fun d hd => ?_, by omega, by omega⟩
   ·intro hc
    have e : φ = χ := by simpa [famL] using hc
    exact hne e.symm
   ·intro ψ hc
    obtain rfl : ψ = χ := (by simpa [famL] using hc)
    cases e : τ ψ with
    | none => rfl
    | some F => rw [hK ψ F hne e] at hχ'; cases hχ'
   ·rw [List.eq_of_mem_replicate hd]; exact Nat.zero_le _
  simp only [c0, c1, c2, c3, c4, RR]
  exact hk _ _ ⟨a1, τ1, ds, _, rfl, rfl, hK, hL, hsd, by omega, by omega⟩
end
end Go.Proofs.YtbapalgndjiamaaGreatDoor.E
/- What is expanded and made: names are short, no list is empty. No program in sight. -/
namespace Go.Proofs.YtbapalgndjiamaaGreatDoor.E
open Go Go.RowKit
variable [L : Lam]
def okCr (c : Cor) : Prop := c.name.size ≤ 1099511627776 ∧ sD c.data
abbrev AllC (C : List Cor) : Prop := ∀ c, c ∈ C → okCr c
theorem AllC.app {C D : List Cor} (h : AllC C) (g : AllC D) : AllC (C ++ D) := fun c hc => (List.mem_append.1 hc).elim (h c) (g c)
theorem AllC.one {C : List Cor} {c : Cor} (h : AllC C) (g : okCr c) : AllC (C ++ [c]) := h.app fun x hx => by obtain rfl := List.mem_singleton.1 hx; exact g
section
variable {ds : List Dat}
theorem dat_sD (h : sD ds) (x : Nat) : (dat ds x).name.size ≤ 1099511627776 := by
 by_cases c : x < ds.length
 ·exact h _ (dat_mem c)
 ·unfold dat
  simp [List.getD, List.getElem?_eq_none (Nat.le_of_not_lt c)]
  exact Nat.zero_le _
theorem subG_sD (h : sD ds) (x : Nat) : ∀ f i, sD (subG ds x f i) := by
 intro f
 induction f with
 | zero => intro i d hd; simp [subG] at hd
 | succ f ih =>
  intro i d hd
  rw [subG] at hd
  split at hd
  ·rcases List.mem_cons.1 hd with rfl | hd
   ·exact dat_sD h i
   ·exact ih _ d hd
  ·cases hd
theorem kon_ok (h : sD ds) {p : Int} {x : Nat} : okCr (konC p (subD ds x)) := ⟨Nat.zero_le _, subG_sD h x _ _⟩
theorem loc_ok {p : Int} {a b : Nat} : okCr (locC p a b) := ⟨Nat.zero_le _, fun d hd => by cases hd⟩
theorem nod_ok {k p : Int} {a : Nat} : okCr (nodC k p a) := ⟨Nat.zero_le _, fun d hd => by cases hd⟩
theorem nmd_ok (h : sD ds) {k p : Int} {x : Nat} : okCr (nmdC k p (dat ds x).name) := ⟨dat_sD h x, fun d hd => by cases hd⟩
abbrev OkG (g : Gx) : Prop := ∀ x p sc C, AllC C → AllC (g x p sc C).1
theorem all_ok {g : Nat → List Cor → Ex} (hg : ∀ k C, AllC C → AllC (g k C).1) : ∀ ks C, AllC C → AllC (allE g ks C).1 := by
 intro ks
 induction ks with
 | nil => intro C h; exact h
 | cons k r ih =>
  intro C h
  rw [allE]
  split
  ·exact hg k C h
  ·exact ih _ (hg k C h)
theorem asg_ok (h : sD ds) {g : Gx} (hg : OkG g) {ks : List Nat} {p kind : Int} {sc : Sco} {C : List Cor} (hC : AllC C) : AllC (asgE ds g ks p sc C kind).1 := by
 unfold asgE
 split
 ·exact hC
 split
 ·exact hC
 split
 ·exact hC
 ·exact hg _ _ _ _ (hC.one (nmd_ok h))
theorem form_ok (h : sD ds) {g : Gx} (hg : OkG g) {w : ByteArray} {ks : List Nat} {p : Int} {sc : Sco} {C : List Cor} (hC : AllC C) : AllC (formE ds g w ks p sc C).1 := by
 unfold formE
 split
 ·split
  ·exact hC
  ·exact hC.one (kon_ok h)
 split
 ·split
  ·exact hC
  ·exact all_ok (fun k C h => hg _ _ _ _ h) _ _ (hC.one nod_ok)
 split
 ·split
  ·exact hC
  ·exact all_ok (fun k C h => hg _ _ _ _ h) _ _ (hC.one nod_ok)
 split
 ·unfold lamE
  split
  ·exact hC
  ·split
   ·exact hC
   ·split
    ·exact hC
    ·exact hg _ _ _ _ (hC.one nod_ok)
 split
 ·unfold letE
  split
  ·exact hC
  ·split
   ·exact hC
   ·rename_i ns vs _
    split
    ·exact hC
    ·have h1 : AllC (g (ks.getD 2 0) ((C.length + 1 : Nat) : Int) (ns :: sc) (C ++ [nodC 9 p 0] ++ [nodC 5 (C.length : Int) ns.length])).1 := hg _ _ _ _ ((hC.one nod_ok).one nod_ok)
     split
     ·exact h1
     ·exact all_ok (fun k C h => hg _ _ _ _ h) _ _ h1
 split
 ·exact asg_ok h hg hC
 ·exact asg_ok h hg hC
theorem exp_ok (h : sD ds) : ∀ f, OkG (expE ds f) := by
 intro f
 induction f with
 | zero => intro x p sc C hC; exact hC
 | succ f ih =>
  intro x p sc C hC
  rw [expE]
  split
  ·exact hC.one (kon_ok h)
  split
  ·split
   ·exact hC
   ·split
    ·exact hC.one loc_ok
    ·exact hC.one (nmd_ok h)
  split
  ·exact hC
  split
  ·exact form_ok h ih hC
  split
  ·exact hC
  ·exact all_ok (fun k C h => ih _ _ _ _ h) _ _ (hC.one nod_ok)
theorem expR_ok (h : sD ds) : AllC (expR ds).1 := by
 have no : AllC [] := fun c hc => by cases hc
 unfold expR
 split
 ·exact no
 split
 ·exact no
 split
 ·exact no
 ·exact exp_ok h _ _ _ _ _ no
end
def NE (B : St) : Prop := ∀ j, j < B.length → 1 ≤ lenS' B j
def NEx (B : St) (i : Nat) : Prop := ∀ j, j ≠ i → j < B.length → 1 ≤ lenS' B j
theorem NE.x {B : St} (h : NE B) (i : Nat) : NEx B i := fun j _ hj => h j hj
theorem NEx.put {B : St} {i : Nat} (h : NEx B i) (o : OpD) : NE (putS B i o) := fun j hj => by
 rw [len_put] at hj
 rw [lenS_put]
 split
 ·omega
 ·rename_i c
  exact h j (fun e => c ⟨e.symm, hj⟩) hj
theorem NE.set {B : St} {i k : Nat} {a : Int} (h : NE B) : NE (setS B i k a) := fun j hj => by
 rw [len_set] at hj; rw [lenS_set]; exact h j hj
theorem NE.end {B : St} {i : Nat} {e : Bool} (h : NE B) : NE (endS B i e) := by
 cases e
 ·exact h
 ·exact (h.x i).put _
theorem getD_memK {ks : List Nat} {j : Nat} (h : j < ks.length) : ks.getD j 0 ∈ ks := by
 have e : ks.getD j 0 = ks[j] := by simp [List.getD, h]
 rw [e]; exact List.getElem_mem h
theorem mkC_ne {cs : List Cor} (hw : WfC cs) : ∀ f x i e B, x < cs.length → cs.length ≤ f + x → i < B.length → NEx B i → NE (mkC cs f x i e B) := by
 intro f
 induction f with
 | zero => intro x i e B h1 h2; omega
 | succ f ih =>
  intro x i e B hx hf hi hB
  have hkd := fun k (hk : k ∈ kidsC cs x) => hw.kid hk
  have ihk : ∀ k, k ∈ kidsC cs x → ∀ i e B, i < B.length → NEx B i → NE (mkC cs f k i e B) := fun k hk i e B => ih k i e B (hkd k hk).2 (by have := hkd k hk; omega)
  have hk := hw.kids x hx
  have hkk := hw.kind x hx
  have lt : ∀ {C D : St} {j : Nat}, j < C.length → leS C D → j < D.length := fun h g => Nat.lt_of_lt_of_le h g.1
  rw [mkC]
  dsimp only
  generalize kidsC cs x = ks at *
  unfold hasK at hk
  split
  ·exact (hB.put _).end
  split
  ·exact (hB.put _).end
  split
  ·exact (hB.put _).end
  split
  ·rename_i c5
   rw [if_neg (by omega), if_pos (.inl c5)] at hk
   refine (ihk _ (getD_memK (by omega)) _ _ _ (by rw [len_put]; simp) fun j hj hl => ?_).end
   rw [len_put] at hl
   rw [lenS_put]
   have hl2 : j < B.length := by simp at hl; omega
   split
   ·omega
   ·rename_i c
    have := hB j (fun e => c ⟨e.symm, hl⟩) hl2
    unfold lenS' at this ⊢
    simpa [List.getD, List.getElem?_append_left hl2] using this
  split
  ·rename_i c78
   rw [if_neg (by omega), if_pos (by omega)] at hk
   exact ((ihk _ (getD_memK (by omega)) _ _ _ hi hB).x i |>.put _).end
  split
  ·rename_i c4
   rw [if_pos c4] at hk
   have n1 := ihk _ (getD_memK (j := 0) (by omega)) i false B hi hB
   have i1 := lt hi (mkC_le cs f (ks.getD 0 0) i false B)
   have n2 := ihk _ (getD_memK (j := 1) (by omega)) i e _ (by rw [len_put]; exact i1) (((n1.x i).put (oc0 6)).x i)
   have i2 := lt (show i < (putS (mkC cs f (ks.getD 0 0) i false B) i (oc0 6)).length by rw [len_put]; exact i1) (mkC_le cs f (ks.getD 1 0) i e _)
   cases e with
   | true =>
    simp only [if_true]
    exact ihk _ (getD_memK (j := 2) (by omega)) i true _ (by rw [len_set]; exact i2) (n2.set.x i)
   | false =>
    simp only [Bool.false_eq_true, if_false]
    exact (ihk _ (getD_memK (j := 2) (by omega)) i false _ (by rw [len_set, len_put]; exact i2) ((((n2.x i).put _).set).x i)).set
  split
  ·rename_i c6
   rw [if_neg (by omega), if_neg (by omega), if_pos c6] at hk
   have hne : ks ≠ [] := by rintro rfl; simp at hk
   have hsp := getD_last hne
   have hlm : ks.getLastD 0 ∈ ks := by
    have : ks.getLastD 0 ∈ ks.dropLast ++ [ks.getLastD 0] := List.mem_append_right _ (List.mem_singleton.2 rfl)
    rwa [hsp] at this
   have hmem : ∀ k, k ∈ ks.dropLast → k ∈ ks := fun k hm => by rw [← hsp]; exact List.mem_append_left _ hm
   have hm : ∀ l : List Nat, (∀ k, k ∈ l → k ∈ ks) → ∀ B, i < B.length → NEx B i → i < (manyS (fun k B => mkC cs f k i false B) (fun B => putS B i (oc0 7)) l B).length ∧ NEx (manyS (fun k B => mkC cs f k i false B) (fun B => putS B i (oc0 7)) l B) i := by
    intro l
    induction l with
    | nil => intro _ B h1 h2; exact ⟨h1, h2⟩
    | cons k r ih2 =>
     intro hl B h1 h2
     rw [manyS]
     exact ih2 (fun q hq => hl q (by simp [hq])) _ (by rw [len_put]; exact lt h1 (mkC_le ..)) (((ihk k (hl k (by simp)) i false B h1 h2).x i).put _ |>.x i)
   obtain ⟨m1, m2⟩ := hm _ hmem B hi hB
   exact ihk _ hlm i e _ m1 m2
  ·have hm : ∀ l : List Nat, (∀ k, k ∈ l → k ∈ ks) → ∀ B, i < B.length → NEx B i → NEx (manyS (fun k B => mkC cs f k i false B) id l B) i := by
    intro l
    induction l with
    | nil => intro _ B _ h2; exact h2
    | cons k r ih2 =>
     intro hl B h1 h2
     rw [manyS]
     exact ih2 (fun q hq => hl q (by simp [hq])) _ (lt h1 (mkC_le ..)) ((ihk k (hl k (by simp)) i false B h1 h2).x i)
   exact (hm ks (fun k h => h) B hi hB).put _
end Go.Proofs.YtbapalgndjiamaaGreatDoor.E
/- Draws: code, of one's own. -/
namespace Go.Proofs.YtbapalgndjiamaaGreatDoor.E
open Go Go.RowKit
set_option maxRecDepth 100000
variable [L : Lam]
variable {σ τ τ' : AH} {R : AEnd → AH → Prop}
abbrev BxX := Int × List (List AV)
abbrev rowX (p : BxX) (a : AV) : List AV := [iv p.1, a]
abbrev innX (p : BxX) : List (List AV) := p.2
def OkRow (r : List AV) : Prop := ∃ (o : OpD) (a : AV), r = encOpA o a ∧ (a = roD o.data ∨ (a = nilS ∧ o.data = [])) ∧ sO o
theorem ok_enc {o : OpD} (h : sO o) : OkRow (encOp o) := ⟨o, roD o.data, rfl, .inl rfl, h⟩
theorem choose_list {X Y : Type} {Q : X → Y → Prop} : ∀ l : List X, (∀ x, x ∈ l → ∃ y, Q x y) → ∃ ys : List Y, ys.length = l.length ∧ ∀ (i : Nat) (h : i < l.length) (h' : i < ys.length), Q l[i] ys[i] := by
 intro l
 induction l with
 | nil => intro _; exact ⟨[], rfl, fun i h => by simp at h⟩
 | cons x r ih =>
  intro h
  obtain ⟨y, hy⟩ := h x (by simp)
  obtain ⟨ys, h1, h2⟩ := ih fun q hq => h q (by simp [hq])
  refine ⟨y :: ys, by simp [h1], fun i hi hi' => ?_⟩
  cases i with
  | zero => exact hy
  | succ i => exact h2 i (by simpa using hi) (by simpa using hi')
theorem row_fz {r : List AV} (h : OkRow r) : ∃ o : OpD, sO o ∧ ∀ j, Fz σ τ (r.getD j .any) ((encOp o).getD j .any) := by
 obtain ⟨o, a, rfl, ha, hs⟩ := h
 refine ⟨o, hs, fun j => ?_⟩
 rcases ha with rfl | ⟨rfl, hd⟩
 ·exact .same _
 ·match j with
  | 0 => exact .same _
  | 1 => exact .same _
  | 2 => exact .same _
  | 3 => exact .same _
  | 4 => exact .same _
  | 5 => exact .same _
  | 6 =>
   have e : (encOp o).getD 6 .any = roD [] := by show roD o.data = _; rw [hd]
   rw [e]; exact .nil
  | j + 7 => exact .same _
theorem getD_map_enc {X : Type} {enc : X → List AV} {xs : List X} {i : Nat} (h : i < xs.length) : (xs.map enc).getD i [] = enc xs[i] := by simp [List.getD, h]
theorem fz_opsX {φ st k : Nat} {rows : List (List AV)} (hF : τ φ = some ⟨st, 7, rows⟩) (h0 : σ φ = none) (hk : k ≤ rows.length) (hr : ∀ r, r ∈ rows → OkRow r) : ∃ os : List OpD, os.length = k ∧ (∀ o, o ∈ os → sO o) ∧ Fz σ τ (.own φ st 0 k) (roO os) := by
 obtain ⟨os, h1, h2⟩ := choose_list (Q := fun r o => sO o ∧ ∀ j, Fz σ τ (r.getD j .any) ((encOp o).getD j .any)) (rows.take k) fun r hm => row_fz (hr r (List.mem_of_mem_take hm))
 have hl : os.length = k := by rw [h1, List.length_take]; omega
 refine ⟨os, hl, fun o ho => ?_, .own hF h0 rfl (by simpa using hk) (by simp [hl]) (fun i hi => ?_) fun i j hi hj => ?_⟩
 ·obtain ⟨i, hi, rfl⟩ := List.getElem_of_mem ho
  exact (h2 i (by omega) hi).1
 ·rw [getD_map_enc (by omega)]; rfl
 ·rw [getD_map_enc (by omega), Nat.zero_add]
  have := (h2 i (by omega) (by omega)).2 j
  rw [List.getElem_take] at this
  rw [show rows.getD i [] = rows[i] by simp [List.getD, (by omega : i < rows.length)]]
  exact this
theorem fz_bufX {w : AV} {rows : List (List AV)} (hB : Buf τ 7 w rows) (h0 : ∀ ψ, ψ ∈ famL w → σ ψ = none) (hr : ∀ r, r ∈ rows → OkRow r) : ∃ os : List OpD, os.length = rows.length ∧ (∀ o, o ∈ os → sO o) ∧ Fz σ τ w (roO os) := by
 rcases hB with ⟨rfl | rfl, rfl⟩ | ⟨φ, st, rfl, hF⟩
 ·exact ⟨[], rfl, (fun o ho => by cases ho), .nil⟩
 ·exact ⟨[], rfl, (fun o ho => by cases ho), .emp⟩
 ·exact fz_opsX hF (h0 φ (by simp [famL])) (Nat.le_refl _) hr
def RowB (σ τ : AH) (r : List AV) (b : Blk) : Prop := r.length = 2 ∧ sB b ∧ ∀ j, Fz σ τ (r.getD j .any) ((encBlk b).getD j .any)
theorem rowB_of {a : Int} {w : AV} {os : List OpD} (h : Fz σ τ w (roO os)) (hs : ∀ o, o ∈ os → sO o) : RowB σ τ [iv a, w] ⟨a, os⟩ := by
 refine ⟨rfl, hs, fun j => ?_⟩
 match j with
 | 0 => exact .same _
 | 1 => exact h
 | j + 2 => exact .same _
theorem fz_blksX {v : AV} {rows : List (List AV)} (hB : Buf τ 2 v rows) (h0 : ∀ ψ, ψ ∈ famL v → σ ψ = none) (h : ∀ r, r ∈ rows → ∃ b, RowB σ τ r b) : ∃ bks : List Blk, bks.length = rows.length ∧ sC bks ∧ Fz σ τ v (roBk bks) := by
 obtain ⟨bks, h1, h2⟩ := choose_list rows h
 refine ⟨bks, h1, fun b hb => ?_, fz_row hB h0 (by simp [h1]) (by intro c hc; obtain ⟨x, _, rfl⟩ := List.mem_map.1 hc; rfl) fun i j hi hj => ?_⟩
 ·obtain ⟨i, hi, rfl⟩ := List.getElem_of_mem hb
  exact (h2 i (by omega) hi).2.1
 ·rw [getD_map_enc (by omega), show rows.getD i [] = rows[i] by simp [List.getD, hi]]
  exact (h2 i hi (by omega)).2.2 j
abbrev NX (σ τ : AH) (v : AV) (bs : List (BxX × AV)) : Prop := N2 rowX 2 innX 7 σ τ v bs
def OkB (bs : List (BxX × AV)) : Prop := ∀ p, p ∈ bs → ∀ r, r ∈ p.1.2 → OkRow r
theorem nx_fz {v : AV} {bs : List (BxX × AV)} (h : NX σ τ v bs) (ho : OkB bs) : ∃ bks : List Blk, bks.length = bs.length ∧ sC bks ∧ Fz σ τ v (roBk bks) := by
 obtain ⟨bks, h1, h2, h3⟩ := fz_blksX h.out (fun ψ hψ => h.fr ψ (List.mem_append_left _ hψ)) fun r hr => by
  obtain ⟨p, hp, rfl⟩ := List.mem_map.1 hr
  obtain ⟨os, _, g2, g3⟩ := fz_bufX (h.ins p hp) (fun ψ hψ => h.fr ψ (List.mem_append_right _ (l2F_mem hp hψ))) (ho p hp)
  exact ⟨_, rowB_of g3 g2⟩
 exact ⟨bks, by rw [h1, List.length_map], h2, h3⟩
theorem NX.adv {φ : Nat} {S S' : Fam} {v : AV} {bs : List (BxX × AV)} (h : NX (σ.set φ S) (τ.set φ S) v bs) : NX (σ.set φ S') (τ.set φ S') v bs := by
 have hne : ∀ ψ, ψ ∈ famL v ++ l2F bs → ψ ≠ φ := fun ψ hψ => by
  rintro rfl
  have := h.fr ψ hψ
  rw [AH.set_same] at this; cases this
 refine ⟨buf_keep h.out fun ψ hψ => ?_, fun p hp => buf_keep (h.ins p hp) fun ψ hψ => ?_, h.nd, fun ψ hψ => ?_, fun ψ F hF => ?_⟩
 ·have := hne ψ (List.mem_append_left _ hψ)
  rw [AH.set_ne' this, AH.set_ne' this]
 ·have := hne ψ (List.mem_append_right _ (l2F_mem hp hψ))
  rw [AH.set_ne' this, AH.set_ne' this]
 ·have := h.fr ψ hψ
  rw [AH.set_ne' (hne ψ hψ)] at this ⊢; exact this
 ·by_cases c : ψ = φ
  ·subst c; rw [AH.set_same] at hF ⊢; exact hF
  ·rw [AH.set_ne' c] at hF ⊢
   have := h.sub ψ F (by rw [AH.set_ne' c]; exact hF)
   rwa [AH.set_ne' c] at this
theorem N2.map {X Y : Type} {row : X → AV → List AV} {row' : Y → AV → List AV} {n m : Nat} {inn : X → List (List AV)} {inn' : Y → List (List AV)} {v : AV} {bs : List (X × AV)} (h : N2 row n inn m σ τ v bs) (g : X → Y) (hr : ∀ x a, row x a = row' (g x) a) (hi : ∀ x, inn x = inn' (g x)) : N2 row' n inn' m σ τ v (bs.map fun p => (g p.1, p.2)) := by
 have e : l2F (bs.map fun p => (g p.1, p.2)) = l2F bs := by simp [l2F, List.flatMap_map]
 refine ⟨?_, fun q hq => ?_, by rw [e]; exact h.nd, by rw [e]; exact h.fr, h.sub⟩
 ·have := h.out
  rw [List.map_map]
  have e2 : (bs.map fun p => row p.1 p.2) = bs.map ((fun p => row' p.1 p.2) ∘ fun p => (g p.1, p.2)) := List.map_congr_left fun p _ => hr _ _
  rwa [e2] at this
 ·obtain ⟨p, hp, rfl⟩ := List.mem_map.1 hq
  have := h.ins p hp
  rwa [hi] at this
set_option maxHeartbeats 1000000 in
theorem c_spec_l9CodeO {cs : List Cor} (hw : WfC cs) (hbd : ∀ i, (corAt cs i).data.length ≤ 1048576) (h : ∀ τ' v bs, N2 rowB 2 innB 7 σ τ' v bs → bs.map (·.1) = fin0 cs → ∀ b, R (.ret (.tup [v, bv b])) τ') : acall TP fn_spec_l9Code [roC cs] σ R := by
 refine s_spec_l9Code_ok ?_
 unfold s_spec_l9Code
 have eb0 : bld [(.val (.int .i64 0)), (.val (.slice none 0 0))] [(0, 1), (1, 1)] [] = some (.agg [iv 0, nilS]) := rfl
 simp only [eb0, RR]
 refine bsl1 (row := [iv 0, nilS]) rfl (by omega) fun φb hφb => ?_
 have eb1 : bld [(.val (.slice none 0 0)), (.val (.slice none 0 0))] [(0, 1), (1, 1)] [(0, roC cs), (1, .own φb 0 0 1)] = some (.agg [roC cs, .own φb 0 0 1]) := rfl
 simp only [eb1, RR]
 intro φm hφm
 have hne : φm ≠ φb := by rintro rfl; rw [AH.set_same] at hφm; cases hφm
 refine sto_own (es := [[nilS, nilS]]) (cs := [roC cs, .own φb 0 0 1]) (by rw [AH.set_same]; rfl) (by simp) rfl rfl rfl (by intro y hy; simp only [List.mem_cons, List.not_mem_nil, or_false] at hy; rcases hy with rfl | rfl <;> rfl) ?_
 simp only [List.set_cons_zero, AH.set_set]
 rw [AH.set_none] at hφm
 have hS0 : CSt [roC cs] σ ((σ.set φb ⟨0, 2, [[iv 0, nilS]]⟩).set φm ⟨0, 2, [[roC cs, .own φb 0 0 1]]⟩) φm [(0, [])] := by
  refine ⟨⟨.own φb 0 0 1, [((0, []), nilS)], AH.set_same .., ⟨.inr ⟨φb, 0, rfl, by rw [AH.set_ne' (Ne.symm hne), AH.set_same]; rfl⟩, fun p hp => ?_, by simp [famL, l2F], fun ψ hψ => ?_, fun ψ F hF => ?_⟩, rfl, by simp [famL, l2F, hne]⟩, hφm.2⟩
  ·obtain rfl := List.mem_singleton.1 hp; exact nilB
  ·have : ψ = φb := by simpa [famL, l2F] using hψ
   subst this; exact hφb
  ·rw [AH.set_ne' (by rintro rfl; rw [hφm.2] at hF; cases hF), AH.set_ne' (by rintro rfl; rw [hφb] at hF; cases hF)]; exact hF
 have hl := hw.len
 have hv := vis_bound hw cs.length 0 (by omega)
 refine make_all hw hbd cs.length 0 0 true [(0, [])] _ _ (by omega) (by omega) (by simp) hS0 (by simp [totS]; omega) fun τ2 S2 => ?_
 change CSt [roC cs] σ τ2 φm (fin0 cs) at S2
 have htf := mkC_tot hw cs.length 0 0 true [(0, [])] (by omega) (by omega)
 change totS (fin0 cs) + 1 ≤ _ at htf
 have htf2 : totS (fin0 cs) ≤ 1000 := by simp [totS] at htf ⊢; omega
 simp only [RR]
 refine ⟨.ptr φm 0 0 0, τ2, .refl _, .same _, ?_⟩
 obtain ⟨v, e1, e2⟩ := S2.len
 replace e1 : lod (.ptr φm 0 0 1) τ2 = some v := e1
 have hBl := len_tot (fin0 cs)
 simp only [e1, e2, RR]
 refine lp_by (fun n x T => T = τ2 ∧ ∃ (i : Nat) (b : Bool), x = (.ptr φm 0 0 0, bv b, iv (i : Int), ()) ∧ (fin0 cs).length - i = n ∧ i ≤ (fin0 cs).length) (fin0 cs).length ⟨rfl, 0, decide (((fin0 cs).length : Int) ≤ 60), rfl, by omega, by omega⟩ ?_
 rintro n x T ⟨rfl, i, b, rfl, rfl, hi⟩ R' hR'
 simp only [e1, e2, RR]
 by_cases hlt : i < (fin0 cs).length
 ·have g : (i : Int) < ((fin0 cs).length : Int) := by omega
  obtain ⟨v', φ', st', w', q1, q2, q3, q4, _⟩ := S2.open hlt
  replace q1 : lod (.ptr φm 0 0 1) T = some v' := q1
  obtain rfl : v' = v := by rw [q1] at e1; exact Option.some.inj e1
  cases b with
  | true =>
   simp only [g, q1, q2, q3, q4, ibin_up hlt (by omega), RR]
   exact hR' _ _ ((fin0 cs).length - (i + 1)) T (by omega) (.refl _) ⟨rfl, i + 1, _, rfl, rfl, hlt⟩
  | false =>
   simp only [g, ibin_up hlt (by omega), RR]
   exact hR' _ _ ((fin0 cs).length - (i + 1)) T (by omega) (.refl _) ⟨rfl, i + 1, false, rfl, rfl, hlt⟩
 ·have g : ¬ (i : Int) < ((fin0 cs).length : Int) := by omega
  obtain ⟨v', bs, h1, h2, h3, _⟩ := S2.ex
  have : lod (.ptr φm 0 0 1) T = some v' := lod_m h1
  rw [this] at e1
  obtain rfl := Option.some.inj e1
  simp only [g, RR]
  exact ret_here (h T v' bs h2 h3 b)
theorem told_sO {cs : List Cor} (h : AllC cs) : Told cs sO := by
 have hc : ∀ i, okCr (corAt cs i) := fun i => by
  by_cases c : i < cs.length
  ·refine h _ ?_
   have : corAt cs i = cs[i] := by simp [corAt, List.getD, c]
   rw [this]; exact List.getElem_mem c
  ·unfold corAt
   simp only [List.getD, List.getElem?_eq_none (Nat.le_of_not_lt c), Option.getD_none]
   exact ⟨Nat.zero_le _, fun d hd => by cases hd⟩
 exact ⟨fun o h1 h2 => ⟨by rw [h1]; exact Nat.zero_le _, by rw [h2]; intro d hd; cases hd⟩, fun k i => ⟨(hc i).1, fun d hd => by cases hd⟩, fun i => ⟨Nat.zero_le _, (hc i).2⟩, fun o a ho => ho⟩
structure OkN (bs : List (BxX × AV)) : Prop where
 ok : OkB bs
 ne : bs ≠ []
 len : bs.length ≤ 1000
 ops : ∀ p, p ∈ bs → p.1.2 ≠ [] ∧ p.1.2.length ≤ 1000
theorem c_spec_l9Draw {ns : List Int} {φ u : Nat} {K : AEnd → AH → Prop} (hb : Bts ns) (hu : u ≤ 800000)
  (h : ∀ (v : AV) (τ' : AH) (bs : List (BxX × AV)) (u' : Nat), NX (τ.set φ (Sr ns u')) (τ'.set φ (Sr ns u')) v bs → OkN bs → u ≤ u' → u' ≤ u + 1000 → K (.ret v) (τ'.set φ (Sr ns u'))) : acall TP fn_spec_l9Draw [.ptr φ 0 0 0] (τ.set φ (Sr ns u)) K := by
 refine s_spec_l9Draw_ok ?_
 unfold s_spec_l9Draw
 refine c_spec_l4Datum hb (by omega) fun ds u1 hsd h1 h2 => ?_
 simp only [RR]
 refine c_spec_ExpandData hsd ?_
 have hwf := expR_wf (ds := ds)
 have hok := expR_ok hsd
 generalize expR ds = E at hwf hok ⊢
 simp only [RR]
 intro φ2 hφ2
 refine sto_own (es := [[iv 0, nilS]]) (cs := [iv E.2, roC E.1]) (AH.set_same ..) (by simp) rfl rfl rfl (by intro y hy; simp only [List.mem_cons, List.not_mem_nil, or_false] at hy; rcases hy with rfl | rfl <;> rfl) ?_
 simp only [List.set_cons_zero, AH.set_set]
 refine frz_cell hφ2 rfl ?_
 have l0 : ∀ τ, lod (.rop [iv E.2, roC E.1] 0) τ = some (iv E.2) := fun _ => rfl
 have l1 : ∀ τ, lod (.rop [iv E.2, roC E.1] 1) τ = some (roC E.1) := fun _ => rfl
 simp only [l0, l1, RR]
 have hre : ∀ T : AH, AH.Sub (τ.set φ (Sr ns u1)) T → T = T.set φ (Sr ns u1) := fun T hs => (AH.set_self (hs _ _ (AH.set_same ..))).symm
 by_cases c : E.2 = 0
 ·obtain ⟨hw, hd⟩ := hwf c
  have hl := hw.len
  simp only [c, RR]
  refine c_spec_l9CodeO hw (fun i => by have := hd i; omega) fun τ' v bs hN hbs b => ?_
  have e0 : aext (.tup [v, bv b]) 0 = some v := rfl
  have e1 : aext (.tup [v, bv b]) 1 = some (bv b) := rfl
  simp only [e0, e1, RR]
  have hN2 : NX (τ.set φ (Sr ns u1)) τ' v (bs.map fun p => ((p.1.1, innB p.1), p.2)) := hN.map (fun p => (p.1, innB p)) (fun _ _ => rfl) fun _ => rfl
  have htf := mkC_tot hw E.1.length 0 0 true [(0, [])] (by omega) (by omega)
  have hvb := vis_bound hw E.1.length 0 (by omega)
  have htf2 : totS (fin0 E.1) ≤ 1000 := by simp [totS, fin0] at htf ⊢; omega
  have hne := mkC_ne hw E.1.length 0 0 true [(0, [])] (by omega) (by omega) (by simp) (fun j h1 h2 => by simp at h2; omega)
  have hall := mkC_all (told_sO hok) E.1.length 0 0 true [(0, [])] (fun p hp o ho => by obtain rfl := List.mem_singleton.1 hp; cases ho)
  change NE (fin0 E.1) at hne
  change AllO sO (fin0 E.1) at hall
  have hle := mkC_le E.1 E.1.length 0 0 true [(0, [])]
  change leS _ (fin0 E.1) at hle
  have hln := hle.1
  have hlt := len_tot (fin0 E.1)
  have hbl : bs.length = (fin0 E.1).length := by rw [← hbs, List.length_map]
  have eT := hre τ' hN2.sub
  rw [eT] at hN2
  rw [eT]
  refine ret_here (h v τ' _ u1 hN2 ⟨fun p hp r hr => ?_, ?_, by rw [List.length_map]; omega, fun p hp => ?_⟩ h1 h2)
  ·obtain ⟨q, hq, rfl⟩ := List.mem_map.1 hp
   obtain ⟨o, ho, rfl⟩ := List.mem_map.1 hr
   exact ok_enc (hall q.1 (by rw [← hbs]; exact List.mem_map_of_mem hq) o ho)
  ·intro c
   have := List.map_eq_nil_iff.1 c
   rw [this] at hbl; simp at hbl hln; omega
  ·obtain ⟨q, hq, rfl⟩ := List.mem_map.1 hp
   have hqm : q.1 ∈ fin0 E.1 := by rw [← hbs]; exact List.mem_map_of_mem hq
   obtain ⟨j, hj, hje⟩ := List.getElem_of_mem hqm
   have e2 : lenS' (fin0 E.1) j = q.1.2.length := by simp [lenS', List.getD, hj, hje]
   have g1 := hne j hj
   have g2 := lenS_tot (fin0 E.1) j
   rw [e2] at g1 g2
   refine ⟨fun c => ?_, by simp; omega⟩
   have := congrArg List.length c
   simp at this
   rw [this] at g1; simp at g1
 ·have eb : bld [(.val (.int .i64 0)), (.val (.int .i64 0)), (.val (.int .i64 0)), (.val (.int .i64 0)), (.val (.int .i64 0)), (.val (.string ⟨#[]⟩)), (.val (.slice none 0 0))] [(0, 1), (1, 1), (2, 1), (3, 1), (4, 1), (5, 1), (6, 1)] [(0, (.val (.int .i64 12)))] = some (.agg (encOpA (oc0 12) nilS)) := rfl
  have eb2 : ∀ ψ, bld [(.val (.int .i64 0)), (.val (.slice none 0 0))] [(0, 1), (1, 1)] [(1, .own ψ 0 0 1)] = some (.agg [iv 0, .own ψ 0 0 1]) := fun ψ => rfl
  simp only [c, eb, RR]
  refine bsl1 (row := encOpA (oc0 12) nilS) rfl (by omega) fun ψ1 hψ1 => ?_
  simp only [eb2, RR]
  refine bsl1 (row := [iv 0, .own ψ1 0 0 1]) rfl (by omega) fun ψ2 hψ2 => ?_
  rw [AH.set_none] at hψ2
  have hN : NX (τ.set φ (Sr ns u1)) (((τ.set φ (Sr ns u1)).set ψ1 ⟨0, 7, [encOpA (oc0 12) nilS]⟩).set ψ2 ⟨0, 2, [[iv 0, .own ψ1 0 0 1]]⟩) (.own ψ2 0 0 1) [(((0 : Int), [encOpA (oc0 12) nilS]), .own ψ1 0 0 1)] := by
   refine ⟨.inr ⟨ψ2, 0, rfl, AH.set_same ..⟩, fun p hp => ?_, ?_, fun ψ hψ => ?_, fun ψ F hF => ?_⟩
   ·obtain rfl := List.mem_singleton.1 hp
    exact .inr ⟨ψ1, 0, rfl, by rw [AH.set_ne' (Ne.symm hψ2.1), AH.set_same]⟩
   ·simp [famL, l2F, hψ2.1]
   ·have : ψ = ψ2 ∨ ψ = ψ1 := by simpa [famL, l2F] using hψ
    rcases this with rfl | rfl
    ·exact hψ2.2
    ·exact hψ1
   ·rw [AH.set_ne' (by rintro rfl; rw [hψ2.2] at hF; cases hF), AH.set_ne' (by rintro rfl; rw [hψ1] at hF; cases hF)]; exact hF
  have eT := hre _ hN.sub
  rw [eT] at hN
  rw [eT]
  refine ret_here (h _ _ _ u1 hN ⟨fun p hp r hr => ?_, by simp, by simp, fun p hp => ?_⟩ h1 h2)
  ·obtain rfl := List.mem_singleton.1 hp
   obtain rfl := List.mem_singleton.1 hr
   exact ⟨oc0 12, nilS, rfl, .inr ⟨rfl, rfl⟩, Nat.zero_le _, fun d hd => by cases hd⟩
  ·obtain rfl := List.mem_singleton.1 hp
   exact ⟨by simp, by simp⟩
end Go.Proofs.YtbapalgndjiamaaGreatDoor.E
/- Draws: code that is bent. -/
namespace Go.Proofs.YtbapalgndjiamaaGreatDoor.E
open Go Go.RowKit
set_option maxRecDepth 100000
variable [L : Lam]
variable {σ τ τ' : AH} {R : AEnd → AH → Prop}
section
variable {φb stb n : Nat} {A C : List (BxX × AV)} {p : BxX × AV}
theorem NX.fam (h : NX σ τ (.own φb stb 0 n) (A ++ p :: C)) : n = (A ++ p :: C).length ∧ τ φb = some ⟨stb, 2, (A ++ p :: C).map fun p => rowX p.1 p.2⟩ := by
 obtain ⟨φ', st', e, hF⟩ := h.own (by simp)
 injection e with e1 e2 _ e4
 subst e1 e2
 exact ⟨e4, hF⟩
theorem NX.open (h : NX σ τ (.own φb stb 0 n) (A ++ p :: C)) : idx 2 (.own φb stb 0 n) (iv (A.length : Int)) τ = some (.ptr φb stb A.length 0) ∧ lod (.ptr φb stb A.length 1) τ = some p.2 ∧ lenS p.2 = some (iv (p.1.2.length : Int)) := by
 obtain ⟨rfl, hF⟩ := h.fam
 refine ⟨?_, lod_at hF rfl (by simp [List.getD]), buf_len (h.ins p (by simp))⟩
 have := idx_own (st := stb) (off := 0) hF (show A.length < (A ++ p :: C).length by simp)
 rwa [Nat.zero_add] at this
theorem NX.inner (h : NX σ τ (.own φb stb 0 n) (A ++ p :: C)) (hne : p.1.2 ≠ []) : ∃ φw stw, p.2 = .own φw stw 0 p.1.2.length ∧ τ φw = some ⟨stw, 7, p.1.2⟩ ∧ φw ≠ φb ∧ σ φw = none := by
 obtain ⟨φw, stw, e, hF⟩ := buf_own (h.ins p (by simp)) hne
 refine ⟨φw, stw, e, hF, ?_, h.fr φw (List.mem_append_right _ (l2F_mem (p := p) (by simp) (by rw [e]; simp [famL])))⟩
 rintro rfl
 exact (nodup_app.1 h.nd).2.2 φw (by simp [famL]) (l2F_mem (p := p) (by simp) (by rw [e]; simp [famL]))
theorem NX.outer (h : NX σ τ (.own φb stb 0 n) (A ++ p :: C)) {q : BxX × AV} (hq : q ∈ A ++ p :: C) : φb ∉ famL q.2 ∧ σ φb = none := by
 refine ⟨fun c => (nodup_app.1 h.nd).2.2 φb (by simp [famL]) (l2F_mem hq c), h.fr φb (by simp [famL])⟩
theorem NX.arg {x : Int} {k : AH → Prop} (h : NX σ τ (.own φb stb 0 n) (A ++ p :: C)) (hk : ∀ τ', NX σ τ' (.own φb stb 0 n) (A ++ ((x, p.1.2), p.2) :: C) → k τ') : sto 1 (.ptr φb stb A.length 0) (iv x) τ k := by
 obtain ⟨rfl, hF⟩ := h.fam
 refine sto_fld (cs := rowX p.1 p.2) hF (by simp) (by omega) rfl rfl (hk _ ?_)
 have hr : ((A ++ p :: C).map fun p => rowX p.1 p.2).set A.length ((rowX p.1 p.2).set 0 (iv x)) = (A ++ ((x, p.1.2), p.2) :: C).map fun p => rowX p.1 p.2 := by
  rw [List.map_append, List.map_cons, List.set_append_right _ _ (by simp)]
  simp
 have hl2 : l2F (A ++ ((x, p.1.2), p.2) :: C) = l2F (A ++ p :: C) := by rw [l2F_app, l2F_cons, l2F_app, l2F_cons]
 rw [hr]
 refine ⟨.inr ⟨φb, stb, by simp, AH.set_same ..⟩, fun q hq => ?_, by rw [hl2]; exact h.nd, by rw [hl2]; exact h.fr, fun ψ F hF2 => ?_⟩
 ·have go : ∀ q' : BxX × AV, q' ∈ A ++ p :: C → Buf (τ.set φb ⟨stb, 2, (A ++ ((x, p.1.2), p.2) :: C).map fun p => rowX p.1 p.2⟩) 7 q'.2 (innX q'.1) := fun q' hq' =>
   buf_keep (h.ins q' hq') fun ψ hψ => AH.set_ne' (by rintro rfl; exact (h.outer hq').1 hψ)
  rcases List.mem_append.1 hq with c | c
  ·exact go q (by simp [c])
  ·rcases List.mem_cons.1 c with rfl | c
   ·exact go p (by simp)
   ·exact go q (by simp [c])
 ·rw [AH.set_ne' (by rintro rfl; rw [(h.outer (q := p) (by simp)).2] at hF2; cases hF2)]; exact h.sub _ _ hF2
end
theorem row_set {r : List AV} (h : OkRow r) : (∀ x : Int, OkRow (r.set 0 (iv x)) ∧ OkRow (r.set 1 (iv x)) ∧ OkRow (r.set 2 (iv x))) ∧ (∀ w : ByteArray, w.size ≤ 1099511627776 → OkRow (r.set 5 (str w))) ∧ ∀ ds : List Dat, sD ds → OkRow (r.set 6 (roD ds)) := by
 obtain ⟨o, a, rfl, ha, hs⟩ := h
 exact ⟨fun x => ⟨⟨{ o with kind := x }, a, rfl, ha, hs⟩, ⟨{ o with a := x }, a, rfl, ha, hs⟩, ⟨{ o with b := x }, a, rfl, ha, hs⟩⟩, fun w hw => ⟨{ o with name := w }, a, rfl, ha, hw, hs.2⟩, fun ds hd => ⟨{ o with data := ds }, roD ds, rfl, .inl rfl, hs.1, hd⟩⟩
theorem slc_own7 {φ st n k : Nat} {es : List (List AV)} (hF : τ φ = some ⟨st, 7, es⟩) (hk : k ≤ n) : slc 7 (.own φ st 0 n) none (some (iv (k : Int))) none τ = some (.own φ st 0 k) := by
 have e1 : abd none 0 = some 0 := rfl
 have e2 : abd (some (iv (k : Int))) n = some k := by simp [abd]
 simp only [slc, hF, e1, e2]
 rw [if_pos ⟨Nat.zero_le _, hk, trivial, trivial⟩]
 simp
set_option maxHeartbeats 1000000 in
theorem c_spec_l9Bent {ns : List Int} {φ u : Nat} {K : AEnd → AH → Prop} (hb : Bts ns) (hu : u ≤ 700000)
  (h : ∀ (bks : List Blk) (u' : Nat), sC bks → bks ≠ [] → bks.length ≤ 1000 → u ≤ u' → u' ≤ u + 5000 → K (.ret (roBk bks)) (τ.set φ (Sr ns u'))) : acall TP fn_spec_l9Bent [.ptr φ 0 0 0] (τ.set φ (Sr ns u)) K := by
 refine s_spec_l9Bent_ok ?_
 unfold s_spec_l9Bent
 refine c_spec_l9Draw hb (by omega) fun v τ1 bs u1 hN hO h1 h2 => ?_
 have hbl := hO.len
 have hb0 : 0 < bs.length := List.length_pos_iff.2 hO.ne
 simp only [hN.len, RR]
 refine nx hb (by omega) (by omega) (by omega) fun i i0 i1 => ?_
 obtain ⟨j, rfl⟩ : ∃ j : Nat, i = (j : Int) := ⟨i.toNat, by omega⟩
 have hj : j < bs.length := by omega
 have hNS : ∀ S, NX (τ.set φ S) (τ1.set φ S) v bs := fun S => hN.adv
 obtain ⟨A, p, C, rfl, rfl⟩ := split_at' hj
 obtain ⟨φb, stb, rfl, _⟩ := hN.own (by simp)
 obtain ⟨hpne, hpl⟩ := hO.ops p (by simp)
 have hp0 : 0 < p.1.2.length := List.length_pos_iff.2 hpne
 have o1 := fun S => (hNS S).open.1
 have o2 := fun S => (hNS S).open.2.1
 have o3 := (hNS (Sr ns 0)).open.2.2
 simp only [o1, o2, o3, RR]
 refine nx hb (by omega) (by omega) (by omega) fun k k0 k1 => ?_
 obtain ⟨m, rfl⟩ : ∃ m : Nat, k = (m : Int) := ⟨k.toNat, by omega⟩
 have hm : m < p.1.2.length := by omega
 obtain ⟨φw, stw, ew, hFw, hwb, hw0⟩ := hN.inner hpne
 have hFwS : ∀ S, (τ1.set φ S) φw = some ⟨stw, 7, p.1.2⟩ := fun S => by
  obtain ⟨φ', st', e', hF', _⟩ := (hNS S).inner hpne
  rw [ew] at e'
  injection e' with q1 q2
  subst q1 q2; exact hF'
 have o4 : ∀ S, idx 7 p.2 (iv (m : Int)) (τ1.set φ S) = some (.ptr φw stw m 0) := fun S => by
  have := idx_own (st := stw) (off := 0) (hFwS S) hm
  rw [ew]
  rwa [Nat.zero_add] at this
 simp only [o1, o2, o4, RR]
 obtain ⟨E1, r, E2, he, rfl⟩ := split_at' hm
 have hrow : OkRow r := hO.ok p (by simp) r (by rw [he]; simp)
 obtain ⟨w012, w5, w6⟩ := row_set hrow
 refine jn_by (P := fun y T => ∃ (a : AV) (bks : List Blk) (u' : Nat), y = (a, ()) ∧ AH.Sub (τ.set φ (Sr ns u')) T ∧ Fz (τ.set φ (Sr ns u')) T a (roBk bks) ∧ sC bks ∧ bks ≠ [] ∧ bks.length ≤ 1000 ∧ u ≤ u' ∧ u' ≤ u + 5000) ?_ ?_
 ·rintro y T ⟨a, bks, u', rfl, g1, g2, g3, g4, g5, g6, g7⟩
  exact aret_freeze g1 g2 (h bks u' g3 g4 g5 g6 g7)
 ·intro kk hk
  have fin : ∀ (T : AH) (u' : Nat) (bs' : List (BxX × AV)), NX (τ.set φ (Sr ns u')) T (.own φb stb 0 (A ++ p :: C).length) bs' → OkB bs' → bs' ≠ [] → bs'.length ≤ 1000 → u ≤ u' → u' ≤ u + 5000 → kk (.own φb stb 0 (A ++ p :: C).length, ()) T := fun T u' bs' hN' hO' hne hl g1 g2 => by
   obtain ⟨bks, q1, q2, q3⟩ := nx_fz hN' hO'
   exact hk _ _ ⟨_, bks, u', rfl, hN'.sub, q3, q2, (by rintro rfl; simp at q1; exact hne (List.length_eq_zero_iff.1 q1.symm)), by omega, g1, g2⟩
  have put : ∀ (T : AH) (u' : Nat) (off : Nat) (w : AV), NX (τ.set φ (Sr ns u')) T (.own φb stb 0 (A ++ p :: C).length) (A ++ p :: C) → off < 7 → w.one = true → OkRow (r.set off w) → u ≤ u' → u' ≤ u + 5000 → sto 1 (.ptr φw stw E1.length off) w T fun σ => kk (.own φb stb 0 (A ++ p :: C).length, ()) σ := fun T u' off w hN' ho h1 hr g1 g2 => by
   refine hN'.wr (x' := (p.1.1, E1 ++ r.set off w :: E2)) he rfl rfl ho h1 (by rw [ew]) fun T' hN2 _ => fin T' u' _ hN2 (fun q hq r' hr' => ?_) (by simp) (by simp at hbl ⊢; omega) g1 g2
   rcases List.mem_append.1 hq with c | c
   ·exact hO.ok q (by simp [c]) r' hr'
   ·rcases List.mem_cons.1 c with rfl | c
    ·rcases List.mem_append.1 hr' with d | d
     ·exact hO.ok p (by simp) r' (by rw [he]; simp [d])
     ·rcases List.mem_cons.1 d with rfl | d
      ·exact hr
      ·exact hO.ok p (by simp) r' (by rw [he]; simp [d])
    ·exact hO.ok q (by simp [c]) r' hr'
  refine nx hb (by omega) (by omega) (by omega) fun x x0 x1 => ?_
  simp only [RR]
  by_cases c0 : x = 0
  ·simp only [c0, RR]
   refine pickI (xs := [0, 17, 5, 7, 12, 16]) hb (by omega) rfl rfl (by omega) (by omega) fun y => ?_
   simp only [RR]
   exact put _ _ 0 (iv y) (hNS _) (by omega) rfl (w012 y).1 (by omega) (by omega)
  by_cases c1 : x = 1
  ·subst c1
   simp only [show ¬ (1 : Int) = 0 by omega, RR]
   refine pickI (xs := [-1, 0, 1, 9, 1000]) hb (by omega) rfl rfl (by omega) (by omega) fun y => ?_
   simp only [RR]
   exact put _ _ 1 (iv y) (hNS _) (by omega) rfl (w012 y).2.1 (by omega) (by omega)
  by_cases c2 : x = 2
  ·subst c2
   simp only [show ¬ (2 : Int) = 0 by omega, show ¬ (2 : Int) = 1 by omega, RR]
   refine pickI (xs := [-1, 1, 4]) hb (by omega) rfl rfl (by omega) (by omega) fun y => ?_
   simp only [RR]
   exact put _ _ 2 (iv y) (hNS _) (by omega) rfl (w012 y).2.2 (by omega) (by omega)
  by_cases c3 : x = 3
  ·subst c3
   simp only [show ¬ (3 : Int) = 0 by omega, show ¬ (3 : Int) = 1 by omega, show ¬ (3 : Int) = 2 by omega, RR]
   refine bsl_next (ws := [⟨#[]⟩, ⟨#[65]⟩, ⟨#[103]⟩]) hb (by omega) rfl rfl (by omega) (by omega) fun ψ w hw hne hψ => ?_
   have hw30 : w.size ≤ 30 := by
    simp only [List.mem_cons, List.not_mem_nil, or_false] at hw
    rcases hw with rfl | rfl | rfl <;> decide
   exact put _ _ 5 (str w) ((hNS _).grow (Keep.sub (.set (.refl φ τ1) hψ))) (by omega) rfl (w5 w (by omega)) (by omega) (by omega)
  by_cases c4 : x = 4
  ·subst c4
   simp only [show ¬ (4 : Int) = 0 by omega, show ¬ (4 : Int) = 1 by omega, show ¬ (4 : Int) = 2 by omega, show ¬ (4 : Int) = 3 by omega, RR]
   refine c_spec_l3Bent hb (by omega) fun ds u2 hds g1 g2 => ?_
   simp only [RR]
   exact put _ _ 6 (roD ds) (hNS _) (by omega) rfl (w6 ds hds) (by omega) (by omega)
  by_cases c5 : x = 5
  ·subst c5
   simp only [show ¬ (5 : Int) = 0 by omega, show ¬ (5 : Int) = 1 by omega, show ¬ (5 : Int) = 2 by omega, show ¬ (5 : Int) = 3 by omega, show ¬ (5 : Int) = 4 by omega, RR]
   refine pickI (xs := [1, 4, -1]) hb (by omega) rfl rfl (by omega) (by omega) fun y => ?_
   simp only [o1, RR]
   refine (hNS _).arg fun T' hN2 => fin T' _ _ hN2 (fun q hq r' hr' => ?_) (by simp) (by simp at hbl ⊢; omega) (by omega) (by omega)
   rcases List.mem_append.1 hq with c | c
   ·exact hO.ok q (by simp [c]) r' hr'
   ·rcases List.mem_cons.1 c with rfl | c
    ·exact hO.ok p (by simp) r' hr'
    ·exact hO.ok q (by simp [c]) r' hr'
  by_cases c6 : x = 6
  ·subst c6
   have hsl : ∀ S, slc 7 p.2 none (some (iv (E1.length : Int))) none (τ1.set φ S) = some (.own φw stw 0 E1.length) := fun S => by
    rw [ew]; exact slc_own7 (hFwS S) (by omega)
   simp only [show ¬ (6 : Int) = 0 by omega, show ¬ (6 : Int) = 1 by omega, show ¬ (6 : Int) = 2 by omega, show ¬ (6 : Int) = 3 by omega, show ¬ (6 : Int) = 4 by omega, show ¬ (6 : Int) = 5 by omega, o1, o2, hsl, RR]
   have hNx := hNS (Sr ns (u1 + 1 + 1 + 1))
   obtain ⟨_, hFb⟩ := hNx.fam
   refine sto_fld (cs := rowX p.1 p.2) hFb (by simp) (by omega) rfl rfl ?_
   have hr : ((A ++ p :: C).map fun p => rowX p.1 p.2).set A.length ((rowX p.1 p.2).set 1 (.own φw stw 0 E1.length)) = (A.map fun p => rowX p.1 p.2) ++ [iv p.1.1, .own φw stw 0 E1.length] :: C.map fun p => rowX p.1 p.2 := by
    rw [List.map_append, List.map_cons, List.set_append_right _ _ (by simp)]
    simp
   rw [hr]
   generalize hT : (τ1.set φ (Sr ns (u1 + 1 + 1 + 1))).set φb ⟨stb, 2, (A.map fun p => rowX p.1 p.2) ++ [iv p.1.1, .own φw stw 0 E1.length] :: C.map fun p => rowX p.1 p.2⟩ = T
   have hTb : T φb = some ⟨stb, 2, (A.map fun p => rowX p.1 p.2) ++ [iv p.1.1, .own φw stw 0 E1.length] :: C.map fun p => rowX p.1 p.2⟩ := by rw [← hT, AH.set_same]
   have hTn : ∀ ψ, ψ ≠ φb → T ψ = (τ1.set φ (Sr ns (u1 + 1 + 1 + 1))) ψ := fun ψ hψ => by rw [← hT, AH.set_ne' hψ]
   have hsub : AH.Sub (τ.set φ (Sr ns (u1 + 1 + 1 + 1))) T := fun ψ F hF => by
    rw [hTn ψ (by rintro rfl; rw [(hNx.outer (q := p) (by simp)).2] at hF; cases hF)]; exact hNx.sub _ _ hF
   have mem : ∀ q : BxX × AV, q ∈ A ++ p :: C → ∃ b, RowB (τ.set φ (Sr ns (u1 + 1 + 1 + 1))) T (rowX q.1 q.2) b := fun q hq => by
    obtain ⟨os, _, g2, g3⟩ := fz_bufX (σ := τ.set φ (Sr ns (u1 + 1 + 1 + 1))) (buf_keep (hNx.ins q hq) fun ψ hψ => hTn ψ (by rintro rfl; exact (hNx.outer hq).1 hψ)) (fun ψ hψ => hNx.fr ψ (List.mem_append_right _ (l2F_mem hq hψ))) (hO.ok q hq)
    exact ⟨_, rowB_of g3 g2⟩
   obtain ⟨bks, q1, q2, q3⟩ := fz_blksX (σ := τ.set φ (Sr ns (u1 + 1 + 1 + 1))) (τ := T) (v := .own φb stb 0 (A ++ p :: C).length) (rows := (A.map fun p => rowX p.1 p.2) ++ [iv p.1.1, .own φw stw 0 E1.length] :: C.map fun p => rowX p.1 p.2) (.inr ⟨φb, stb, by simp, hTb⟩) (fun ψ hψ => by
     obtain rfl : ψ = φb := (by simpa [famL] using hψ)
     exact (hNx.outer (q := p) (by simp)).2) fun r' hr' => by
    rcases List.mem_append.1 hr' with d | d
    ·obtain ⟨q, hq, rfl⟩ := List.mem_map.1 d
     exact mem q (by simp [hq])
    ·rcases List.mem_cons.1 d with rfl | d
     ·obtain ⟨φ', st', e', hF', hb', h0'⟩ := hNx.inner hpne
      rw [ew] at e'
      injection e' with z1 z2
      subst z1 z2
      obtain ⟨os, _, g2, g3⟩ := fz_opsX (σ := τ.set φ (Sr ns (u1 + 1 + 1 + 1))) (τ := T) (φ := φw) (k := E1.length) (rows := p.1.2) (by rw [hTn _ hb']; exact hF') h0' (by omega) (hO.ok p (by simp))
      exact ⟨_, rowB_of g3 g2⟩
     ·obtain ⟨q, hq, rfl⟩ := List.mem_map.1 d
      exact mem q (by simp [hq])
   simp only [List.length_append, List.length_map, List.length_cons] at q1 hbl
   exact hk _ _ ⟨_, bks, _, rfl, hsub, q3, q2, (by rintro rfl; simp at q1), by omega, by omega, by omega⟩
  simp only [c0, c1, c2, c3, c4, c5, c6, RR]
  exact fin _ _ _ (hNS _) hO.ok (by simp) hbl (by omega) (by omega)
theorem c_spec_DrawBlockAround {ns : List Int} (hb : Bts ns) (h : ∀ (bks : List Blk) (i : Int), sC bks → bks.length ≤ 1000 → R (.ret (.tup [roBk bks, iv i])) σ) : acall TP fn_spec_DrawBlockAround [roB ns] σ R := by
 refine s_spec_DrawBlockAround_ok ?_
 unfold s_spec_DrawBlockAround
 refine c_spec_l1Source fun φ hφ => ?_
 simp only [RR]
 refine c_spec_l9Bent hb (by omega) fun bks u1 hs hn hl g1 g2 => ?_
 have h0 : 0 < bks.length := List.length_pos_iff.2 hn
 have ea : ibin .add (iv (bks.length : Int)) (.val (.int .i64 2)) = some (iv ((bks.length : Int) + 2)) := ibin_add (by omega) (by omega)
 simp only [len_ro, ea, RR]
 refine c_spec_l1Next (AH.set_same ..) hb (by omega) (by omega) fun i _ hi => ?_
 have hi := hi (by omega)
 rw [AH.set_set]
 have es : ibin .sub (iv i) (.val (.int .i64 1)) = some (iv (i - 1)) := ibin_sub (by omega) (by omega)
 simp only [es, RR]
 exact aret_sub (.set (.refl σ) _ hφ) (h bks (i - 1) hs hl)
end Go.Proofs.YtbapalgndjiamaaGreatDoor.E
/- The law of the heights of a block that is drawn. -/
namespace Go.Proofs.YtbapalgndjiamaaGreatDoor.E
open Go Go.RowKit
set_option maxRecDepth 100000
variable [L : Lam]
variable {σ τ : AH} {R : AEnd → AH → Prop}
theorem hold {x : AV} {cs : List AV} {z : List AV} {n : Nat} {k : AV → AH → Prop} (hx : acells x = some cs) (hz : z.length = n) (hc : cs.length = n) (h1 : ∀ y, y ∈ cs → y.one = true) (h : k (.rop cs 0) σ) : new z σ fun v σ => sto n v x σ fun σ => frz v σ k := by
 intro φ hφ
 refine sto_own (es := [z]) (cs := cs) (by rw [AH.set_same, hz]) (by simp) (by simpa using hz) hx hc h1 ?_
 simp only [List.set_cons_zero, AH.set_set, hz]
 exact frz_cell hφ hc h
end Go.Proofs.YtbapalgndjiamaaGreatDoor.E
/- In which block the closure of each block is. -/
namespace Go.Proofs.YtbapalgndjiamaaGreatDoor.E
open Go Go.RowKit
variable [L : Lam]
variable {σ τ : AH} {R : AEnd → AH → Prop}
def arOp (n i : Nat) (out : List Int) (o : OpD) : Option (List Int) := if o.kind = 4 then (if o.a ≤ i ∨ (n : Int) ≤ o.a ∨ 0 ≤ atH out o.a.toNat then none else some (out.set o.a.toNat i)) else some out
def arOps (n i : Nat) : List OpD → List Int → Option (List Int)
 | [], out => some out
 | o :: os, out => (arOp n i out o).bind (arOps n i os)
def arAll (n : Nat) : Nat → List Blk → List Int → Option (List Int)
 | _, [], out => some out
 | i, b :: bs, out => (arOps n i b.ops out).bind (arAll n (i + 1) bs)
theorem arOps_app (n i : Nat) : ∀ (a b : List OpD) (out : List Int), arOps n i (a ++ b) out = (arOps n i a out).bind (arOps n i b) := by
 intro a
 induction a with
 | nil => intro b out; rfl
 | cons o a ih =>
  intro b out
  simp only [List.cons_append, arOps]
  cases arOp n i out o with
  | none => rfl
  | some x => exact ih b x
theorem arAll_app (n : Nat) : ∀ (a b : List Blk) (i : Nat) (out : List Int), arAll n i (a ++ b) out = (arAll n i a out).bind (arAll n (i + a.length) b) := by
 intro a
 induction a with
 | nil => intro b i out; rfl
 | cons o a ih =>
  intro b i out
  simp only [List.cons_append, arAll]
  cases arOps n i o.ops out with
  | none => rfl
  | some x =>
   have := ih b (i + 1) x
   simp only [Option.bind_some, List.length_cons]
   rw [this, show i + 1 + a.length = i + (a.length + 1) by omega]
theorem arOps_at {n i k : Nat} {os : List OpD} {out x : List Int} (hk : k < os.length) (h : arOps n i (os.take k) out = some x) : arOps n i (os.take (k + 1)) out = arOp n i x os[k] := by
 rw [List.take_succ_eq_append_getElem hk, arOps_app, h]
 simp only [Option.bind_some, arOps]
 cases arOp n i x os[k] <;> rfl
theorem arOps_none {n i k : Nat} {os : List OpD} {out : List Int} (h : arOps n i (os.take k) out = none) : arOps n i os out = none := by
 have := arOps_app n i (os.take k) (os.drop k) out
 rw [List.take_append_drop, h] at this
 exact this
theorem arAll_at {n k : Nat} {bs : List Blk} {out x : List Int} (hk : k < bs.length) (h : arAll n 0 (bs.take k) out = some x) : arAll n 0 (bs.take (k + 1)) out = arOps n k bs[k].ops x := by
 rw [List.take_succ_eq_append_getElem hk, arAll_app, h]
 simp only [Option.bind_some, arAll, List.length_take]
 rw [show 0 + min k bs.length = k by omega]
 cases arOps n k bs[k].ops x <;> rfl
theorem arAll_none {n k : Nat} {bs : List Blk} {out : List Int} (h : arAll n 0 (bs.take k) out = none) : arAll n 0 bs out = none := by
 have := arAll_app n (bs.take k) (bs.drop k) 0 out
 rw [List.take_append_drop, h] at this
 exact this
def ArI (n : Nat) (out : List Int) : Prop := out.length = n ∧ ∀ k, k < n → atH out k = -1 ∨ (0 ≤ atH out k ∧ atH out k < k)
theorem arOp_inv {n i : Nat} {out x : List Int} {o : OpD} (h : ArI n out) (e : arOp n i out o = some x) : ArI n x := by
 unfold arOp at e
 split at e
 ·split at e
  ·cases e
  ·rename_i hc
   cases e
   refine ⟨by simpa using h.1, fun k hk => ?_⟩
   rw [atH_set (by rw [h.1]; omega)]
   split
   ·right; omega
   ·exact h.2 k hk
 ·cases e; exact h
theorem arOps_inv {n i : Nat} : ∀ (os : List OpD) {out x : List Int}, ArI n out → arOps n i os out = some x → ArI n x := by
 intro os
 induction os with
 | nil => intro out x h e; cases e; exact h
 | cons o os ih =>
  intro out x h e
  simp only [arOps] at e
  cases e2 : arOp n i out o with
  | none => rw [e2] at e; cases e
  | some y => rw [e2] at e; exact ih (arOp_inv h e2) e
theorem arAll_inv {n : Nat} : ∀ (bs : List Blk) (i : Nat) {out x : List Int}, ArI n out → arAll n i bs out = some x → ArI n x := by
 intro bs
 induction bs with
 | nil => intro i out x h e; cases e; exact h
 | cons b bs ih =>
  intro i out x h e
  simp only [arAll] at e
  cases e2 : arOps n i b.ops out with
  | none => rw [e2] at e; cases e
  | some y => rw [e2] at e; exact ih (i + 1) (arOps_inv _ h e2) e
theorem atH_rep {n k : Nat} : atH (List.replicate n (-1)) k = -1 := by
 unfold atH
 by_cases h : k < n <;> simp [List.getD, h]
theorem ArI.init (n : Nat) : ArI n (List.replicate n (-1)) := ⟨by simp, fun k hk => .inl atH_rep⟩
def full (out : List Int) : Bool := (out.drop 1).all fun x => decide (0 ≤ x)
def arndM (bs : List Blk) : Option (List Int) := match arAll bs.length 0 bs (List.replicate bs.length (-1)) with
 | some out => if full out then some out else none
 | none => none
theorem full_bad {out : List Int} {k : Nat} (h1 : 1 ≤ k) (hk : k < out.length) (h : atH out k < 0) : full out = false := by
 unfold full
 rw [List.all_eq_false]
 refine ⟨out[k], ?_, by have : out[k] = atH out k := by simp [atH, List.getD, hk]
                        rw [this]; simpa using h⟩
 rw [List.mem_iff_getElem]
 refine ⟨k - 1, by simp; omega, ?_⟩
 rw [List.getElem_drop]
 congr 1; omega
theorem full_ok {out : List Int} (h : ∀ k, 1 ≤ k → k < out.length → 0 ≤ atH out k) : full out = true := by
 unfold full
 rw [List.all_eq_true]
 intro x hx
 obtain ⟨i, hi, rfl⟩ := List.getElem_of_mem hx
 rw [List.getElem_drop]
 have hi' : i < out.length - 1 := by simpa using hi
 have := h (1 + i) (by omega) (by omega)
 have e : out[1 + i]'(by omega) = atH out (1 + i) := by simp [atH, List.getD, show 1 + i < out.length by omega]
 rw [e]; simpa using this
theorem arndM_inv {bs : List Blk} {up : List Int} (h : arndM bs = some up) : up.length = bs.length ∧ ∀ k, 1 ≤ k → k < bs.length → 0 ≤ atH up k ∧ atH up k < k := by
 unfold arndM at h
 split at h
 ·rename_i out e
  split at h
  ·rename_i hf
   cases h
   have hI := arAll_inv bs 0 (ArI.init _) e
   refine ⟨hI.1, fun k h1 hk => ?_⟩
   rcases hI.2 k hk with c | c
   ·have := full_bad h1 (by rw [hI.1]; exact hk) (by omega : atH up k < 0)
    rw [this] at hf; cases hf
   ·exact c
  ·cases h
 ·cases h
theorem ar_conds {n i : Nat} {out : List Int} {o : OpD} (hk : o.kind = 4) : (arOp n i out o = none ↔ (o.a ≤ i ∨ (n : Int) ≤ o.a ∨ 0 ≤ atH out o.a.toNat)) ∧ (¬ (o.a ≤ i ∨ (n : Int) ≤ o.a ∨ 0 ≤ atH out o.a.toNat) → arOp n i out o = some (out.set o.a.toNat i)) := by
 unfold arOp
 rw [if_pos hk]
 constructor
 ·constructor
  ·intro h
   split at h
   ·rename_i c; exact c
   ·cases h
  ·intro h; rw [if_pos h]
 ·intro h; rw [if_neg h]
set_option maxRecDepth 100000 in
theorem c_impl_around {bs : List Blk} (hb : bs ≠ []) (hl : bs.length ≤ 60) (hsm : ∀ b, b ∈ bs → smB b.ops ∧ b.ops.length ≤ 200) (hbad : arndM bs = none → R (.ret (.tup [nilS, bv false])) σ) (hok : ∀ up, arndM bs = some up → R (.ret (.tup [.ro (ivs up), bv true])) σ) :
  acall TP fn_impl_around [roBk bs] σ R := by
 refine s_impl_around_ok ?_
 unfold s_impl_around
 have hpos : 0 < bs.length := List.length_pos_iff.2 hb
 simp only [RR, len_ro]
 refine mk_Li (by omega) (by omega) (by omega) fun φ hφ => ?_
 simp only [Int.toNat_natCast, len_own, RR]
 have hsub : ∀ F, AH.Sub σ (σ.set φ F) := fun F => .set (.refl σ) _ hφ
 refine lp_for bs.length (fun j => (roBk bs, .own φ 0 0 bs.length, iv (bs.length : Int), iv (j : Int), ())) (fun j τ => τ = σ.set φ ⟨0, 1, ivs (List.replicate j (-1) ++ List.replicate (bs.length - j) 0)⟩) rfl (by simp [ivs]) ?_
 rintro j _ hj rfl R' hR'
 have hlen : (List.replicate j (-1 : Int) ++ List.replicate (bs.length - j) 0).length = bs.length := by simp; omega
 by_cases hlt : j < bs.length
 ·have g : (j : Int) < (bs.length : Int) := by omega
  have hF := AH.set_same σ φ (⟨0, 1, ivs (List.replicate j (-1) ++ List.replicate (bs.length - j) 0)⟩ : Fam)
  obtain ⟨e1, _⟩ := own_rd hF (i := j) (by omega)
  rw [hlen] at e1
  simp only [g, e1, RR]
  refine own_wr hF (by omega) ?_
  simp only [ibin_up hlt (by omega), RR, AH.set_set]
  refine hR' hlt _ _ (.refl _) ?_
  congr 3
  rw [List.set_append_right _ _ (by simp)]
  simp only [List.length_replicate, Nat.sub_self]
  obtain ⟨d, hd⟩ : ∃ d, bs.length - j = d + 1 := ⟨bs.length - j - 1, by omega⟩
  rw [hd, List.replicate_succ, List.set_cons_zero, show bs.length - (j + 1) = d by omega, List.replicate_succ']
  simp
 have g : ¬ (j : Int) < (bs.length : Int) := by omega
 obtain rfl : j = bs.length := by omega
 simp only [g, RR, len_ro]
 clear hR' R'
 simp only [Nat.sub_self, List.replicate_zero, List.append_nil] at hlen ⊢
 have hbad' : ∀ k out, arAll bs.length 0 (bs.take k) (List.replicate bs.length (-1)) = some out → arAll bs.length 0 (bs.take (k + 1)) (List.replicate bs.length (-1)) = none → R (.ret (.tup [nilS, bv false])) σ := by
  intro k out _ h
  refine hbad ?_
  unfold arndM
  rw [arAll_none h]
 refine lp_by (fun k x τ => ∃ (i : Nat) (out : List Int), i + k = bs.length ∧ x = (roBk bs, .own φ 0 0 bs.length, roBk bs, iv (bs.length : Int), iv (i : Int), ()) ∧ τ = σ.set φ ⟨0, 1, ivs out⟩ ∧ arAll bs.length 0 (bs.take i) (List.replicate bs.length (-1)) = some out) bs.length
  ⟨0, _, by omega, rfl, rfl, rfl⟩ ?_
 rintro k x τ ⟨i, out, hk, rfl, rfl, hA⟩ R' hR'
 have hI := arAll_inv _ _ (ArI.init bs.length) hA
 by_cases hi : i < bs.length
 ·have g : (i : Int) < (bs.length : Int) := by omega
  obtain ⟨hsb, hlb⟩ := hsm _ (List.getElem_mem hi)
  simp only [g, idx_ro hi len_encBlk, RR, RT]
  refine new_encBlk rfl ?_
  simp only [RR, RT, len_ro]
  refine lp_by (fun k2 x τ => ∃ (j : Nat) (out2 : List Int), j + k2 = bs[i].ops.length ∧ x = (roBk bs, .own φ 0 0 bs.length, iv (i : Int), roBk bs, iv (bs.length : Int), iv (i : Int), roO bs[i].ops, iv (bs[i].ops.length : Int), iv (j : Int), ()) ∧
   τ = σ.set φ ⟨0, 1, ivs out2⟩ ∧ arOps bs.length i (bs[i].ops.take j) out = some out2) bs[i].ops.length ⟨0, out, by omega, rfl, rfl, rfl⟩ ?_
  rintro k2 x τ ⟨j, out2, hk2, rfl, rfl, hA2⟩ R2 hR2
  have hI2 := arOps_inv _ hI hA2
  have hF2 := AH.set_same σ φ (⟨0, 1, ivs out2⟩ : Fam)
  by_cases hj2 : j < bs[i].ops.length
  ·have g2 : (j : Int) < (bs[i].ops.length : Int) := by omega
   have hnext := arOps_at hj2 hA2
   simp only [g2, jn, idx_ro hj2 len_encOp, RR, RT]
   refine new_encOp rfl ?_
   simp only [RR, RT, len_ro, ibin_up hj2 (by omega)]
   have hso := hsb _ (List.getElem_mem hj2)
   have hfail : arOp bs.length i out2 bs[i].ops[j] = none → R (.ret (.tup [nilS, bv false])) σ := by
    intro hn
    refine hbad' i out hA ?_
    rw [arAll_at hi hA]
    exact arOps_none (k := j + 1) (hnext.trans hn)
   by_cases c4 : bs[i].ops[j].kind = 4
   case neg =>
    have : arOp bs.length i out2 bs[i].ops[j] = some out2 := by unfold arOp; rw [if_neg c4]
    simp only [c4, RR]
    exact hR2 _ _ (k2 - 1) _ (by omega) (.refl _) ⟨j + 1, out2, by omega, rfl, rfl, by rw [hnext, this]⟩
   obtain ⟨q1, q2⟩ := ar_conds (n := bs.length) (i := i) (out := out2) c4
   by_cases c5 : bs[i].ops[j].a ≤ (i : Int)
   ·simp only [c4, c5, RR]
    exact aret_sub (hsub _) (hfail (q1.2 (.inl c5)))
   by_cases c6 : (bs.length : Int) ≤ bs[i].ops[j].a
   ·simp only [c4, c5, c6, RR, RT, len_ro]
    exact aret_sub (hsub _) (hfail (q1.2 (.inr (.inl c6))))
   generalize ht : bs[i].ops[j].a = t at *
   obtain ⟨tn, rfl⟩ : ∃ tn : Nat, t = (tn : Int) := ⟨t.toNat, by omega⟩
   have htn : tn < bs.length := by omega
   obtain ⟨r1, r2⟩ := own_rd hF2 (i := tn) (by rw [hI2.1]; exact htn)
   rw [hI2.1] at r1
   by_cases c7 : 0 ≤ atH out2 tn
   ·simp only [c4, c5, c6, c7, ht, r1, r2, RR, RT, len_ro]
    exact aret_sub (hsub _) (hfail (q1.2 (.inr (.inr c7))))
   ·simp only [c4, c5, c6, c7, ht, r1, r2, RR, RT, len_ro]
    refine own_wr hF2 (by rw [hI2.1]; exact htn) ?_
    simp only [AH.set_set]
    refine hR2 _ _ (k2 - 1) _ (by omega) (.refl _) ⟨j + 1, out2.set tn i, by omega, rfl, rfl, ?_⟩
    rw [hnext, q2 (by rw [Int.toNat_natCast]; omega), Int.toNat_natCast]
  ·have g2 : ¬ (j : Int) < (bs[i].ops.length : Int) := by omega
   obtain rfl : j = bs[i].ops.length := by omega
   rw [List.take_length] at hA2
   simp only [g2, ibin_up hi (by omega), RR]
   exact hR' _ _ (k - 1) _ (by omega) (.refl _) ⟨i + 1, out2, by omega, rfl, rfl, by rw [arAll_at hi hA]; exact hA2⟩
 ·have g : ¬ (i : Int) < (bs.length : Int) := by omega
  obtain rfl : i = bs.length := by omega
  rw [List.take_length] at hA
  simp only [g, RR]
  clear hR' R'
  have hF2 := AH.set_same σ φ (⟨0, 1, ivs out⟩ : Fam)
  obtain ⟨d, hd⟩ : ∃ d, bs.length = d + 1 := ⟨bs.length - 1, by omega⟩
  have eo : AV.own φ 0 0 bs.length = AV.own φ 0 0 (d + 1) := by rw [hd]
  have es : slc 1 (AV.own φ 0 0 bs.length) (some (AV.val (Value.int IntKind.i64 1))) none none (σ.set φ ⟨0, 1, ivs out⟩) = some (.own φ 0 1 d) := by rw [eo]; exact slc_own1 hF2
  simp only [es, len_own, RR]
  refine lp_by (fun k x τ => ∃ i : Nat, i + k = d ∧ x = (.own φ 0 0 bs.length, .own φ 0 1 d, iv (d : Int), iv (i : Int), ()) ∧ τ = σ.set φ ⟨0, 1, ivs out⟩ ∧ ∀ j, 1 ≤ j → j < i + 1 → 0 ≤ atH out j) d ⟨0, by omega, rfl, rfl, fun j h1 h2 => by omega⟩ ?_
  rintro k x τ ⟨i, hk, rfl, rfl, hj⟩ R' hR'
  by_cases hi2 : i < d
  ·have g : (i : Int) < (d : Int) := by omega
   have r1 : idx 1 (.own φ 0 1 d) (iv (i : Int)) (σ.set φ ⟨0, 1, ivs out⟩) = some (.ptr φ 0 (1 + i) 0) := idx_own hF2 hi2
   obtain ⟨_, r2⟩ := own_rd hF2 (i := 1 + i) (by rw [hI.1]; omega)
   simp only [g, r1, r2, RR]
   by_cases c : atH out (1 + i) < 0
   ·simp only [c, RR]
    refine aret_sub (hsub _) (hbad ?_)
    unfold arndM
    rw [hA]
    simp only
    rw [if_neg (by rw [full_bad (k := 1 + i) (by omega) (by rw [hI.1]; omega) c]; simp)]
   ·simp only [c, ibin_up hi2 (by omega), RR]
    refine hR' _ _ (k - 1) _ (by omega) (.refl _) ⟨i + 1, by omega, rfl, rfl, fun j h1 h2 => ?_⟩
    rcases Nat.lt_or_ge j (i + 1) with h3 | h3
    ·exact hj j h1 h3
    ·obtain rfl : j = 1 + i := by omega
     omega
  ·have g : ¬ (i : Int) < (d : Int) := by omega
   simp only [g, RR]
   have hup : arndM bs = some out := by
    unfold arndM
    rw [hA]
    simp only
    rw [if_pos (full_ok fun k h1 hk => hj k h1 (by rw [hI.1] at hk; omega))]
   have := fz_own (out := out) hφ
   rw [hI.1] at this
   exact aret_freeze (hsub _) (Fz.tup2 this (.same _)) (hok out hup)
end Go.Proofs.YtbapalgndjiamaaGreatDoor.E
/- The reference's around; locals; the faults of code. -/
namespace Go.Proofs.YtbapalgndjiamaaGreatDoor.E
open Go Go.RowKit
variable [L : Lam]
variable {σ τ : AH} {R : AEnd → AH → Prop}
theorem htsW_ok {b : Blk} (h : blkF b = 0) : htsW b = match hts b.ops with
 | some out => .tup [.ro (ivs out), iv 0]
 | none => .tup [nilS, iv 1] := by unfold htsW; rw [if_pos h]; rfl
theorem c_spec_l10Around {bs : List Blk} (hb : bs ≠ []) (hl : bs.length ≤ 60) (hs : sC bs) (h0 : ∀ b, b ∈ bs → blkF b = 0) (hbad : ((∃ b, b ∈ bs ∧ hts b.ops = none) ∨ arndM bs = none) → R (.ret (.tup [nilS, iv 1])) σ)
  (hok : (∀ b, b ∈ bs → hts b.ops ≠ none) → ∀ up, arndM bs = some up → R (.ret (.tup [.ro (ivs up), iv 0])) σ) : acall TP fn_spec_l10Around [roBk bs] σ R := by
 refine s_spec_l10Around_ok ?_
 unfold s_spec_l10Around
 have hpos : 0 < bs.length := List.length_pos_iff.2 hb
 refine ⟨by decide, ?_⟩
 rw [if_pos rfl]
 refine lp_rel bs.length (fun i x τ => ∃ a, x = (roBk bs, a, iv (i : Int), ()) ∧ Gr σ τ a (List.replicate i (-1))) ⟨.emp, rfl, .inl ⟨rfl, rfl, rfl⟩⟩ ?_
 rintro i _ τ hi ⟨a, rfl, hG⟩ R' hR'
 simp only [RR, len_ro]
 by_cases hlt : i < bs.length
 ·have g : (i : Int) < (bs.length : Int) := by omega
  simp only [g, RR]
  refine hG.push (by simp; omega) fun a' τ' τ'' hG' hsub => ?_
  simp only [ibin_up hlt (by omega), RR]
  exact hR' _ _ τ' hlt hsub ⟨a', rfl, by rw [List.replicate_succ']; exact hG'⟩
 have g : ¬ (i : Int) < (bs.length : Int) := by omega
 obtain rfl : i = bs.length := by omega
 simp only [g, RR]
 clear hR' R'
 rcases hG with ⟨_, he, _⟩ | ⟨φ, st, hφ, rfl, rfl⟩
 ·have := congrArg List.length he
  rw [List.length_replicate, List.length_nil] at this
  omega
 rw [List.length_replicate]
 have hsub : ∀ F, AH.Sub σ (σ.set φ F) := fun F => .set (.refl σ) _ hφ
 refine lp_by (fun k x τ => ∃ (i : Nat) (out : List Int), i + k = bs.length ∧ x = (roBk bs, .own φ st 0 bs.length, iv (i : Int), ()) ∧ τ = σ.set φ ⟨st, 1, ivs out⟩ ∧ arAll bs.length 0 (bs.take i) (List.replicate bs.length (-1)) = some out ∧
   ∀ (j : Nat) (hj : j < bs.length), j < i → hts bs[j].ops ≠ none) bs.length ⟨0, _, by omega, rfl, rfl, rfl, fun j hj h => by omega⟩ ?_
 rintro k x τ ⟨i, out, hk, rfl, rfl, hA, hH⟩ R' hR'
 have hI := arAll_inv _ _ (ArI.init bs.length) hA
 simp only [RR, len_ro]
 by_cases hi : i < bs.length
 ·have g : (i : Int) < (bs.length : Int) := by omega
  have hm := List.getElem_mem hi
  have hb0 := h0 _ hm
  obtain ⟨hsb, hlb⟩ := blkF_sm hb0
  simp only [g, idx_ro hi len_encBlk, RR]
  refine c_spec_l10Heights (hs _ hm) ?_
  rw [htsW_ok hb0]
  cases hh : hts bs[i].ops with
  | none =>
   simp only [aext0, aext1, RR]
   exact aret_sub (hsub _) (hbad (.inl ⟨_, hm, hh⟩))
  | some o1 =>
  simp only [aext0, aext1, RR]
  refine lp_by (fun k2 x τ => ∃ (j : Nat) (out2 : List Int), j + k2 = bs[i].ops.length ∧ x = (roBk bs, .own φ st 0 bs.length, iv (i : Int), iv (j : Int), ()) ∧
   τ = σ.set φ ⟨st, 1, ivs out2⟩ ∧ arOps bs.length i (bs[i].ops.take j) out = some out2) bs[i].ops.length ⟨0, out, by omega, rfl, rfl, rfl⟩ ?_
  rintro k2 x τ ⟨j, out2, hk2, rfl, rfl, hA2⟩ R2 hR2
  have hI2 := arOps_inv _ hI hA2
  have hF2 := AH.set_same σ φ (⟨st, 1, ivs out2⟩ : Fam)
  simp only [idx_ro hi len_encBlk, RR, RT, len_ro]
  by_cases hj2 : j < bs[i].ops.length
  ·have g2 : (j : Int) < (bs[i].ops.length : Int) := by omega
   have hnext := arOps_at hj2 hA2
   simp only [g2, jn, idx_ro hi len_encBlk, idx_ro hj2 len_encOp, RR, RT, len_ro, ibin_up hj2 (by omega)]
   have hso := hsb _ (List.getElem_mem hj2)
   have hfail : arOp bs.length i out2 bs[i].ops[j] = none → R (.ret (.tup [nilS, iv 1])) σ := by
    intro hn
    refine hbad (.inr ?_)
    unfold arndM
    have : arAll bs.length 0 (bs.take (i + 1)) (List.replicate bs.length (-1)) = none := by
     rw [arAll_at hi hA]
     exact arOps_none (k := j + 1) (hnext.trans hn)
    rw [arAll_none this]
   by_cases c4 : bs[i].ops[j].kind = 4
   case neg =>
    have : arOp bs.length i out2 bs[i].ops[j] = some out2 := by unfold arOp; rw [if_neg c4]
    simp only [c4, RR]
    exact hR2 _ _ (k2 - 1) _ (by omega) (.refl _) ⟨j + 1, out2, by omega, rfl, rfl, by rw [hnext, this]⟩
   obtain ⟨q1, q2⟩ := ar_conds (n := bs.length) (i := i) (out := out2) c4
   by_cases c5 : bs[i].ops[j].a ≤ (i : Int)
   ·simp only [c4, c5, RR, RT, len_ro]
    exact aret_sub (hsub _) (hfail (q1.2 (.inl c5)))
   by_cases c6 : (bs.length : Int) ≤ bs[i].ops[j].a
   ·simp only [c4, c5, c6, RR, RT, len_ro]
    exact aret_sub (hsub _) (hfail (q1.2 (.inr (.inl c6))))
   generalize ht : bs[i].ops[j].a = t at *
   obtain ⟨tn, rfl⟩ : ∃ tn : Nat, t = (tn : Int) := ⟨t.toNat, by omega⟩
   have htn : tn < bs.length := by omega
   obtain ⟨r1, r2⟩ := own_rd hF2 (i := tn) (by rw [hI2.1]; exact htn)
   rw [hI2.1] at r1
   by_cases c7 : 0 ≤ atH out2 tn
   ·simp only [c4, c5, c6, c7, ht, r1, r2, RR, RT, len_ro]
    exact aret_sub (hsub _) (hfail (q1.2 (.inr (.inr c7))))
   ·simp only [c4, c5, c6, c7, ht, r1, r2, RR, RT, len_ro]
    refine own_wr hF2 (by rw [hI2.1]; exact htn) ?_
    simp only [AH.set_set]
    refine hR2 _ _ (k2 - 1) _ (by omega) (.refl _) ⟨j + 1, out2.set tn i, by omega, rfl, rfl, ?_⟩
    rw [hnext, q2 (by rw [Int.toNat_natCast]; omega), Int.toNat_natCast]
  ·have g2 : ¬ (j : Int) < (bs[i].ops.length : Int) := by omega
   obtain rfl : j = bs[i].ops.length := by omega
   rw [List.take_length] at hA2
   simp only [g2, ibin_up hi (by omega), RR]
   exact hR' _ _ (k - 1) _ (by omega) (.refl _) ⟨i + 1, out2, by omega, rfl, rfl, by rw [arAll_at hi hA]; exact hA2, fun j hj h => by
    rcases Nat.lt_or_ge j i with h1 | h1
    ·exact hH j hj h1
    ·obtain rfl : j = i := by omega
     rw [hh]; simp⟩
 ·have g : ¬ (i : Int) < (bs.length : Int) := by omega
  obtain rfl : i = bs.length := by omega
  rw [List.take_length] at hA
  simp only [g, RR]
  clear hR' R'
  have hF2 := AH.set_same σ φ (⟨st, 1, ivs out⟩ : Fam)
  have hall : ∀ b, b ∈ bs → hts b.ops ≠ none := fun b hb => by
   obtain ⟨j, hj, rfl⟩ := List.getElem_of_mem hb
   exact hH j hj hj
  refine lp_by (fun k x τ => ∃ i : Nat, i + k = bs.length ∧ x = (roBk bs, .own φ st 0 bs.length, iv (i : Int), ()) ∧ τ = σ.set φ ⟨st, 1, ivs out⟩ ∧ 1 ≤ i ∧ ∀ j, 1 ≤ j → j < i → 0 ≤ atH out j) (bs.length - 1) ⟨1, by omega, rfl, rfl, Nat.le_refl _, fun j h1 h2 => by omega⟩ ?_
  rintro k x τ ⟨i, hk, rfl, rfl, h1i, hj⟩ R' hR'
  simp only [RR, len_ro]
  by_cases hi2 : i < bs.length
  ·have g : (i : Int) < (bs.length : Int) := by omega
   obtain ⟨r1, r2⟩ := own_rd hF2 (i := i) (by rw [hI.1]; omega)
   rw [hI.1] at r1
   simp only [g, r1, r2, RR]
   by_cases c : atH out i < 0
   ·simp only [c, RR]
    refine aret_sub (hsub _) (hbad (.inr ?_))
    unfold arndM
    rw [hA]
    simp only
    rw [if_neg (by rw [full_bad (k := i) (by omega) (by rw [hI.1]; omega) c]; simp)]
   ·simp only [c, ibin_up hi2 (by omega), RR]
    refine hR' _ _ (k - 1) _ (by omega) (.refl _) ⟨i + 1, by omega, rfl, rfl, by omega, fun j h1 h2 => ?_⟩
    rcases Nat.lt_or_ge j i with h3 | h3
    ·exact hj j h1 h3
    ·obtain rfl : j = i := by omega
     omega
  ·have g : ¬ (i : Int) < (bs.length : Int) := by omega
   simp only [g, RR]
   have hup : arndM bs = some out := by
    unfold arndM
    rw [hA]
    simp only
    rw [if_pos (full_ok fun k h1 hk => hj k h1 (by rw [hI.1] at hk; omega))]
   have := fz_own' (st := st) (out := out) hφ
   rw [hI.1] at this
   exact aret_freeze (hsub _) (Fz.tup2 this (.same _)) (hok hall out hup)
def upNb (up : List Int) : Nat → Int → Int
 | 0, at_ => at_
 | a + 1, at_ => if 0 < at_ then upNb up a (atH up at_.toNat) else at_
def bArgs (bs : List Blk) (i : Int) : Int := (bs.getD i.toNat default).args
def locB (bs : List Blk) (up : List Int) (i a b : Int) : Bool := decide (0 < upNb up a.toNat i) && decide (b < bArgs bs (upNb up a.toNat i))
structure Ups (bs : List Blk) (up : List Int) : Prop where
 len : up.length = bs.length
 lt : ∀ k, 1 ≤ k → k < bs.length → 0 ≤ atH up k ∧ atH up k < k
theorem upNb_stop {up : List Int} {at_ : Int} (h : ¬ 0 < at_) : ∀ n, upNb up n at_ = at_ := by
 intro n
 cases n with
 | zero => rfl
 | succ n => simp only [upNb]; rw [if_neg h]
theorem ro_rd {up : List Int} {n : Nat} (h : n < up.length) : idx 1 (.ro (ivs up)) (iv (n : Int)) σ = some (.rop [iv (atH up n)] 0) := by
 have := idx_ro (σ := σ) (enc := fun x => [iv x]) (sz := 1) h (fun _ => rfl)
 rw [this]
 simp [atH, List.getD, h]
theorem c_impl_isLocal {bs : List Blk} {up : List Int} {i a b : Int} (hu : Ups bs up) (hi0 : 0 ≤ i) (hi : i < bs.length) (ha0 : 0 ≤ a) (ha : a ≤ 999) (h : R (.ret (bv (locB bs up i a b))) σ) : acall TP fn_impl_isLocal [roBk bs, .ro (ivs up), iv i, iv a, iv b] σ R := by
 refine s_impl_isLocal_ok ?_
 unfold s_impl_isLocal
 refine lp_by (fun k x τ => ∃ at_ : Int, x = (roBk bs, .ro (ivs up), iv (k : Int), iv b, iv at_, ()) ∧ τ = σ ∧ 0 ≤ at_ ∧ at_ < bs.length ∧ upNb up k at_ = upNb up a.toNat i ∧ k ≤ 999) a.toNat ⟨i, by rw [Int.toNat_of_nonneg ha0]; rfl, rfl, hi0, hi, rfl, by omega⟩ ?_
 rintro k x τ ⟨at_, rfl, rfl, h0, h1, e, hk⟩ R' hR'
 unfold locB at h
 by_cases c1 : (0 : Int) < (k : Int)
 ·by_cases c2 : 0 < at_
  ·obtain ⟨n, rfl⟩ : ∃ n : Nat, at_ = (n : Int) := ⟨at_.toNat, by omega⟩
   have hn : n < bs.length := by omega
   obtain ⟨l1, l2⟩ := hu.lt n (by omega) hn
   have e1 : ibin .sub (iv (k : Int)) (.val (.int .i64 1)) = some (iv (((k - 1 : Nat)) : Int)) := by rw [ibin_sub (by omega) (by omega)]; congr 3; omega
   simp only [c1, c2, e1, ro_rd (by rw [hu.len]; exact hn), lod_one, RR]
   refine hR' _ _ (k - 1) τ (by omega) (.refl _) ⟨atH up n, rfl, rfl, l1, by omega, ?_, by omega⟩
   rw [← e]
   obtain ⟨d, rfl⟩ : ∃ d, k = d + 1 := ⟨k - 1, by omega⟩
   simp only [upNb]
   rw [if_pos c2]
   simp
  ·have e2 : upNb up a.toNat i = at_ := by rw [← e, upNb_stop c2]
   rw [e2, decide_eq_false c2, Bool.false_and] at h
   simp only [c1, c2, RR]
   exact ret_here h
 ·obtain rfl : k = 0 := by omega
  have e2 : upNb up a.toNat i = at_ := e.symm
  rw [e2] at h
  by_cases c2 : 0 < at_
  ·obtain ⟨n, rfl⟩ : ∃ n : Nat, at_ = (n : Int) := ⟨at_.toNat, by omega⟩
   have hn : n < bs.length := by omega
   rw [decide_eq_true c2, Bool.true_and] at h
   have eb : bArgs bs (n : Int) = bs[n].args := by unfold bArgs; rw [Int.toNat_natCast, ← blk_at hn]
   rw [eb] at h
   simp only [c1, c2, idx_ro hn len_encBlk, RR, RT]
   exact ret_here h
  ·rw [decide_eq_false c2, Bool.false_and] at h
   simp only [c1, c2, RR]
   exact ret_here h
theorem c_spec_l10Local {bs : List Blk} {up : List Int} {i a b : Int} (hu : Ups bs up) (hi0 : 0 ≤ i) (hi : i < bs.length) (ha0 : 0 ≤ a) (ha : a ≤ 999) (h : R (.ret (bv (locB bs up i a b))) σ) : acall TP fn_spec_l10Local [roBk bs, .ro (ivs up), iv i, iv a, iv b] σ R := by
 refine s_spec_l10Local_ok ?_
 unfold s_spec_l10Local
 refine lp_by (fun k x τ => ∃ at_ : Int, x = (roBk bs, .ro (ivs up), iv at_, iv (k : Int), iv b, ()) ∧ τ = σ ∧ 0 ≤ at_ ∧ at_ < bs.length ∧ upNb up k at_ = upNb up a.toNat i ∧ k ≤ 999) a.toNat ⟨i, by rw [Int.toNat_of_nonneg ha0]; rfl, rfl, hi0, hi, rfl, by omega⟩ ?_
 rintro k x τ ⟨at_, rfl, rfl, h0, h1, e, hk⟩ R' hR'
 unfold locB at h
 by_cases c1 : (0 : Int) < (k : Int)
 ·by_cases c2 : 0 < at_
  ·obtain ⟨n, rfl⟩ : ∃ n : Nat, at_ = (n : Int) := ⟨at_.toNat, by omega⟩
   have hn : n < bs.length := by omega
   obtain ⟨l1, l2⟩ := hu.lt n (by omega) hn
   have e1 : ibin .sub (iv (k : Int)) (.val (.int .i64 1)) = some (iv (((k - 1 : Nat)) : Int)) := by rw [ibin_sub (by omega) (by omega)]; congr 3; omega
   simp only [c1, c2, e1, ro_rd (by rw [hu.len]; exact hn), lod_one, RR]
   refine hR' _ _ (k - 1) τ (by omega) (.refl _) ⟨atH up n, rfl, rfl, l1, by omega, ?_, by omega⟩
   rw [← e]
   obtain ⟨d, rfl⟩ : ∃ d, k = d + 1 := ⟨k - 1, by omega⟩
   simp only [upNb]
   rw [if_pos c2]
   simp
  ·have e2 : upNb up a.toNat i = at_ := by rw [← e, upNb_stop c2]
   rw [e2, decide_eq_false c2, Bool.false_and] at h
   simp only [c1, c2, RR]
   exact ret_here h
 ·obtain rfl : k = 0 := by omega
  have e2 : upNb up a.toNat i = at_ := e.symm
  rw [e2] at h
  by_cases c2 : 0 < at_
  ·obtain ⟨n, rfl⟩ : ∃ n : Nat, at_ = (n : Int) := ⟨at_.toNat, by omega⟩
   have hn : n < bs.length := by omega
   rw [decide_eq_true c2, Bool.true_and] at h
   have eb : bArgs bs (n : Int) = bs[n].args := by unfold bArgs; rw [Int.toNat_natCast, ← blk_at hn]
   rw [eb] at h
   simp only [c1, c2, idx_ro hn len_encBlk, RR, RT]
   exact ret_here h
  ·rw [decide_eq_false c2, Bool.false_and] at h
   simp only [c1, c2, RR]
   exact ret_here h
end Go.Proofs.YtbapalgndjiamaaGreatDoor.E
/- The faults of code. -/
namespace Go.Proofs.YtbapalgndjiamaaGreatDoor.E
open Go Go.RowKit
variable [L : Lam]
variable {σ τ : AH} {R : AEnd → AH → Prop}
def enc2 (x : Int × Int) : List AV := [iv x.1, iv x.2]
theorem len_enc2 (x : Int × Int) : (enc2 x).length = 2 := rfl
def locsN (o : OpD) : List (Int × Int) := if o.kind = 2 ∨ o.kind = 14 ∨ o.kind = 16 then [(o.a, o.b)] else if o.kind = 15 then [(o.a, o.b), (o.c, o.d)] else []
theorem c_impl_Op_localsIn {o : OpD} (h : R (.ret (.ro ((locsN o).map enc2))) σ) : acall TP fn_impl_Op_localsIn [.agg (encOp o)] σ R := by
 refine s_impl_Op_localsIn_ok ?_
 unfold s_impl_Op_localsIn
 refine box_encOp ?_
 unfold locsN at h
 have one : ∀ a b : Int, R (.ret (.ro ([(a, b)].map enc2))) σ → bsl 2 [iv 0, iv 0] 1 [(0, .agg [iv a, iv b])] σ fun v σ => aret v σ R := by
  intro a b h
  refine ⟨by decide, ?_⟩
  rw [if_neg (by decide)]
  intro φ hφ
  refine aret_freeze (σ0 := σ) (.set (.refl σ) _ hφ) (.own (AH.set_same ..) hφ rfl (by simp) rfl (fun i hi => ?_) (fun i j hi hj => ?_)) h
  ·obtain rfl : i = 0 := by omega
   rfl
  ·obtain rfl : i = 0 := by omega
   exact .same _
 have two : ∀ a b c d : Int, R (.ret (.ro ([(a, b), (c, d)].map enc2))) σ → bsl 2 [iv 0, iv 0] 2 [(0, .agg [iv a, iv b]), (1, .agg [iv c, iv d])] σ fun v σ => aret v σ R := by
  intro a b c d h
  refine ⟨by decide, ?_⟩
  rw [if_neg (by decide)]
  intro φ hφ
  refine aret_freeze (σ0 := σ) (.set (.refl σ) _ hφ) (.own (AH.set_same ..) hφ rfl (by simp) rfl (fun i hi => ?_) (fun i j hi hj => ?_)) h
  ·match i, hi with
   | 0, _ => rfl
   | 1, _ => rfl
  ·match i, hi with
   | 0, _ => exact .same _
   | 1, _ => exact .same _
 have b1 : ∀ a b : Int, bld [iv 0, iv 0] [(0, 1), (1, 1)] [(0, iv a), (1, iv b)] = some (.agg [iv a, iv b]) := fun _ _ => rfl
 simp only [RR, RT, jn]
 by_cases c1 : o.kind = 2
 ·rw [if_pos (by omega)] at h; simp only [c1, RR, RT, b1]; exact one _ _ h
 by_cases c2 : o.kind = 14
 ·rw [if_pos (by omega)] at h; simp only [c2, RR, RT, b1]; exact one _ _ h
 by_cases c3 : o.kind = 16
 ·rw [if_pos (by omega)] at h; simp only [c3, RR, RT, b1]; exact one _ _ h
 rw [if_neg (by omega)] at h
 by_cases c4 : o.kind = 15
 ·rw [if_pos c4] at h; simp only [c4, RR, RT, b1]; exact two _ _ _ _ h
 rw [if_neg c4] at h
 simp only [c1, c2, c3, c4, RR]
 exact aret_freeze (.refl σ) .nil h
theorem lp_zero {X : Type} {st : Nat → X} {f : Nat → Int} {n : Nat} {body : (X → AH → Prop) → X → AH → Prop}
  (hb : ∀ (j : Nat) (k : X → AH → Prop), j < n → (∀ i, i < j → f i = 0) → (f j = 0 → k (st (j + 1)) σ) → body k (st j) σ) (he : ∀ k : X → AH → Prop, (∀ i, i < n → f i = 0) → body k (st n) σ) : lp body (st 0) σ := by
 refine lp_same n st (fun i => ∀ j, j < i → f j = 0) rfl (fun j hj => by omega) ?_
 intro i hi hj R' hR'
 rcases Nat.lt_or_ge i n with hlt | hge
 ·refine hb i R' hlt hj (fun h0 => hR' hlt (fun j h1 => ?_) σ (.refl _))
  rcases Nat.lt_or_ge j i with h2 | h2
  ·exact hj j h2
  ·obtain rfl : j = i := by omega
   exact h0
 ·obtain rfl : i = n := by omega
  exact he R' hj
def opLocF (bs : List Blk) (up : List Int) (i : Nat) (o : OpD) : Int := if (locsN o).all (fun l => locB bs up i l.1 l.2) then (if o.kind = 9 ∧ 0 < i then 1 else 0) else 3
def blkLocF (bs : List Blk) (up : List Int) (i : Nat) : Int := firstF (fun j => opLocF bs up i (opA (bs.getD i default).ops j)) 0 (bs.getD i default).ops.length
def locF (bs : List Blk) (up : List Int) : Int := firstF (blkLocF bs up) 0 bs.length
open Classical in
noncomputable def codeF (bs : List Blk) : Int := if opsF bs ≠ 0 then opsF bs else if bs = [] ∨ (bs.getD 0 default).args ≠ 0 then 1 else if (∃ b, b ∈ bs ∧ hts b.ops = none) then 1 else match arndM bs with
 | none => 1
 | some up => locF bs up
theorem firstF_is {f : Nat → Int} {n k : Nat} (hk : k < n) (h : f k ≠ 0) (h0 : ∀ i, i < k → f i = 0) : firstF f 0 n = f k := firstF_at h n 0 (Nat.zero_le _) (by omega) fun j _ h2 => h0 j h2
theorem firstF_no {f : Nat → Int} {n : Nat} (h0 : ∀ i, i < n → f i = 0) : firstF f 0 n = 0 := firstF_all _ _ fun j _ h2 => h0 j (by omega)
theorem locs_sm {o : OpD} (h : smO o) : ∀ l, l ∈ locsN o → 0 ≤ l.1 ∧ l.1 ≤ 999 := by
 obtain ⟨h1, h2, h3, h4, h5, h6, h7, h8⟩ := h
 intro l hl
 unfold locsN at hl
 split at hl
 ·rw [List.mem_singleton] at hl; subst hl; exact ⟨h1, h2⟩
 ·split at hl
  ·simp only [List.mem_cons, List.not_mem_nil, or_false] at hl
   rcases hl with rfl | rfl
   ·exact ⟨h1, h2⟩
   ·exact ⟨h5, h6⟩
  ·cases hl
structure Pre (bs : List Blk) : Prop where
 ops : opsF bs = 0
 ne : bs ≠ []
 first : (bs.getD 0 default).args = 0
theorem Pre.len {bs : List Blk} (h : Pre bs) : bs.length ≤ 60 := (opsF_len h.ops).1
theorem Pre.sm {bs : List Blk} (h : Pre bs) : ∀ b, b ∈ bs → smB b.ops ∧ b.ops.length ≤ 200 := fun b hb => blkF_sm (opsF_blk h.ops b hb)
theorem codeF_ops {bs : List Blk} (h : opsF bs ≠ 0) : codeF bs = opsF bs := by unfold codeF; rw [if_pos h]
theorem codeF_first {bs : List Blk} (h : opsF bs = 0) (h2 : bs = [] ∨ (bs.getD 0 default).args ≠ 0) : codeF bs = 1 := by unfold codeF; rw [if_neg (by rw [h]; simp), if_pos h2]
theorem codeF_hts {bs : List Blk} (h : Pre bs) (h2 : ∃ b, b ∈ bs ∧ hts b.ops = none) : codeF bs = 1 := by
 unfold codeF; rw [if_neg (by rw [h.ops]; simp), if_neg (by rintro (c | c); exact h.ne c; exact c h.first), if_pos h2]
theorem codeF_arn {bs : List Blk} (h : Pre bs) (h2 : arndM bs = none) : codeF bs = 1 := by
 unfold codeF; rw [if_neg (by rw [h.ops]; simp), if_neg (by rintro (c | c); exact h.ne c; exact c h.first)]
 split
 ·rfl
 ·rw [h2]
theorem codeF_loc {bs : List Blk} {up : List Int} (h : Pre bs) (h1 : ∀ b, b ∈ bs → hts b.ops ≠ none) (h2 : arndM bs = some up) : codeF bs = locF bs up := by
 unfold codeF; rw [if_neg (by rw [h.ops]; simp), if_neg (by rintro (c | c); exact h.ne c; exact c h.first), if_neg (by rintro ⟨b, hb, c⟩; exact h1 b hb c), h2]
theorem ups_of {bs : List Blk} {up : List Int} (h : arndM bs = some up) : Ups bs up := ⟨(arndM_inv h).1, fun k h1 h2 => (arndM_inv h).2 k h1 h2⟩
theorem htsV_none {os : List OpD} (h : hts os = none) : htsV os = .tup [nilS, bv false] := by unfold htsV; rw [h]
theorem htsV_some {os : List OpD} {out : List Int} (h : hts os = some out) : htsV os = .tup [.ro (ivs out), bv true] := by unfold htsV; rw [h]
theorem pre_cases {bs : List Blk} {X Y : Prop} (h0 : opsF bs = 0) (h1 : (bs = [] ∨ (bs.getD 0 default).args ≠ 0) → X) (h2 : Pre bs → Y) :
  og (ibin .eql (iv (bs.length : Int)) (iv 0)) fun v23 =>
  og (gval v23 false false (some (roBk bs))) fun v25 =>
  og (gval v23 false false (idx 2 v25 (iv 0) σ)) fun v26 =>
  og (gval v23 false false (fldA 0 v26)) fun v27 =>
  og (gval v23 false false (lod v27 σ)) fun v28 =>
  og (gval v23 false false (ibin .neq v28 (iv 0))) fun v29 =>
  og (pickV v23 (bv true) v29) fun v30 => apick v30 X Y := by
 cases bs with
 | nil =>
  simp only [List.length_nil, RR]
  exact h1 (.inl rfl)
 | cons b bs =>
  have e : ¬ (((b :: bs).length : Nat) : Int) = 0 := by simp; omega
  have e1 : idx 2 (roBk (b :: bs)) (iv 0) σ = some (.rop (encBlk b) 0) := idx_ro (i := 0) (by simp) len_encBlk
  have e2 : (!decide (((b :: bs).length : Int) = 0)) = true := by simp; omega
  by_cases c : b.args = 0
  ·simp only [e, e1, c, RR, RT]
   exact h2 ⟨h0, by simp, c⟩
  ·simp only [e, e1, c, RR, RT]
   exact h1 (.inr c)
set_option maxRecDepth 100000 in
theorem c_impl_CodeFault {bs : List Blk} (h : R (.ret (iv (codeF bs))) σ) : acall TP fn_impl_CodeFault [roBk bs] σ R := by
 refine s_impl_CodeFault_ok ?_
 unfold s_impl_CodeFault
 refine c_impl_opsFault ?_
 by_cases c0 : opsF bs = 0
 case neg =>
  rw [codeF_ops c0] at h
  simp only [c0, RR]
  exact ret_here h
 simp only [c0, RR, len_ro]
 refine pre_cases c0 (fun h1 => ?_) (fun hp => ?_)
 ·rw [codeF_first c0 h1] at h
  exact ret_here h
 have hl := hp.len
 refine lp_same bs.length (fun i => (roBk bs, roBk bs, iv (bs.length : Int), iv (i : Int), ())) (fun i => ∀ (j : Nat) (hj : j < bs.length), j < i → hts bs[j].ops ≠ none) rfl (fun j hj h => by omega) ?_
 intro i hi hH R' hR'
 by_cases hlt : i < bs.length
 ·have g : (i : Int) < (bs.length : Int) := by omega
  obtain ⟨hsm, hbl⟩ := hp.sm _ (List.getElem_mem hlt)
  simp only [g, idx_ro hlt len_encBlk, RR, RT]
  refine new_encBlk rfl ?_
  simp only [lodA_all (len_encBlk _), RR]
  refine c_impl_heightsOf hsm hbl ?_
  cases hh : hts bs[i].ops with
  | none =>
   rw [htsV_none hh]
   simp only [aext0, aext1, RR]
   rw [codeF_hts hp ⟨_, List.getElem_mem hlt, hh⟩] at h
   exact ret_here h
  | some out =>
   rw [htsV_some hh]
   simp only [aext0, aext1, ibin_up hlt (by omega), RR]
   refine hR' hlt (fun j hj h1 => ?_) _ (.refl _)
   rcases Nat.lt_or_ge j i with h2 | h2
   ·exact hH j hj h2
   ·obtain rfl : j = i := by omega
    rw [hh]; simp
 have g : ¬ (i : Int) < (bs.length : Int) := by omega
 have hall : ∀ b, b ∈ bs → hts b.ops ≠ none := fun b hb => by
  obtain ⟨j, hj, rfl⟩ := List.getElem_of_mem hb
  exact hH j hj (by omega)
 simp only [g, RR]
 clear hR' R' hH
 refine c_impl_around hp.ne hl hp.sm (fun hn => ?_) (fun up hu => ?_)
 ·rw [codeF_arn hp hn] at h
  simp only [aext0, aext1, RR]
  exact ret_here h
 rw [codeF_loc hp hall hu] at h
 have hups := ups_of hu
 simp only [aext0, aext1, RR, len_ro]
 refine lp_zero (n := bs.length) (st := fun i => (roBk bs, AV.ro (ivs up), roBk bs, iv (bs.length : Int), iv (i : Int), ())) (f := blkLocF bs up) ?_ ?_
 ·intro i R2 hi hz hR2
  have g : (i : Int) < (bs.length : Int) := by omega
  obtain ⟨hsm, hbl⟩ := hp.sm _ (List.getElem_mem hi)
  have eb : bs.getD i default = bs[i] := (blk_at hi).symm
  simp only [g, idx_ro hi len_encBlk, RR, RT]
  refine new_encBlk rfl ?_
  simp only [RR, RT, len_ro]
  refine lp_zero (n := bs[i].ops.length) (st := fun j => (roBk bs, AV.ro (ivs up), iv (i : Int), roBk bs, iv (bs.length : Int), iv (i : Int), roO bs[i].ops, iv (bs[i].ops.length : Int), iv (j : Int), ())) (f := fun j => opLocF bs up i (opA bs[i].ops j)) ?_ ?_
  ·intro j R3 hj hz2 hR3
   have g2 : (j : Int) < (bs[i].ops.length : Int) := by omega
   have hso := hsm _ (List.getElem_mem hj)
   have eo : opA bs[i].ops j = bs[i].ops[j] := (op_at hj).symm
   have hbad : opLocF bs up i bs[i].ops[j] ≠ 0 → R (.ret (iv (opLocF bs up i bs[i].ops[j]))) σ := by
    intro hne
    have e1 : blkLocF bs up i = opLocF bs up i bs[i].ops[j] := by
     unfold blkLocF
     rw [eb, firstF_is hj (by rw [eo]; exact hne) hz2, eo]
    have e2 : locF bs up = opLocF bs up i bs[i].ops[j] := by
     unfold locF
     rw [firstF_is hi (by rw [e1]; exact hne) hz, e1]
    rw [e2] at h
    exact h
   simp only [g2, idx_ro hj len_encOp, RR, RT]
   refine new_encOp rfl ?_
   simp only [lodA_all (len_encOp _), RR]
   refine c_impl_Op_localsIn ?_
   simp only [RR, len_ro]
   refine lp_same (locsN bs[i].ops[j]).length (fun k => (roBk bs, .ro (ivs up), iv (i : Int), .rop (encOp bs[i].ops[j]) 0, roBk bs, iv (bs.length : Int), iv (i : Int), roO bs[i].ops, iv (bs[i].ops.length : Int), iv (j : Int), .ro ((locsN bs[i].ops[j]).map enc2), iv ((locsN bs[i].ops[j]).length : Int), iv (k : Int), ()))
    (fun k => ∀ (m : Nat) (hm : m < (locsN bs[i].ops[j]).length), m < k → locB bs up i (locsN bs[i].ops[j])[m].1 (locsN bs[i].ops[j])[m].2 = true) rfl (fun m hm h => by omega) ?_
   intro k hk hH R4 hR4
   have hl2 : (locsN bs[i].ops[j]).length ≤ 2 := by
    unfold locsN
    split
    ·simp
    ·split <;> simp
   by_cases hkl : k < (locsN bs[i].ops[j]).length
   ·have g3 : (k : Int) < ((locsN bs[i].ops[j]).length : Int) := by omega
    have hsl := locs_sm hso _ (List.getElem_mem hkl)
    have i0 : idxArr 2 1 (.rop (enc2 (locsN bs[i].ops[j])[k]) 0) (.val (.int .i64 0)) = some (.rop (enc2 (locsN bs[i].ops[j])[k]) 0) := rfl
    have i1 : idxArr 2 1 (.rop (enc2 (locsN bs[i].ops[j])[k]) 0) (.val (.int .i64 1)) = some (.rop (enc2 (locsN bs[i].ops[j])[k]) 1) := rfl
    have l0 : ∀ τ, lod (.rop (enc2 (locsN bs[i].ops[j])[k]) 0) τ = some (iv (locsN bs[i].ops[j])[k].1) := fun _ => rfl
    have l1 : ∀ τ, lod (.rop (enc2 (locsN bs[i].ops[j])[k]) 1) τ = some (iv (locsN bs[i].ops[j])[k].2) := fun _ => rfl
    simp only [g3, idx_ro hkl len_enc2, lodA_all (len_enc2 _), RR]
    refine new_frz rfl rfl rfl (one2 rfl rfl) ?_
    show og (idxArr 2 1 (.rop (enc2 (locsN bs[i].ops[j])[k]) 0) _) _
    simp only [i0, i1, l0, l1, RR]
    refine c_impl_isLocal hups (by omega) (by omega) hsl.1 hsl.2 ?_
    cases hB : locB bs up i (locsN bs[i].ops[j])[k].1 (locsN bs[i].ops[j])[k].2
    ·simp only [RR]
     have e3 : opLocF bs up i bs[i].ops[j] = 3 := by
      unfold opLocF
      rw [if_neg]
      intro hall
      rw [List.all_eq_true] at hall
      have := hall _ (List.getElem_mem hkl)
      rw [hB] at this; cases this
     have := hbad (by rw [e3]; decide)
     rw [e3] at this
     exact ret_here this
    ·simp only [ibin_up hkl (by omega), RR]
     refine hR4 hkl (fun m hm h1 => ?_) _ (.refl _)
     rcases Nat.lt_or_ge m k with h2 | h2
     ·exact hH m hm h2
     ·obtain rfl : m = k := by omega
      exact hB
   ·have g3 : ¬ (k : Int) < ((locsN bs[i].ops[j]).length : Int) := by omega
    have hall : (locsN bs[i].ops[j]).all (fun l => locB bs up i l.1 l.2) = true := by
     rw [List.all_eq_true]
     intro l hl
     obtain ⟨m, hm, rfl⟩ := List.getElem_of_mem hl
     exact hH m hm (by omega)
    have eF : opLocF bs up i bs[i].ops[j] = if bs[i].ops[j].kind = 9 ∧ 0 < i then 1 else 0 := by unfold opLocF; rw [if_pos hall]
    by_cases c9 : bs[i].ops[j].kind = 9
    ·by_cases ci : (0 : Int) < (i : Int)
     ·simp only [g3, c9, ci, RR, RT]
      rw [if_pos ⟨c9, by omega⟩] at eF
      have := hbad (by rw [eF]; decide)
      rw [eF] at this
      exact ret_here this
     ·simp only [g3, c9, ci, ibin_up hj (by omega), RR, RT]
      exact hR3 (by rw [eo, eF, if_neg (by omega)])
    ·simp only [g3, c9, ibin_up hj (by omega), RR, RT]
     exact hR3 (by rw [eo, eF, if_neg (fun h => c9 h.1)])
  ·intro R3 hz2
   have g2 : ¬ (bs[i].ops.length : Int) < (bs[i].ops.length : Int) := by omega
   simp only [g2, ibin_up hi (by omega), RR]
   refine hR2 ?_
   unfold blkLocF
   rw [eb]
   exact firstF_no hz2
 ·intro R2 hz
  have g : ¬ (bs.length : Int) < (bs.length : Int) := by omega
  simp only [g, RR]
  have : locF bs up = 0 := firstF_no hz
  rw [this] at h
  exact ret_here h
end Go.Proofs.YtbapalgndjiamaaGreatDoor.E
/- The reference's faults of code. -/
namespace Go.Proofs.YtbapalgndjiamaaGreatDoor.E
open Go Go.RowKit
variable [L : Lam]
variable {σ τ : AH} {R : AEnd → AH → Prop}
theorem c_spec_l10Locals {bs : List Blk} {up : List Int} {i : Nat} (hu : Ups bs up) (hi : i < bs.length) (hl : bs.length ≤ 60) (hsm : smB bs[i].ops) (hbl : bs[i].ops.length ≤ 200) (h : R (.ret (iv (blkLocF bs up i))) σ) : acall TP fn_spec_l10Locals [roBk bs, .ro (ivs up), iv (i : Int)] σ R := by
 refine s_spec_l10Locals_ok ?_
 unfold s_spec_l10Locals
 have eb : bs.getD i default = bs[i] := (blk_at hi).symm
 unfold blkLocF at h
 rw [eb] at h
 refine lp_first (n := bs[i].ops.length) (st := fun j => (roBk bs, AV.ro (ivs up), iv (i : Int), iv (j : Int), ())) (f := fun j => opLocF bs up i (opA bs[i].ops j)) ?_ ?_ h
 ·intro j k hj h0 h1
  have g : (j : Int) < (bs[i].ops.length : Int) := by omega
  have hso := hsm _ (List.getElem_mem hj)
  have eo : opA bs[i].ops j = bs[i].ops[j] := (op_at hj).symm
  simp only [eo] at h0 h1
  have hsl := locs_sm hso
  simp only [idx_ro hi len_encBlk, RR, RT, len_ro, g, idx_ro hj len_encOp]
  refine jn_of (fun x τ => τ = σ ∧ x = (roBk bs, AV.ro (ivs up), iv (i : Int), iv (j : Int), bv ((locsN bs[i].ops[j]).all fun l => locB bs up i l.1 l.2), ()) ∧ ¬ (bs[i].ops[j].kind = 9 ∧ 0 < i)) ?_ ?_
  ·rintro _ _ ⟨rfl, rfl, hn⟩
   have eF : opLocF bs up i bs[i].ops[j] = if (locsN bs[i].ops[j]).all (fun l => locB bs up i l.1 l.2) = true then 0 else 3 := by unfold opLocF; rw [if_neg hn]
   cases hB : (locsN bs[i].ops[j]).all fun l => locB bs up i l.1 l.2
   ·rw [hB] at eF
    simp only [RR]
    have := h1 (by rw [eF]; decide)
    rw [eF] at this
    exact ret_here this
   ·rw [hB] at eF
    simp only [ibin_up hj (by omega), RR]
    exact h0 eF
  intro k2 hk2
  simp only [RR, RT, jn]
  have one : ∀ (hk : bs[i].ops[j].kind = 2 ∨ bs[i].ops[j].kind = 14 ∨ bs[i].ops[j].kind = 16), k2 (roBk bs, AV.ro (ivs up), iv (i : Int), iv (j : Int), bv (locB bs up i bs[i].ops[j].a bs[i].ops[j].b), ()) σ := by
   intro hk
   refine hk2 _ _ ⟨rfl, ?_, by omega⟩
   unfold locsN
   rw [if_pos hk]
   simp
   rfl
  by_cases c1 : bs[i].ops[j].kind = 2
  ·simp only [c1, RR, RT]
   refine c_spec_l10Local hu (by omega) (by omega) hso.1 hso.2.1 ?_
   exact ⟨trivial, one (.inl c1)⟩
  by_cases c2 : bs[i].ops[j].kind = 14
  ·simp only [c2, RR, RT]
   refine c_spec_l10Local hu (by omega) (by omega) hso.1 hso.2.1 ?_
   exact ⟨trivial, one (.inr (.inl c2))⟩
  by_cases c3 : bs[i].ops[j].kind = 16
  ·simp only [c3, RR, RT]
   refine c_spec_l10Local hu (by omega) (by omega) hso.1 hso.2.1 ?_
   exact ⟨trivial, one (.inr (.inr c3))⟩
  by_cases c4 : bs[i].ops[j].kind = 15
  ·simp only [c4, RR, RT]
   refine c_spec_l10Local hu (by omega) (by omega) hso.1 hso.2.1 ?_
   refine ⟨trivial, ?_⟩
   have e2 : (locsN bs[i].ops[j]).all (fun l => locB bs up i l.1 l.2) = (locB bs up i bs[i].ops[j].a bs[i].ops[j].b && locB bs up i bs[i].ops[j].c bs[i].ops[j].d) := by
    unfold locsN
    rw [if_neg (by omega), if_pos c4]
    simp
   rw [e2] at hk2
   cases hB : locB bs up i bs[i].ops[j].a bs[i].ops[j].b
   ·rw [hB] at hk2
    simp only [RR]
    exact hk2 _ _ ⟨rfl, rfl, by omega⟩
   ·rw [hB] at hk2
    simp only [RR, RT]
    refine c_spec_l10Local hu (by omega) (by omega) hso.2.2.2.2.1 hso.2.2.2.2.2.1 ?_
    exact ⟨trivial, hk2 _ _ ⟨rfl, rfl, by omega⟩⟩
  have e0 : locsN bs[i].ops[j] = [] := by unfold locsN; rw [if_neg (by omega), if_neg c4]
  by_cases c5 : bs[i].ops[j].kind = 9
  ·by_cases ci : (0 : Int) < (i : Int)
   ·simp only [c5, ci, RR]
    have eF : opLocF bs up i bs[i].ops[j] = 1 := by unfold opLocF; rw [e0, if_pos (show ([] : List (Int × Int)).all (fun l => locB bs up i l.1 l.2) = true from rfl), if_pos ⟨c5, by omega⟩]
    have := h1 (by rw [eF]; decide)
    rw [eF] at this
    exact ret_here this
   ·simp only [c5, ci, RR]
    exact hk2 _ _ ⟨rfl, by rw [e0]; rfl, by omega⟩
  ·simp only [c1, c2, c3, c4, c5, RR]
   exact hk2 _ _ ⟨rfl, by rw [e0]; rfl, fun h => c5 h.1⟩
 ·intro k h0
  have g : ¬ (bs[i].ops.length : Int) < (bs[i].ops.length : Int) := by omega
  simp only [idx_ro hi len_encBlk, RR, RT, len_ro, g]
  rw [h0] at h
  exact ret_here h
theorem c_spec_l10Fault {bs : List Blk} (hs : sC bs) (hbad : codeF bs ≠ 0 → R (.ret (.tup [nilS, iv (codeF bs)])) σ) (hok : codeF bs = 0 → ∀ up, Pre bs → (∀ b, b ∈ bs → hts b.ops ≠ none) → arndM bs = some up → R (.ret (.tup [.ro (ivs up), iv 0])) σ) :
  acall TP fn_spec_l10Fault [roBk bs] σ R := by
 refine s_spec_l10Fault_ok ?_
 unfold s_spec_l10Fault
 refine c_spec_l9Fault hs ?_
 by_cases c0 : opsF bs = 0
 case neg =>
  rw [codeF_ops c0] at hbad
  simp only [c0, RR]
  exact ret_here (hbad c0)
 simp only [c0, RR, len_ro]
 refine pre_cases c0 (fun h1 => ?_) (fun hp => ?_)
 ·rw [codeF_first c0 h1] at hbad
  exact ret_here (hbad (by decide))
 have hl := hp.len
 refine c_spec_l10Around hp.ne hl hs (opsF_blk c0) (fun hn => ?_) (fun hall up hu => ?_)
 ·have e : codeF bs = 1 := by
   rcases hn with hn | hn
   ·exact codeF_hts hp hn
   ·exact codeF_arn hp hn
  rw [e] at hbad
  simp only [aext0, aext1, RR]
  exact ret_here (hbad (by decide))
 have hups := ups_of hu
 have e := codeF_loc hp hall hu
 simp only [aext0, aext1, RR]
 refine lp_zero (n := bs.length) (st := fun i => (roBk bs, AV.ro (ivs up), iv (i : Int), ())) (f := blkLocF bs up) ?_ ?_
 ·intro i k hi hz hk
  have g : (i : Int) < (bs.length : Int) := by omega
  obtain ⟨hsm, hbl⟩ := hp.sm _ (List.getElem_mem hi)
  simp only [len_ro, g, RR]
  refine c_spec_l10Locals hups hi hl hsm hbl ?_
  by_cases c : blkLocF bs up i = 0
  ·simp only [c, ibin_up hi (by omega), RR]
   exact hk c
  ·simp only [c, RR]
   have e2 : codeF bs = blkLocF bs up i := by
    rw [e]
    unfold locF
    rw [firstF_is hi c hz]
   rw [e2] at hbad
   exact ret_here (hbad c)
 ·intro k hz
  have g : ¬ (bs.length : Int) < (bs.length : Int) := by omega
  simp only [len_ro, g, RR]
  have e2 : codeF bs = 0 := by
   rw [e]
   exact firstF_no hz
  exact ret_here (hok e2 up hp hall hu)
theorem codeF_pre {bs : List Blk} (h : codeF bs = 0) : Pre bs ∧ (∀ b, b ∈ bs → hts b.ops ≠ none) ∧ ∃ up, arndM bs = some up := by
 have h0 : opsF bs = 0 := by
  by_cases c : opsF bs = 0
  ·exact c
  ·rw [codeF_ops c] at h; exact h
 have h1 : ¬ (bs = [] ∨ (bs.getD 0 default).args ≠ 0) := fun c => by rw [codeF_first h0 c] at h; cases h
 have hp : Pre bs := ⟨h0, fun c => h1 (.inl c), Classical.byContradiction fun c => h1 (.inr c)⟩
 refine ⟨hp, fun b hb c => ?_, ?_⟩
 ·rw [codeF_hts hp ⟨b, hb, c⟩] at h; cases h
 ·cases c : arndM bs with
  | none => rw [codeF_arn hp c] at h; cases h
  | some up => exact ⟨up, rfl⟩
end Go.Proofs.YtbapalgndjiamaaGreatDoor.E
/- FusedIn, BlockAround, DeepestOf. -/
namespace Go.Proofs.YtbapalgndjiamaaGreatDoor.E
open Go Go.RowKit
variable [L : Lam]
variable {σ τ : AH} {R : AEnd → AH → Prop}
theorem bld2a (x : Int) : bld [iv 0, iv 0] [(0, 1), (1, 1)] [(0, iv x)] = some (.agg [iv x, iv 0]) := rfl
theorem bld2b (x : Int) : bld [iv 0, iv 0] [(0, 1), (1, 1)] [(1, iv x)] = some (.agg [iv 0, iv x]) := rfl
noncomputable def arnV (bs : List Blk) (k : Int) : AV := if codeF bs = 0 then (if inB 0 ((bs.length : Int) - 1) k = false then .agg [iv 3, iv 0] else if k = 0 then .agg [iv 4, iv 0] else .agg [iv 0, iv (atH ((arndM bs).getD []) k.toNat)]) else .agg [iv (codeF bs), iv 0]
theorem c_impl_BlockAround {bs : List Blk} {k : Int} (h : R (.ret (arnV bs k)) σ) : acall TP fn_impl_BlockAround [roBk bs, iv k] σ R := by
 refine s_impl_BlockAround_ok ?_
 unfold s_impl_BlockAround
 unfold arnV at h
 intro φ hφ
 refine c_impl_CodeFault ?_
 by_cases c : codeF bs = 0
 case neg =>
  rw [if_neg c] at h
  simp only [c, bld2a, RR]
  exact fin_int hφ rfl h
 rw [if_pos c] at h
 obtain ⟨hp, _, up, hup⟩ := codeF_pre c
 have hl := hp.len
 have e : ibin .sub (iv (bs.length : Int)) (.val (.int .i64 1)) = some (iv ((bs.length : Int) - 1)) := ibin_sub (by omega) (by omega)
 simp only [c, RR, len_ro, e]
 refine c_impl_in ?_
 cases c1 : inB 0 ((bs.length : Int) - 1) k
 ·rw [if_pos c1] at h
  simp only [bld2a, RR]
  exact fin_int hφ rfl h
 rw [if_neg (by rw [c1]; simp)] at h
 have hk := inB_iff.1 c1
 by_cases c2 : k = 0
 ·rw [if_pos c2] at h
  simp only [c2, bld2a, RR]
  exact fin_int hφ rfl h
 rw [if_neg c2, hup] at h
 simp only [c2, RR]
 obtain ⟨n, rfl⟩ : ∃ n : Nat, k = (n : Int) := ⟨k.toNat, by omega⟩
 refine c_impl_around hp.ne hl hp.sm (fun hn => ?_) (fun up' hu => ?_)
 ·rw [hup] at hn; cases hn
 rw [hup] at hu
 cases hu
 have hups := ups_of hup
 simp only [aext0, aext1, ro_rd (up := up) (n := n) (by rw [hups.len]; omega), lod_one, bld2b, RR]
 rw [Int.toNat_natCast] at h
 exact fin_int hφ rfl h
theorem c_spec_BlockAround {bs : List Blk} {k : Int} (hs : sC bs) (h : R (.ret (arnV bs k)) σ) : acall TP fn_spec_BlockAround [roBk bs, iv k] σ R := by
 refine s_spec_BlockAround_ok ?_
 unfold s_spec_BlockAround
 unfold arnV at h
 intro φ hφ
 refine c_spec_l10Fault hs (fun c => ?_) (fun c up hp _ hup => ?_)
 ·rw [if_neg c] at h
  simp only [aext0, aext1, c, bld2a, RR]
  exact fin_int hφ rfl h
 rw [if_pos c] at h
 have hl := hp.len
 have e : ibin .sub (iv (bs.length : Int)) (.val (.int .i64 1)) = some (iv ((bs.length : Int) - 1)) := ibin_sub (by omega) (by omega)
 simp only [aext0, aext1, RR, len_ro, e]
 refine c_spec_l1In ?_
 cases c1 : inB 0 ((bs.length : Int) - 1) k
 ·rw [if_pos c1] at h
  simp only [bld2a, RR]
  exact fin_int hφ rfl h
 rw [if_neg (by rw [c1]; simp)] at h
 have hk := inB_iff.1 c1
 by_cases c2 : k = 0
 ·rw [if_pos c2] at h
  simp only [c2, bld2a, RR]
  exact fin_int hφ rfl h
 rw [if_neg c2, hup] at h
 obtain ⟨n, rfl⟩ : ∃ n : Nat, k = (n : Int) := ⟨k.toNat, by omega⟩
 have hups := ups_of hup
 simp only [c2, ro_rd (up := up) (n := n) (by rw [hups.len]; omega), lod_one, bld2b, RR]
 rw [Int.toNat_natCast] at h
 exact fin_int hφ rfl h
theorem arnV_two (bs : List Blk) (k : Int) : ∃ a b : Int, arnV bs k = .agg [iv a, iv b] := by
 unfold arnV
 repeat' split
 all_goals exact ⟨_, _, rfl⟩
end Go.Proofs.YtbapalgndjiamaaGreatDoor.E
/- The law of blocks that are drawn: each is around just in one other. -/
namespace Go.Proofs.YtbapalgndjiamaaGreatDoor.E
open Go Go.RowKit
set_option maxRecDepth 100000
variable [L : Lam]
variable {σ τ : AH} {R : AEnd → AH → Prop}
theorem atH_setX {x : List Int} {j k : Nat} {v : Int} (hj : j < x.length) : atH (x.set j v) k = if j = k then v else atH x k := by
 unfold atH
 by_cases c : j = k
 ·subst c; simp [List.getD, hj]
 ·rw [if_neg c]; simp [List.getD, c]
theorem arOp_keep {n i k : Nat} {x z : List Int} {o : OpD} (e : arOp n i x o = some z) (h : 0 ≤ atH x k) : atH z k = atH x k := by
 unfold arOp at e
 split at e
 ·split at e
  ·cases e
  ·rename_i c
   cases e
   by_cases cj : o.a.toNat < x.length
   ·rw [atH_setX cj, if_neg (by rintro rfl; exact c (.inr (.inr h)))]
   ·rw [List.set_eq_of_length_le (by omega)]
 ·cases e; rfl
theorem arOps_keep {n i k : Nat} : ∀ (os : List OpD) {x z : List Int}, arOps n i os x = some z → 0 ≤ atH x k → atH z k = atH x k := by
 intro os
 induction os with
 | nil => intro x z e _; cases e; rfl
 | cons o r ih =>
  intro x z e h
  rw [arOps] at e
  cases c : arOp n i x o with
  | none => rw [c] at e; cases e
  | some w =>
   rw [c] at e
   have h1 := arOp_keep c h
   rw [ih e (by omega), h1]
theorem arAll_keep {n k : Nat} : ∀ (bs : List Blk) (i : Nat) {x z : List Int}, arAll n i bs x = some z → 0 ≤ atH x k → atH z k = atH x k := by
 intro bs
 induction bs with
 | nil => intro i x z e _; cases e; rfl
 | cons b r ih =>
  intro i x z e h
  rw [arAll] at e
  cases c : arOps n i b.ops x with
  | none => rw [c] at e; cases e
  | some w =>
   rw [c] at e
   have h1 := arOps_keep b.ops c h
   rw [ih _ e (by omega), h1]
section
variable {bs : List Blk} {up : List Int}
abbrev ini (bs : List Blk) : List Int := List.replicate bs.length (-1)
def stI (bs : List Blk) (i : Nat) : Option (List Int) := arAll bs.length 0 (bs.take i) (ini bs)
def stJ (bs : List Blk) (i j : Nat) : Option (List Int) := (stI bs i).bind (arOps bs.length i ((bs.getD i default).ops.take j))
def cnk (x : Option (List Int)) (k : Nat) : Nat := match x with
 | some x => if 0 ≤ atH x k then 1 else 0
 | none => 0
theorem arnd_all (h : arndM bs = some up) : arAll bs.length 0 bs (ini bs) = some up := by
 unfold arndM at h
 split at h
 ·rename_i out e
  split at h
  ·cases h; exact e
  ·cases h
 ·cases h
theorem stI_some (h : arndM bs = some up) (i : Nat) : ∃ y, stI bs i = some y := by
 cases e : stI bs i with
 | some y => exact ⟨y, rfl⟩
 | none =>
  have := arAll_none (k := i) e
  rw [arnd_all h] at this; cases this
theorem stJ_some (h : arndM bs = some up) {i : Nat} (hi : i < bs.length) (j : Nat) : ∃ y x, stI bs i = some y ∧ stJ bs i j = some x ∧ arOps bs.length i (bs[i].ops.take j) y = some x := by
 obtain ⟨y, hy⟩ := stI_some h i
 have eb : bs.getD i default = bs[i] := by simp [List.getD, hi]
 have h2 := arAll_at hi hy
 obtain ⟨z, hz⟩ := stI_some h (i + 1)
 unfold stI at hz
 rw [h2] at hz
 cases e : arOps bs.length i (bs[i].ops.take j) y with
 | some x => exact ⟨y, x, hy, by unfold stJ; rw [hy, eb]; exact e, e⟩
 | none =>
  have := arOps_none e
  rw [hz] at this; cases this
theorem stJ_end (h : arndM bs = some up) {i : Nat} (hi : i < bs.length) : stJ bs i bs[i].ops.length = stI bs (i + 1) := by
 obtain ⟨y, hy⟩ := stI_some h i
 have eb : bs.getD i default = bs[i] := by simp [List.getD, hi]
 have h2 := arAll_at hi hy
 unfold stJ
 rw [hy, eb, List.take_length]
 exact h2.symm
theorem stJ_zero (h : arndM bs = some up) {i : Nat} : stJ bs i 0 = stI bs i := by
 obtain ⟨y, hy⟩ := stI_some h i
 unfold stJ
 rw [hy]; simp [arOps]
theorem stJ_up (h : arndM bs = some up) {i j k : Nat} (hi : i < bs.length) {x : List Int} (hx : stJ bs i j = some x) (h0 : 0 ≤ atH x k) : atH up k = atH x k := by
 obtain ⟨y, x', hy, hx', e⟩ := stJ_some h hi j
 rw [hx] at hx'
 obtain rfl := Option.some.inj hx'
 have h2 := arAll_at hi hy
 obtain ⟨z, hz⟩ := stI_some h (i + 1)
 unfold stI at hz
 rw [h2] at hz
 have e3 := arOps_app bs.length i (bs[i].ops.take j) (bs[i].ops.drop j) y
 rw [List.take_append_drop, hz, e] at e3
 have k1 := arOps_keep _ e3.symm h0
 have e4 := arAll_app bs.length (bs.take (i + 1)) (bs.drop (i + 1)) 0 (ini bs)
 rw [List.take_append_drop, arnd_all h, h2, hz] at e4
 have k2 := arAll_keep (k := k) _ _ e4.symm (by omega)
 rw [k2, k1]
theorem stJ_step (h : arndM bs = some up) {i j k : Nat} (hi : i < bs.length) (hj : j < bs[i].ops.length) (hk : k < bs.length) :
  (bs[i].ops[j].kind = 4 ∧ bs[i].ops[j].a = (k : Int) → cnk (stJ bs i (j + 1)) k = cnk (stJ bs i j) k + 1 ∧ atH up k = (i : Int)) ∧ (¬ (bs[i].ops[j].kind = 4 ∧ bs[i].ops[j].a = (k : Int)) → cnk (stJ bs i (j + 1)) k = cnk (stJ bs i j) k) := by
 obtain ⟨y, x, hy, hx, e⟩ := stJ_some h hi j
 obtain ⟨y', z, hy', hz, e2⟩ := stJ_some h hi (j + 1)
 rw [hy] at hy'
 obtain rfl := Option.some.inj hy'
 have e3 := arOps_at hj e
 rw [e2] at e3
 have hI := arAll_inv (bs.take i) 0 (ArI.init bs.length) (show arAll bs.length 0 (bs.take i) (ini bs) = some y from hy)
 have hxl := (arOps_inv _ hI e).1
 rw [hz, hx]
 constructor
 ·rintro ⟨h4, ha⟩
  unfold arOp at e3
  rw [if_pos h4] at e3
  split at e3
  ·cases e3
  ·rename_i c
   have e4 : z = x.set bs[i].ops[j].a.toNat (i : Int) := Option.some.inj e3
   have hak : bs[i].ops[j].a.toNat = k := by omega
   rw [hak] at c e4
   have hn : ¬ 0 ≤ atH x k := fun q => c (.inr (.inr q))
   have hzk : atH z k = (i : Int) := by rw [e4, atH_setX (by omega), if_pos rfl]
   refine ⟨?_, ?_⟩
   ·unfold cnk
    dsimp only
    rw [if_pos (by omega), if_neg hn]
   ·rw [stJ_up h hi hz (by omega), hzk]
 ·intro hc
  unfold arOp at e3
  split at e3
  ·split at e3
   ·cases e3
   ·rename_i h4 c
    have e4 : z = x.set bs[i].ops[j].a.toNat (i : Int) := Option.some.inj e3
    have hne : ¬ bs[i].ops[j].a.toNat = k := by
     intro q
     by_cases c0 : 0 ≤ bs[i].ops[j].a
     ·exact hc ⟨h4, by omega⟩
     ·exact c (.inl (by omega))
    have : atH z k = atH x k := by
     rw [e4]
     by_cases cl : bs[i].ops[j].a.toNat < x.length
     ·rw [atH_setX cl, if_neg hne]
     ·rw [List.set_eq_of_length_le (by omega)]
    unfold cnk
    dsimp only
    rw [this]
  ·have e4 : z = x := Option.some.inj e3
   rw [e4]
theorem blkF_ops {b : Blk} (h : blkF b = 0) : ∀ o, o ∈ b.ops → opF o = 0 := by
 intro o ho
 unfold blkF at h
 split at h
 ·cases h
 ·split at h
  ·cases h
  ·obtain ⟨i, hi, rfl⟩ := List.getElem_of_mem ho
   have := firstF_zero _ _ h i (Nat.zero_le _) (by omega)
   simpa [List.getD, hi] using this
theorem cnk_le (x : Option (List Int)) (k : Nat) : cnk x k ≤ 1 := by
 unfold cnk
 split
 ·split <;> omega
 ·omega
end
set_option maxHeartbeats 1000000 in
theorem c_laws_FnBlocks {ns : List Int} (hbs : ∀ x, x ∈ ns → 0 ≤ x ∧ x ≤ 255) (h : R (.ret (bv true)) σ) : acall TP fn_laws_FnBlocks [roB ns] σ R := by
 refine s_laws_FnBlocks_ok ?_
 unfold s_laws_FnBlocks
 refine c_laws_lwBig ?_
 by_cases cb : 1048576 < ns.length
 ·have e : decide (1048576 < ns.length) = true := by simpa using cb
  simp only [e, RR]
  exact ret_here h
 have e : decide (1048576 < ns.length) = false := by simpa using cb
 simp only [e, RR]
 refine c_spec_DrawBlockAround ⟨hbs, by omega⟩ fun bks k0 hsc hl => ?_
 have a0 : aext (.tup [roBk bks, iv k0]) 0 = some (roBk bks) := rfl
 have a1 : aext (.tup [roBk bks, iv k0]) 1 = some (iv k0) := rfl
 simp only [a0, a1, RR]
 refine c_impl_BlockAround ?_
 simp only [RR]
 obtain ⟨ra, rb, er⟩ := arnV_two bks k0
 rw [er]
 refine hold (cs := [iv ra, iv rb]) rfl rfl rfl (one2 rfl rfl) ?_
 have l0 : ∀ τ, lod (.rop [iv ra, iv rb] 0) τ = some (iv ra) := fun _ => rfl
 have l1 : ∀ τ, lod (.rop [iv ra, iv rb] 1) τ = some (iv rb) := fun _ => rfl
 simp only [l0, RR]
 by_cases c : ra = 0
 ·subst c
  unfold arnV at er
  split at er
  ·rename_i hc0
   split at er
   ·cases er
   rename_i hin
   split at er
   ·cases er
   rename_i hk0
   obtain ⟨hP, _, up, hup⟩ := codeF_pre hc0
   have hin := inB_iff.1 (by simpa using hin : inB 0 ((bks.length : Int) - 1) k0 = true)
   obtain ⟨k, rfl⟩ : ∃ k : Nat, k0 = (k : Int) := ⟨k0.toNat, by omega⟩
   have hkl : k < bks.length := by omega
   have hk1 : 1 ≤ k := by omega
   have hrb : rb = atH up k := by
    rw [hup] at er
    simp only [Int.toNat_natCast, Option.getD_some] at er
    injection er with er
    injection er with _ er
    injection er with er
    injection er with er
    injection er with _ er
    exact er.symm
   subst hrb
   obtain ⟨hu1, hu2⟩ := (arndM_inv hup).2 k hk1 hkl
   have hlen := hP.len
   simp only [RR]
   refine lp_read bks.length (fun i => (roBk bks, iv (k : Int), .rop [iv 0, iv (atH up k)] 0, iv ((cnk (stI bks i) k : Nat) : Int), iv (i : Int), ())) ?_ ?_
   ·have e0 : cnk (stI bks 0) k = 0 := by
     unfold stI cnk
     simp only [List.take_zero, arAll]
     rw [if_neg]
     rw [atH_rep]; omega
    rw [e0]; rfl
   intro i hi R' hR'
   simp only [len_ro, RR]
   by_cases hlt : i < bks.length
   ·have g : (i : Int) < (bks.length : Int) := by omega
    have hbF := opsF_blk hP.ops _ (List.getElem_mem hlt)
    have hsm := blkF_sm hbF
    have bo : ∀ τ, lod (.rop (encBlk bks[i]) 1) τ = some (roO bks[i].ops) := fun _ => rfl
    simp only [g, RR]
    refine lp_read bks[i].ops.length (fun j => (roBk bks, iv (k : Int), .rop [iv 0, iv (atH up k)] 0, iv ((cnk (stJ bks i j) k : Nat) : Int), iv (i : Int), iv (j : Int), ())) (by rw [stJ_zero hup] <;> rfl) ?_
    intro j hj R2 hR2
    simp only [idx_ro hlt len_encBlk, bo, len_ro, RR]
    by_cases hjl : j < bks[i].ops.length
    ·have g2 : (j : Int) < (bks[i].ops.length : Int) := by omega
     obtain ⟨s1, s2⟩ := stJ_step hup hlt hjl hkl
     have ko : ∀ τ, lod (.rop (encOp bks[i].ops[j]) 0) τ = some (iv bks[i].ops[j].kind) := fun _ => rfl
     have ka : ∀ τ, lod (.rop (encOp bks[i].ops[j]) 1) τ = some (iv bks[i].ops[j].a) := fun _ => rfl
     have hof := blkF_ops hbF _ (List.getElem_mem hjl)
     simp only [g2, RR]
     refine jn_by (P := fun x T => T = σ ∧ x = (roBk bks, iv (k : Int), .rop [iv 0, iv (atH up k)] 0, iv ((cnk (stJ bks i (j + 1)) k : Nat) : Int), iv (i : Int), iv (j : Int), ())) ?_ ?_
     ·rintro x T ⟨rfl, rfl⟩
      simp only [idx_ro hlt len_encBlk, bo, idx_ro hjl len_encOp, lodA_all (len_encOp _), RR]
      refine c_impl_OpFault ?_
      rw [hof]
      simp only [ibin_up hjl (by omega), RR]
      exact hR2 hjl _ (.refl _)
     ·intro kk hk
      have c1 := cnk_le (stJ bks i j) k
      by_cases ck : bks[i].ops[j].kind = 4
      ·by_cases ca : bks[i].ops[j].a = (k : Int)
       ·obtain ⟨q1, q2⟩ := s1 ⟨ck, ca⟩
        have l1' : ∀ τ, lod (.rop [iv 0, iv (atH up k)] 1) τ = some (iv (atH up k)) := fun _ => rfl
        have ea : ibin .add (iv ((cnk (stJ bks i j) k : Nat) : Int)) (.val (.int .i64 1)) = some (iv ((cnk (stJ bks i j) k + 1 : Nat) : Int)) := by rw [ibin_add (by omega) (by omega)]; rfl
        have ne : (!decide ((i : Int) = atH up k)) = false := by rw [q2]; simp
        simp only [idx_ro hlt len_encBlk, bo, idx_ro hjl len_encOp, ko, ka, ck, ca, ea, l1', ne, RR]
        exact hk _ _ ⟨rfl, by rw [q1] <;> rfl⟩
       ·simp only [idx_ro hlt len_encBlk, bo, idx_ro hjl len_encOp, ko, ka, ck, ca, RR]
        exact hk _ _ ⟨rfl, by rw [s2 fun q => ca q.2] <;> rfl⟩
      ·simp only [idx_ro hlt len_encBlk, bo, idx_ro hjl len_encOp, ko, ck, RR]
       exact hk _ _ ⟨rfl, by rw [s2 fun q => ck q.1] <;> rfl⟩
    ·have g2 : ¬ (j : Int) < (bks[i].ops.length : Int) := by omega
     obtain rfl : j = bks[i].ops.length := by omega
     simp only [g2, ibin_up hlt (by omega), RR]
     rw [stJ_end hup hlt]
     exact hR' hlt _ (.refl _)
   ·have g : ¬ (i : Int) < (bks.length : Int) := by omega
    obtain rfl : i = bks.length := by omega
    have e1 : cnk (stI bks bks.length) k = 1 := by
     unfold stI
     rw [List.take_length, arnd_all hup]
     unfold cnk
     dsimp only
     rw [if_pos hu1]
    have l1' : ∀ τ, lod (.rop [iv 0, iv (atH up k)] 1) τ = some (iv (atH up k)) := fun _ => rfl
    rw [e1]
    simp only [g, l1', show ((1 : Nat) : Int) = 1 from rfl, hu1, hu2, RR]
    exact ret_here h
  ·rename_i hne
   injection er with er
   injection er with er
   injection er with er
   injection er with _ er
   exact absurd er hne
 ·simp only [c, RR]
  refine c_spec_BlockAround hsc ?_
  rw [er]
  have f0 : fldV 0 (.agg [iv ra, iv rb]) = some (iv ra) := rfl
  have cd : decide (ra = ra) = true := by simp
  simp only [l0, f0, cd, RR, and_true, true_and]
  exact ret_here h
end Go.Proofs.YtbapalgndjiamaaGreatDoor.E
