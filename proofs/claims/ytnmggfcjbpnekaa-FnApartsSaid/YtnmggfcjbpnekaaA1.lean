/- Forms as texts, drawn: parts. -/
import Derived.Test.YtnmggfcjbpnekaaA0
set_option linter.unusedSectionVars false
set_option linter.unusedSimpArgs false
set_option linter.unusedVariables false
namespace Go.Proofs.Ytnmggfcjbpnekaa.E
open Go Go.RowKit
set_option maxRecDepth 100000
section
variable [L : Lam]
variable {σ τ : AH} {R : AEnd → AH → Prop}
theorem cat {a b : ByteArray} {k : AV → Prop} (n m : Nat) (ha : a.size ≤ n) (hb : b.size ≤ m) (hn : n + m ≤ 1000000000) (hk : ∀ z : ByteArray, z.size ≤ n + m → k (str z)) : og (sbin .add (str a) (str b)) k := by
  rw [sbin_add a b (by omega)]
  exact hk (a ++ b) (by rw [ByteArray.size_append]; omega)
/-- What is known of a heap, but of one family, is known of another one. -/
def Keep (φ : Nat) (σ τ : AH) : Prop := ∀ ψ F, ψ ≠ φ → σ ψ = some F → τ ψ = some F
theorem Keep.refl (φ : Nat) (σ : AH) : Keep φ σ σ := fun _ _ _ h => h
theorem Keep.trans {φ : Nat} {a b c : AH} (h : Keep φ a b) (k : Keep φ b c) : Keep φ a c := fun ψ F hn hF => k ψ F hn (h ψ F hn hF)
theorem Keep.sub {φ : Nat} {S : Fam} (h : Keep φ σ τ) : AH.Sub (σ.set φ S) (τ.set φ S) := by
  intro ψ F hF
  by_cases e : ψ = φ
  · subst e; rw [AH.set_same] at hF ⊢; exact hF
  · rw [AH.set_ne' e] at hF ⊢; exact h ψ F e hF
theorem Keep.set {φ ψ : Nat} {F : Fam} (h : Keep φ σ τ) (hn : τ ψ = none) : Keep φ σ (τ.set ψ F) := by
  intro χ G hχ hG
  have := h χ G hχ hG
  rw [AH.set_ne' (by rintro rfl; rw [hn] at this; cases this)]; exact this
/-- Names in a list that does not lie where the draw's bytes lie. -/
structure Nms (φ : Nat) (τ : AH) (a : AV) (xs : List ByteArray) : Prop where
  buf : Buf τ 1 a (txs xs)
  far : ¬ Buf.fam a φ
  small : ∀ x, x ∈ xs → x.size ≤ 30
  len : xs.length ≤ 1000
theorem Nms.set {φ : Nat} {a : AV} {xs : List ByteArray} {S : Fam} (h : Nms φ τ a xs) : Nms φ (τ.set φ S) a xs :=
  ⟨h.buf.keep fun ψ hf => AH.set_ne' (by rintro rfl; exact h.far hf), h.far, h.small, h.len⟩
theorem Nms.keep {φ : Nat} {a : AV} {xs : List ByteArray} (h : Nms φ σ a xs) (k : Keep φ σ τ) : Nms φ τ a xs := by
  refine ⟨?_, h.far, h.small, h.len⟩
  rcases h.buf with h' | ⟨ψ, st, rfl, hF⟩
  · exact .inl h'
  · exact .inr ⟨ψ, st, rfl, k ψ _ (by rintro rfl; exact h.far ⟨_, _, _, rfl⟩) hF⟩
theorem Nms.lenS {φ : Nat} {a : AV} {xs : List ByteArray} (h : Nms φ τ a xs) : lenS a = some (iv (xs.length : Int)) := (buf_rd h.buf).len
/-- Where a name lies, whatever is drawn. -/
theorem Nms.at {φ : Nat} {a : AV} {xs : List ByteArray} (h : Nms φ τ a xs) {j : Nat} (hj : j < xs.length) : ∃ p, ∀ S, idx 1 a (iv (j : Int)) (τ.set φ S) = some p ∧ lod p (τ.set φ S) = some (str xs[j]) := by
  rcases h.buf with ⟨_, e⟩ | ⟨ψ, st, rfl, hF⟩
  · have : xs = [] := by simpa [txs] using e
    subst this
    cases hj
  · have hn : ψ ≠ φ := by rintro rfl; exact h.far ⟨_, _, _, rfl⟩
    refine ⟨.ptr ψ st j 0, fun S => ?_⟩
    have hF' : (τ.set φ S) ψ = some ⟨st, 1, txs xs⟩ := by rw [AH.set_ne' hn]; exact hF
    have hl : (txs xs).length = xs.length := by simp [txs]
    refine ⟨?_, lod_at hF' rfl ?_⟩
    · have := idx_own (st := st) (off := 0) (n := (txs xs).length) hF' (by omega : j < (txs xs).length)
      rwa [Nat.zero_add] at this
    · simp [txs, List.getD, hj]
theorem nx {φ u : Nat} {ns : List Int} {n : Int} {K : AEnd → AH → Prop} (hb : Bts ns) (hu : u ≤ 1000000) (h1 : 1 ≤ n) (h2 : n ≤ 1000) (h : ∀ v : Int, 0 ≤ v → v < n → K (.ret (iv v)) (τ.set φ (Sr ns (u + 1)))) :
    acall TP fn_spec_l1Next [.ptr φ 0 0 0, iv n] (τ.set φ (Sr ns u)) K := by
  refine c_spec_l1Next (AH.set_same ..) hb hu (by omega) fun v _ hv => ?_
  rw [AH.set_set]
  exact h v (hv h1).1 (hv h1).2
theorem chance {φ u : Nat} {ns : List Int} {n : Int} {K : AEnd → AH → Prop} (hb : Bts ns) (hu : u ≤ 1000000) (h2 : n ≤ 1000) (h : ∀ b : Bool, K (.ret (bv b)) (τ.set φ (Sr ns (u + 1)))) :
    acall TP fn_spec_l1Chance [.ptr φ 0 0 0, iv n] (τ.set φ (Sr ns u)) K := by
  refine c_spec_l1Chance (AH.set_same ..) hb hu (by omega) fun b => ?_
  rw [AH.set_set]
  exact h b
/-- One word out of words that are written out: the list is made, a number is drawn. -/
theorem bsl_next {φ u n : Nat} {ns : List Int} {ws : List ByteArray} {ps : List (Nat × AV)} {k : AV → AH → Prop} {P : AV → AH → Prop} (hb : Bts ns) (hu : u ≤ 1000000) (he : afillS 1 (List.replicate n [str ⟨#[]⟩]) ps = some (txs ws)) (hn : ws.length = n) (h0 : 0 < n) (h1 : n ≤ 1000)
    (hk : ∀ ψ w, w ∈ ws → ψ ≠ φ → τ ψ = none → k (str w) ((τ.set ψ ⟨0, 1, txs ws⟩).set φ (Sr ns (u + 1)))) :
    bsl 1 [str ⟨#[]⟩] n ps (τ.set φ (Sr ns u)) fun v40 σ => acall TP fn_spec_l1Next [.ptr φ 0 0 0, iv (n : Int)] σ (onr (fun v42 σ => og (idx 1 v40 v42 σ) fun v43 => og (lod v43 σ) fun v44 => k v44 σ) P) := by
  unfold bsl
  rw [he]
  refine ⟨by omega, ?_⟩
  rw [if_neg (by omega)]
  intro ψ hψ
  obtain ⟨hne, hψ'⟩ := AH.set_none.1 hψ
  rw [AH.set_comm _ _ _ hne.symm]
  refine nx hb hu (by omega) (by omega) fun v v0 v1 => ?_
  have hj : v.toNat < ws.length := by omega
  have hF : ((τ.set ψ ⟨0, 1, txs ws⟩).set φ (Sr ns (u + 1))) ψ = some ⟨0, 1, txs ws⟩ := by rw [AH.set_ne' hne, AH.set_same]
  have p1 := idx_own (st := 0) (off := 0) (n := n) hF (by omega : v.toNat < n)
  rw [show ((v.toNat : Nat) : Int) = v by omega, Nat.zero_add] at p1
  have p2 := lod_at (i := v.toNat) (off := 0) (c := str ws[v.toNat]) hF rfl (by simp [txs, List.getD, hj])
  simp only [p1, p2, RR]
  exact hk ψ _ (List.getElem_mem hj) hne hψ'
theorem bslR_lit {n : Nat} {ps : List (Nat × AV)} {ws : List ByteArray} (he : afillS 1 (List.replicate n [str ⟨#[]⟩]) ps = some (txs ws)) (h0 : 0 < n) (h1 : n ≤ 1000) : bslR 1 [str ⟨#[]⟩] n ps = some (.ro (txs ws)) := by
  unfold bslR
  rw [he]
  simp only
  rw [if_pos ⟨by omega, by intro c hc; obtain ⟨x, _, rfl⟩ := List.mem_map.1 hc; rfl⟩, if_neg (by omega)]
/-- A word out of words that are written out, read wherever. -/
theorem ro_at {ws : List ByteArray} {v : Int} (v0 : 0 ≤ v) (v1 : v < (ws.length : Int)) : ∃ w, w ∈ ws ∧ ∀ τ, idx 1 (.ro (txs ws)) (iv v) τ = some (.rop [str w] 0) ∧ lod (.rop [str w] 0) τ = some (str w) := by
  have hj : v.toNat < ws.length := by omega
  refine ⟨ws[v.toNat], List.getElem_mem hj, fun τ => ⟨?_, rfl⟩⟩
  have := idx_ro (σ := τ) (enc := fun x => [str x]) (sz := 1) hj (fun _ => rfl)
  rwa [show ((v.toNat : Nat) : Int) = v by omega] at this
/-- A list of names and one name more. -/
theorem grow {φ u : Nat} {ns : List Int} {a : AV} {xs : List ByteArray} {w : ByteArray} {k : AV → AH → Prop} (hN : Nms φ τ a xs) (hl : xs.length < 1000) (hw : w.size ≤ 30)
    (hk : ∀ a' τ', Keep φ τ τ' → Nms φ τ' a' (xs ++ [w]) → k a' (τ'.set φ (Sr ns u))) :
    bsl 1 [str ⟨#[]⟩] 0 [] (τ.set φ (Sr ns u)) fun v45 σ => app 1 v45 a σ fun v47 σ => bsl 1 [str ⟨#[]⟩] 1 [(0, str w)] σ fun v49 σ => app 1 v47 v49 σ fun v50 σ => k v50 σ := by
  refine ⟨by decide, ?_⟩
  rw [if_pos rfl]
  have hN1 : Nms φ (τ.set φ (Sr ns u)) a xs := hN.set
  generalize hT : τ.set φ (Sr ns u) = T at hN1
  have hTφ : T φ = some (Sr ns u) := by rw [← hT, AH.set_same]
  have hKT : Keep φ τ T := fun ψ F hn hF => by rw [← hT, AH.set_ne' hn]; exact hF
  have hae : aelems T a = some (txs xs) := by
    rcases hN1.buf with ⟨e1, e⟩ | ⟨ψ, st, rfl, hF⟩
    · rw [e]; rcases e1 with rfl | rfl <;> rfl
    · have hl2 : (txs xs).length = xs.length := by simp [txs]
      simp [aelems, hF]
      exact List.take_of_length_le (by omega)
  have one : ∀ (zs : List ByteArray) c, c ∈ txs zs → c.length = 1 := by intro zs c hc; obtain ⟨x, _, rfl⟩ := List.mem_map.1 hc; rfl
  have one' : ∀ (zs : List ByteArray) c, c ∈ txs zs → ∀ y, y ∈ c → y.one = true := by intro zs c hc y hy; obtain ⟨x, _, rfl⟩ := List.mem_map.1 hc; rw [List.mem_singleton.1 hy]; rfl
  refine Buf.app (es := []) (.inl ⟨.inr rfl, rfl⟩) hae (one xs) (one' xs) (by simp [txs]; omega) ?_
  intro a1 T1 b1 b2 b3 b4
  have emp_fam : ∀ ψ, ¬ Buf.fam AV.emp ψ := by rintro ψ ⟨_, _, _, e⟩; cases e
  have hK1 : ∀ ψ F, T ψ = some F → T1 ψ = some F := fun ψ F hF => by rw [b2 ψ (emp_fam ψ) (by rw [hF]; simp)]; exact hF
  refine ⟨by decide, ?_⟩
  rw [if_neg (by decide)]
  intro χ hχ
  have nf1 : ∀ ψ, Buf.fam a1 ψ → T ψ = none := fun ψ hf => (b3 ψ hf).resolve_left (emp_fam ψ)
  have hχT : T χ = none := by
    cases e : T χ with
    | none => rfl
    | some F => rw [hK1 χ F e] at hχ; cases hχ
  have B2 : Buf (T1.set χ ⟨0, 1, [[str w]]⟩) 1 a1 (txs xs) := by
    have b1' : Buf T1 1 a1 (txs xs) := by simpa using b1
    refine b1'.keep fun ψ hf => AH.set_ne' ?_
    rintro rfl
    obtain ⟨F, hF⟩ := b1'.fam_some hf
    rw [hχ] at hF; cases hF
  have hae2 : aelems (T1.set χ ⟨0, 1, [[str w]]⟩) (.own χ 0 0 1) = some (txs [w]) := by simp [aelems, txs]
  refine Buf.app B2 hae2 (one [w]) (one' [w]) (by simp [txs]; omega) ?_
  intro a2 T2 d1 d2 d3 d4
  have hK2 : ∀ ψ F, T ψ = some F → T2 ψ = some F := fun ψ F hF => by
    have n1 : ψ ≠ χ := by rintro rfl; rw [hχT] at hF; cases hF
    have n2 : ¬ Buf.fam a1 ψ := fun hf => by rw [nf1 ψ hf] at hF; cases hF
    have e1 := hK1 ψ F hF
    rw [d2 ψ n2 (by rw [AH.set_ne' n1, e1]; simp), AH.set_ne' n1]; exact e1
  have e5 : T2 = T2.set φ (Sr ns u) := (AH.set_self (hK2 φ _ hTφ)).symm
  have far2 : ¬ Buf.fam a2 φ := fun hf => by
    rcases d3 φ hf with hf | hn
    · have := nf1 φ hf; rw [hTφ] at this; cases this
    · have := (AH.set_none.1 hn).2
      rw [hK1 φ _ hTφ] at this; cases this
  rw [e5]
  refine hk a2 T2 (fun ψ F hn hF => hK2 ψ F (hKT ψ F hn hF)) ⟨by rw [show txs (xs ++ [w]) = txs xs ++ txs [w] by simp [txs]]; exact d1, far2, fun x hx => ?_, by simp; omega⟩
  rcases List.mem_append.1 hx with hx | hx
  · exact hN.small x hx
  · rw [List.mem_singleton.1 hx]; exact hw
end
end Go.Proofs.Ytnmggfcjbpnekaa.E
