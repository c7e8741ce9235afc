/- Stacks of pieces, built: segsOf, l12Push, l12Open. -/
import Derived.Test.YtjfdgijgkbojnaaH9
set_option linter.unusedSectionVars false
set_option linter.unusedSimpArgs false
set_option linter.unusedVariables false
namespace Go.Proofs.Ytjfdgijgkbojnaa.E
open Go Go.RowKit
variable [L : Lam]
variable {σ : AH} {R : AEnd → AH → Prop}
/-- Nothing of it lay in σ. -/
structure Fresh (σ : AH) (a : AV) (qs : List (AV × List Int)) : Prop where
  out : ∀ ψ, Buf.fam a ψ → σ ψ = none
  ins : ∀ q, q ∈ qs → ∀ ψ, Buf.fam q.1 ψ → σ ψ = none
theorem PB.dif {σ' : AH} {a : AV} {qs : List (AV × List Int)} (h : PB σ' a qs) (hf : Fresh σ a qs) : PB (dif σ σ') a qs := ⟨h.out.dif hf.out, fun q hq => (h.ins q hq).dif (hf.ins q hq), h.sep, h.pair⟩
theorem nofam_nil (ψ : Nat) : ¬ Buf.fam nilS ψ := by rintro ⟨_, _, _, e⟩; cases e
theorem PB.nil : PB σ nilS [] := ⟨.inl ⟨.inl rfl, rfl⟩, (fun q hq => by cases hq), (fun q hq => by cases hq), .nil⟩
theorem Fresh.nil : Fresh σ nilS [] := ⟨fun ψ h => absurd h (nofam_nil ψ), fun q hq => by cases hq⟩
theorem Buf.one {sz : Nat} {a : AV} {es : List (List AV)} (h : Buf σ sz a es) : acells a = some [a] ∧ a.one = true := by
  rcases h with ⟨rfl | rfl, _⟩ | ⟨φ, st, rfl, hF⟩ <;> exact ⟨rfl, rfl⟩
/-- A list put behind the others. -/
theorem PB.push {a w x : AV} {qs : List (AV × List Int)} {xs : List Int} {k : AV → AH → Prop} (h : PB σ a qs) (hx : aelems σ x = some [[w]]) (hw : Buf σ 1 w (xs.map fun x => [iv x]))
    (s1 : ∀ ψ, Buf.fam w ψ → ¬ Buf.fam a ψ) (s2 : ∀ q, q ∈ qs → ∀ ψ, Buf.fam q.1 ψ → ¬ Buf.fam w ψ) (hn : qs.length + 1 ≤ 4294967296)
    (hk : ∀ a' σ', PB σ' a' (qs ++ [(w, xs)]) → (∀ ψ, ¬ Buf.fam a ψ → σ ψ ≠ none → σ' ψ = σ ψ) → (∀ ψ, Buf.fam a' ψ → Buf.fam a ψ ∨ σ ψ = none) → k a' σ') : app 1 a x σ k := by
  refine Buf.app h.out hx (fun c hc => by obtain rfl := List.mem_singleton.1 hc; rfl) (fun c hc y hy => ?_) (by simpa using hn) ?_
  · obtain rfl := List.mem_singleton.1 hc
    obtain rfl := List.mem_singleton.1 hy
    exact hw.one.2
  intro a' σ' b1 b2 b3 b4
  have stay : ∀ q, q ∈ qs → Buf σ' 1 q.1 (q.2.map fun x => [iv x]) := fun q hq => (h.ins q hq).keep fun ψ hψ => b2 ψ (h.sep q hq ψ hψ) (by obtain ⟨F, hF⟩ := (h.ins q hq).fam_some hψ; rw [hF]; simp)
  have stayw : Buf σ' 1 w (xs.map fun x => [iv x]) := hw.keep fun ψ hψ => b2 ψ (s1 ψ hψ) (by obtain ⟨F, hF⟩ := hw.fam_some hψ; rw [hF]; simp)
  refine hk a' σ' ⟨by simpa using b1, fun q hq => ?_, fun q hq ψ hψ hψ' => ?_, ?_⟩ b2 b3
  · rcases List.mem_append.1 hq with hq | hq
    · exact stay q hq
    · obtain rfl := List.mem_singleton.1 hq; exact stayw
  · have hold : Buf.fam a ψ → False := by
      rcases List.mem_append.1 hq with hq | hq
      · exact h.sep q hq ψ hψ
      · obtain rfl := List.mem_singleton.1 hq; exact s1 ψ hψ
    rcases b3 ψ hψ' with hf | hf
    · exact hold hf
    · rcases List.mem_append.1 hq with hq | hq
      · obtain ⟨F, hF⟩ := (h.ins q hq).fam_some hψ; rw [hF] at hf; cases hf
      · obtain rfl := List.mem_singleton.1 hq
        obtain ⟨F, hF⟩ := hw.fam_some hψ; rw [hF] at hf; cases hf
  · rw [List.pairwise_append]
    exact ⟨h.pair, List.pairwise_singleton _ _, fun q hq r hr => by obtain rfl := List.mem_singleton.1 hr; exact s2 q hq⟩
theorem arange_in {P : Program} {gf : FuncId} {cap : List AV} {Y : AV → AH → (AH → Prop) → Prop} {K : AH → Prop} {Kp : AV → AH → Prop}
    (h : ∀ (L' : Lam) (l : Nat), (∀ x σ1 N, Y x σ1 N → @ayield L' P l [x] σ1 (onr (fun v σ' => v = .val (.bool true) ∧ N σ') (fun _ _ => False))) → @acall L' P gf (.yld l :: cap) σ (onr (fun _ σ' => K σ') Kp)) :
    arange P (.clo (.func gf) [] cap) Y σ K Kp := h
theorem toNat_pos {n : Int} (h : 1 ≤ n) : ((n.toNat : Nat) : Int) = n ∧ 1 ≤ n.toNat := by omega
theorem c_impl_segsOf {size : Int} {a : AV} {xs : List Int} (hS : Ns σ a xs) (h1 : 1 ≤ size) (h2 : size ≤ 64) (hl : xs.length ≤ 4000)
    (h : ∀ p σ' qs, AH.Sub σ σ' → PB (dif σ σ') p qs → OkP size (qs.map Prod.snd) → (qs.map Prod.snd).flatten = xs → R (.ret (.agg [iv size, p])) σ') : acall TP fn_impl_segsOf [iv size, a] σ R := by
  obtain ⟨n, rfl, hn⟩ : ∃ n : Nat, size = n ∧ 1 ≤ n := ⟨size.toNat, (toNat_pos h1).1.symm, (toNat_pos h1).2⟩
  refine s_impl_segsOf_ok ?_
  unfold s_impl_segsOf
  simp only [new_eq, bldI_0, og_some', onr_ret, gval_true, gval_false, pickV_true, pickV_false, apick_true, apick_false, gpick_true, gpick_false, ibin_leq, ibin_geq, ibin_lss, ibin_gtr, ibin_eql, ibin_neq, sbin_eql, sbin_neq, aun_not, Bool.not_true, Bool.not_false, decide_true, decide_false, if_true, if_false, Bool.false_eq_true, fldA_ptr, fldA_rop, anil_ptr, lenStr_str, amm_max, amm_min, Nat.zero_add, Nat.add_zero, List.length_cons, List.length_nil, Nat.reduceAdd]
  intro φ4 h4 φ5 h5
  simp only [AH.set_none] at h5
  obtain ⟨n54, h5⟩ := h5
  have hs4 : AH.Sub σ (σ.set φ4 ⟨0, 2, [[iv 0, nilS]]⟩) := sub_set (.refl σ) h4
  refine put_new (by rw [AH.set_ne' n54]; exact h5) rfl rfl (by simp [AV.one, Value.oneCell']) fun σ1 s1 f5 k1 => ?_
  have f4 : σ1 φ4 = some ⟨0, 2, [[iv 0, nilS]]⟩ := by rw [k1 φ4 (Ne.symm n54)]; exact AH.set_same ..
  have hs1 := hs4.trans s1
  have hone := hS.one
  refine c_slices_Chunk hone.1 (by omega) fun φa φb ha hb hab => ?_
  simp only [og_some', onr_ret, gval_true, gval_false, pickV_true, pickV_false, apick_true, apick_false, gpick_true, gpick_false, ibin_leq, ibin_geq, ibin_lss, ibin_gtr, ibin_eql, ibin_neq, sbin_eql, sbin_neq, aun_not, Bool.not_true, Bool.not_false, decide_true, decide_false, if_true, if_false, Bool.false_eq_true, fldA_ptr, fldA_rop, anil_ptr, lenStr_str, amm_max, amm_min, Nat.zero_add, Nat.add_zero, List.length_cons, List.length_nil, Nat.reduceAdd]
  have hsab : AH.Sub σ1 ((σ1.set φa ⟨0, 1, [[a]]⟩).set φb ⟨0, 1, [[iv n]]⟩) := sub_set (sub_set (.refl σ1) ha) hb
  have fa : ((σ1.set φa ⟨0, 1, [[a]]⟩).set φb ⟨0, 1, [[iv n]]⟩) φa = some ⟨0, 1, [[a]]⟩ := by rw [AH.set_ne' (Ne.symm hab)]; exact AH.set_same ..
  have fb : ((σ1.set φa ⟨0, 1, [[a]]⟩).set φb ⟨0, 1, [[iv n]]⟩) φb = some ⟨0, 1, [[iv n]]⟩ := AH.set_same ..
  generalize (σ1.set φa ⟨0, 1, [[a]]⟩).set φb ⟨0, 1, [[iv n]]⟩ = σ2 at hsab fa fb ⊢
  have f5' := hsab.at f5
  have na5 : φa ≠ φ5 := by rintro rfl; rw [f5] at ha; cases ha
  have nb5 : φb ≠ φ5 := by rintro rfl; rw [f5] at hb; cases hb
  refine arange_in fun L' l hY => ?_
  let I : Nat → AH → Prop := fun k σi => ∃ p qs, σi φ5 = some ⟨0, 2, [[iv n, p]]⟩ ∧ PB σi p qs ∧ Fresh σ2 p qs ∧ qs.map Prod.snd = pcs n xs k ∧ ∀ χ F, χ ≠ φ5 → σ2 χ = some F → σi χ = some F
  have keepS : ∀ σi, (∀ χ F, χ ≠ φ5 → σ2 χ = some F → σi χ = some F) → AH.Sub σ σi := fun σi hk χ F hF => by
    have hne : χ ≠ φ5 := by rintro rfl; rw [h5] at hF; cases hF
    exact hk χ F hne ((hs1.trans hsab).at hF)
  refine @c_slices_Chunk_1 L' _ _ _ a φa φb n xs I hn (by omega) (by omega) ?_ ?_ ?_ ?_
  · rintro k σi ⟨p, qs, i1, i2, i3, i4, i5⟩
    exact ⟨i5 φa _ na5 fa, i5 φb _ nb5 fb, hS.sub (keepS σi i5)⟩
  · exact ⟨nilS, [], f5', PB.nil, Fresh.nil, by simp [pcs], fun χ F _ hF => hF⟩
  · rintro k σi hlt ⟨p, qs, i1, i2, i3, i4, i5⟩ v hv
    refine hY v σi (I (k + 1)) ?_
    have hql : qs.length = k := by have := congrArg List.length i4; simpa using this
    have hkn : k ≤ k * n := Nat.le_mul_of_pos_right k (by omega)
    have e13 := lod_at (σ := σi) (φ := φ5) (st := 0) (i := 0) (off := 1) (c := p) i1 rfl rfl
    simp only [e13, og_some', onr_ret, gval_true, gval_false, pickV_true, pickV_false, apick_true, apick_false, gpick_true, gpick_false, ibin_leq, ibin_geq, ibin_lss, ibin_gtr, ibin_eql, ibin_neq, sbin_eql, sbin_neq, aun_not, Bool.not_true, Bool.not_false, decide_true, decide_false, if_true, if_false, Bool.false_eq_true, fldA_ptr, fldA_rop, anil_ptr, lenStr_str, amm_max, amm_min, Nat.zero_add, Nat.add_zero, List.length_cons, List.length_nil, Nat.reduceAdd]
    refine @c_slices_Clone L _ _ _ _ hv (by simp; omega) fun w σ3 w1 w2 => ?_
    have wone := w2.one
    have e13' := lod_at (σ := σ3) (φ := φ5) (st := 0) (i := 0) (off := 1) (c := p) (w1.at i1) rfl rfl
    have eb : bld [nilS] [(0, 1)] [(0, w)] = some (.agg [w]) := by simp [bld, afill, wone.1, spl]
    have er : bslR 1 [nilS] 1 [(0, .agg [w])] = some (.ro [[w]]) := by simp [bslR, afillS, acells, spl]
    simp only [e13', eb, er, true_and, og_some', onr_ret, gval_true, gval_false, pickV_true, pickV_false, apick_true, apick_false, gpick_true, gpick_false, ibin_leq, ibin_geq, ibin_lss, ibin_gtr, ibin_eql, ibin_neq, sbin_eql, sbin_neq, aun_not, Bool.not_true, Bool.not_false, decide_true, decide_false, if_true, if_false, Bool.false_eq_true, fldA_ptr, fldA_rop, anil_ptr, lenStr_str, amm_max, amm_min, Nat.zero_add, Nat.add_zero, List.length_cons, List.length_nil, Nat.reduceAdd]
    refine PB.push (i2.sub w1) (x := .ro [[w]]) (xs := (xs.drop (k * n)).take n) rfl (w2.sub (dif_sub _ _)) ?_ ?_ (by omega) ?_
    · intro ψ hψ hψ'
      obtain ⟨F, hF⟩ := w2.fam_some hψ
      obtain ⟨G, hG⟩ := i2.out.fam_some hψ'
      rw [(dif_some hF).1] at hG; cases hG
    · intro q hq ψ hψ hψ'
      obtain ⟨F, hF⟩ := w2.fam_some hψ'
      obtain ⟨G, hG⟩ := (i2.ins q hq).fam_some hψ
      rw [(dif_some hF).1] at hG; cases hG
    intro p' σ4 b1 b2 b3
    have pone := b1.out.one
    have hp5 : ¬ Buf.fam p φ5 := by
      intro hf
      rcases i2.out with ⟨rfl | rfl, _⟩ | ⟨ψ, st, rfl, hF⟩
      · exact nofam_nil _ hf
      · obtain ⟨_, _, _, e⟩ := hf; cases e
      · obtain ⟨_, _, _, e⟩ := hf; cases e
        rw [i1] at hF; cases hF
    have g5 : σ4 φ5 = some ⟨0, 2, [[iv n, p]]⟩ := by rw [b2 φ5 hp5 (by rw [w1.at i1]; simp)]; exact w1.at i1
    refine sto_fld (sz := 2) (off := 1) (i := 0) (cs := [iv n, p]) g5 rfl (by omega) pone.1 pone.2 ?_
    have no5 : ∀ {ψ} {b : AV} {es}, Buf σ4 1 b es → Buf.fam b ψ → ψ ≠ φ5 := by
      intro ψ b es hb hf he
      rcases hb with ⟨rfl | rfl, _⟩ | ⟨χ, st, rfl, hF⟩
      · exact nofam_nil _ hf
      · obtain ⟨_, _, _, e⟩ := hf; cases e
      · obtain ⟨_, _, _, e⟩ := hf; cases e
        rw [he, g5] at hF; cases hF
    refine ⟨p', qs ++ [(w, (xs.drop (k * n)).take n)], by rw [AH.set_same]; rfl, ?_, ?_, ?_, ?_⟩
    · exact ⟨b1.out.keep fun ψ hψ => AH.set_ne' (no5 b1.out hψ), fun q hq => (b1.ins q hq).keep fun ψ hψ => AH.set_ne' (no5 (b1.ins q hq) hψ), b1.sep, b1.pair⟩
    · refine ⟨fun ψ hψ => ?_, fun q hq ψ hψ => ?_⟩
      · rcases b3 ψ hψ with hf | hf
        · exact i3.out ψ hf
        · by_cases c : ψ = φ5
          · exact absurd c (no5 b1.out hψ)
          · cases e : σ2 ψ with
            | none => rfl
            | some F => rw [w1.at (i5 ψ F c e)] at hf; cases hf
      · rcases List.mem_append.1 hq with hq | hq
        · exact i3.ins q hq ψ hψ
        · obtain rfl := List.mem_singleton.1 hq
          obtain ⟨F, hF⟩ := w2.fam_some hψ
          have hi := (dif_some hF).1
          by_cases c : ψ = φ5
          · rw [c, i1] at hi; cases hi
          · cases e : σ2 ψ with
            | none => rfl
            | some F => rw [i5 ψ F c e] at hi; cases hi
    · rw [List.map_append, i4, pcs_succ]; rfl
    · intro χ F hne hF
      rw [AH.set_ne' hne]
      have hχ := i5 χ F hne hF
      rw [b2 χ ?_ (by rw [w1.at hχ]; simp)]; · exact w1.at hχ
      intro hf; rw [i3.out χ hf] at hF; cases hF
  · rintro k σi hj hge ⟨p, qs, i1, i2, i3, i4, i5⟩
    simp only [og_some', onr_ret, gval_true, gval_false, pickV_true, pickV_false, apick_true, apick_false, gpick_true, gpick_false, ibin_leq, ibin_geq, ibin_lss, ibin_gtr, ibin_eql, ibin_neq, sbin_eql, sbin_neq, aun_not, Bool.not_true, Bool.not_false, decide_true, decide_false, if_true, if_false, Bool.false_eq_true, fldA_ptr, fldA_rop, anil_ptr, lenStr_str, amm_max, amm_min, Nat.zero_add, Nat.add_zero, List.length_cons, List.length_nil, Nat.reduceAdd]
    have pone := i2.out.one
    have e5 := lodA_at (σ := σi) (φ := φ5) (st := 0) (i := 0) (n := 2) (cs := [iv n, p]) i1 rfl rfl rfl
    simp only [e5, og_some', onr_ret, gval_true, gval_false, pickV_true, pickV_false, apick_true, apick_false, gpick_true, gpick_false, ibin_leq, ibin_geq, ibin_lss, ibin_gtr, ibin_eql, ibin_neq, sbin_eql, sbin_neq, aun_not, Bool.not_true, Bool.not_false, decide_true, decide_false, if_true, if_false, Bool.false_eq_true, fldA_ptr, fldA_rop, anil_ptr, lenStr_str, amm_max, amm_min, Nat.zero_add, Nat.add_zero, List.length_cons, List.length_nil, Nat.reduceAdd]
    have n45 : φ4 ≠ φ5 := Ne.symm n54
    have f4i := i5 φ4 _ n45 (hsab.at f4)
    refine sto_own (es := [[iv 0, nilS]]) (cs := [iv n, p]) f4i (by simp) (by simp) rfl rfl (one2 pone.2) ?_
    simp [lodA, acellsAt]
    have hSub : AH.Sub σ (σi.set φ4 ⟨0, 2, [[iv n, p]]⟩) := sub_set (keepS σi i5) h4
    have hok := pcs_ok (n := n) (xs := xs) (k := k) (by omega) hj
    have hfl := pcs_flat n xs k
    rw [List.take_of_length_le (by omega)] at hfl
    refine @ret_here L _ _ _ (h p _ qs hSub ?_ (by rw [i4]; exact hok) (by rw [i4]; exact hfl))
    refine ⟨?_, fun q hq => ?_, i2.sep, i2.pair⟩
    · refine Buf.dif (i2.out.keep fun ψ hψ => AH.set_ne' ?_) fun ψ hψ => (hs1.trans hsab).none (i3.out ψ hψ)
      rintro rfl; have := i3.out _ hψ; rw [hsab.at f4] at this; cases this
    · refine Buf.dif ((i2.ins q hq).keep fun ψ hψ => AH.set_ne' ?_) fun ψ hψ => (hs1.trans hsab).none (i3.ins q hq ψ hψ)
      rintro rfl; have := i3.ins q hq _ hψ; rw [hsab.at f4] at this; cases this
end Go.Proofs.Ytjfdgijgkbojnaa.E
