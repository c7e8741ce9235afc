/- Stacks of pieces, built item by item. -/
import Derived.Test.YtjfdgijgkbojnaaH10
set_option linter.unusedSectionVars false
set_option linter.unusedSimpArgs false
set_option linter.unusedVariables false
namespace Go.Proofs.Ytjfdgijgkbojnaa.E
open Go Go.RowKit
variable [L : Lam]
variable {σ : AH} {R : AEnd → AH → Prop}
/-- The families of a list of lists. -/
def Foot (a : AV) (qs : List (AV × List Int)) (ψ : Nat) : Prop := Buf.fam a ψ ∨ ∃ q, q ∈ qs ∧ Buf.fam q.1 ψ
theorem PB.foot {a : AV} {qs : List (AV × List Int)} (h : PB σ a qs) {ψ : Nat} (hf : Foot a qs ψ) : ∃ F, σ ψ = some F ∧ F.sz = 1 := by
  have key : ∀ {b es}, Buf σ 1 b es → Buf.fam b ψ → ∃ F, σ ψ = some F ∧ F.sz = 1 := by
    rintro b es (⟨rfl | rfl, _⟩ | ⟨χ, st, rfl, hF⟩) ⟨_, _, _, e⟩
    · cases e
    · cases e
    · cases e; exact ⟨_, hF, rfl⟩
  rcases hf with hf | ⟨q, hq, hf⟩
  · exact key h.out hf
  · exact key (h.ins q hq) hf
theorem PB.keep {σ' : AH} {a : AV} {qs : List (AV × List Int)} (h : PB σ a qs) (hk : ∀ ψ, Foot a qs ψ → σ' ψ = σ ψ) : PB σ' a qs :=
  ⟨h.out.keep fun ψ hψ => hk ψ (.inl hψ), fun q hq => (h.ins q hq).keep fun ψ hψ => hk ψ (.inr ⟨q, hq, hψ⟩), h.sep, h.pair⟩
theorem Buf.own_of {sz : Nat} {a : AV} {es : List (List AV)} (h : Buf σ sz a es) (hne : es ≠ []) : ∃ φ st, a = .own φ st 0 es.length ∧ σ φ = some ⟨st, sz, es⟩ := by
  rcases h with ⟨_, rfl⟩ | h
  · exact absurd rfl hne
  · exact h
/-- More items put into the last list, and the last list put back. -/
theorem PB.grow {a q x : AV} {pre : List (AV × List Int)} {ys zs : List Int} {n : Nat} {k : AV → AH → Prop} (h : PB σ a (pre ++ [(q, ys)])) (hx : aelems σ x = some (zs.map fun x => [iv x])) (hn : ys.length + zs.length ≤ 4294967296) (hpre : pre.length = n)
    (hk : ∀ q' σ', q'.one = true → acells q' = some [q'] → (∀ ψ, ¬ Buf.fam q ψ → σ ψ ≠ none → σ' ψ = σ ψ) → PB σ' a (pre ++ [(q, [])]) ∨ True →
      (∃ χ st es, idx 1 a (iv n) σ' = some (.ptr χ st n 0) ∧ σ' χ = some ⟨st, 1, es⟩ ∧ es[n]? = some [q] ∧ Buf.fam a χ ∧
        PB (σ'.set χ ⟨st, 1, es.set n [q']⟩) a (pre ++ [(q', ys ++ zs)])) → (∀ ψ, Buf.fam q' ψ → Buf.fam q ψ ∨ σ ψ = none) → k q' σ') : app 1 q x σ k := by
  have hin := h.ins (q, ys) (by simp)
  refine Buf.app hin hx (iv_size zs) (iv_one zs) (by simpa using hn) ?_
  intro q' σ' b1 b2 b3 b4
  have hsep := h.sep (q, ys) (by simp)
  obtain ⟨χ, st, ea, hχ⟩ := h.out.own_of (by simp)
  have hχ' : σ' χ = some ⟨st, 1, (pre ++ [(q, ys)]).map fun q => [q.1]⟩ := by
    rw [b2 χ (fun hf => hsep χ hf (by rw [ea]; exact ⟨_, _, _, rfl⟩)) (by rw [hχ]; simp)]; exact hχ
  have hpr := List.pairwise_append.1 h.pair
  refine hk q' σ' b1.one.2 b1.one.1 b2 (.inr trivial) ⟨χ, st, _, ?_, hχ', by simp [← hpre], by rw [ea]; exact ⟨_, _, _, rfl⟩, ?_⟩ b3
  · rw [ea]
    have := idx_own (off := 0) (n := ((pre ++ [(q, ys)]).map fun q => [q.1]).length) hχ' (i := n) (by simp; omega)
    rw [Nat.zero_add] at this; exact this
  · have hset : ((pre ++ [(q, ys)]).map fun q : AV × List Int => [q.1]).set n [q'] = (pre ++ [(q', ys ++ zs)]).map fun q => [q.1] := by
      rw [List.map_append, List.map_append]; exact set_mid (by simpa using hpre)
    rw [hset]
    have nofam : ∀ {b : AV} {es : List (List AV)}, Buf σ' 1 b es → (∀ ψ, Buf.fam b ψ → ψ ≠ χ) → Buf (σ'.set χ ⟨st, 1, (pre ++ [(q', ys ++ zs)]).map fun q => [q.1]⟩) 1 b es := fun hb hne => hb.keep fun ψ hψ => AH.set_ne' (hne ψ hψ)
    have fa : Buf.fam a χ := by rw [ea]; exact ⟨_, _, _, rfl⟩
    have onlyχ : ∀ ψ, Buf.fam a ψ → ψ = χ := by rw [ea]; rintro ψ ⟨_, _, _, e⟩; cases e; rfl
    have q'χ : ∀ ψ, Buf.fam q' ψ → ψ ≠ χ := by
      rintro ψ hψ rfl
      rcases b3 _ hψ with hf | hf
      · exact hsep _ hf fa
      · rw [hχ] at hf; cases hf
    have preχ : ∀ r, r ∈ pre → ∀ ψ, Buf.fam r.1 ψ → ψ ≠ χ := by
      rintro r hr ψ hψ rfl
      exact h.sep r (List.mem_append_left _ hr) _ hψ fa
    have prek : ∀ r, r ∈ pre → Buf σ' 1 r.1 (r.2.map fun x => [iv x]) := fun r hr => (h.ins r (List.mem_append_left _ hr)).keep fun ψ hψ =>
      b2 ψ (hpr.2.2 r hr _ (List.mem_singleton_self _) ψ hψ) (by obtain ⟨F, hF⟩ := (h.ins r (List.mem_append_left _ hr)).fam_some hψ; rw [hF]; simp)
    refine ⟨.inr ⟨χ, st, ?_, AH.set_same ..⟩, ?_, ?_, ?_⟩
    · rw [ea]; simp
    · intro r hr
      rcases List.mem_append.1 hr with hr | hr
      · exact nofam (prek r hr) (preχ r hr)
      · obtain rfl := List.mem_singleton.1 hr
        refine nofam ?_ q'χ
        simpa using b1
    · intro r hr ψ hψ hψ'
      have := onlyχ ψ hψ'
      rcases List.mem_append.1 hr with hr | hr
      · exact preχ r hr ψ hψ this
      · obtain rfl := List.mem_singleton.1 hr; exact q'χ ψ hψ this
    · rw [List.pairwise_append]
      refine ⟨hpr.1, List.pairwise_singleton _ _, fun r hr s hs => ?_⟩
      obtain rfl := List.mem_singleton.1 hs
      intro ψ hψ hψ'
      rcases b3 ψ hψ' with hf | hf
      · exact hpr.2.2 r hr _ (List.mem_singleton_self _) ψ hψ hf
      · obtain ⟨F, hF⟩ := (h.ins r (List.mem_append_left _ hr)).fam_some hψ; rw [hF] at hf; cases hf
theorem okp_more {size : Int} {ps : List (List Int)} {x : Int} (h1 : 1 ≤ size) (h : OkP size ps) (hl : ∀ hne : ps ≠ [], ((ps.getLast hne).length : Int) = size) : OkP size (ps ++ [[x]]) := by
  intro i hi
  by_cases c : i < ps.length
  · have e : (ps ++ [[x]])[i] = ps[i] := List.getElem_append_left c
    obtain ⟨a1, a2, a3⟩ := h i c
    rw [e]
    refine ⟨a1, a2, fun _ => ?_⟩
    by_cases c2 : i + 1 < ps.length
    · exact a3 c2
    · have hne : ps ≠ [] := by rintro rfl; cases c
      have := hl hne
      rw [List.getLast_eq_getElem] at this
      have ei : i = ps.length - 1 := by omega
      subst ei; exact this
  · have ei : i = ps.length := by simp at hi; omega
    subst ei
    simp
    omega
theorem okp_grow {size : Int} {ps : List (List Int)} {ys : List Int} {x : Int} (h : OkP size (ps ++ [ys])) (hl : (ys.length : Int) ≠ size) : OkP size (ps ++ [ys ++ [x]]) := by
  intro i hi
  by_cases c : i < ps.length
  · have e : (ps ++ [ys ++ [x]])[i] = ps[i] := List.getElem_append_left c
    have e2 : (ps ++ [ys])[i]'(by simp; omega) = ps[i] := List.getElem_append_left c
    obtain ⟨a1, a2, a3⟩ := h i (by simp; omega)
    rw [e2] at a1 a2 a3; rw [e]
    exact ⟨a1, a2, fun h => a3 (by simpa using h)⟩
  · have ei : i = ps.length := by simp at hi; omega
    subst ei
    obtain ⟨a1, a2, _⟩ := h ps.length (by simp)
    simp at a1 a2 ⊢
    omega
theorem tot_append (ps qs : List (List Int)) : tot (ps ++ qs) = tot ps + tot qs := by rw [← tot_flatten, List.flatten_append, List.length_append, tot_flatten, tot_flatten]
theorem last_at {φ : Nat} {size x : Int} {p q : AV} {pre : List (AV × List Int)} {ys : List Int} (n : Nat) (hF : σ φ = some ⟨0, 2, [[iv size, p]]⟩) (hB : PB σ p (pre ++ [(q, ys)])) (hn : pre.length + 1 = n) (hb : n ≤ 100002) :
    lod (.ptr φ 0 0 1) σ = some p ∧ ibin .sub (iv (n : Nat)) (.val (.int .i64 1)) = some (iv (pre.length : Nat)) ∧ (∃ χ st, idx 1 p (iv (pre.length : Nat)) σ = some (.ptr χ st pre.length 0) ∧ lod (.ptr χ st pre.length 0) σ = some q) ∧
    bslR 1 [(.val (.int .i64 0))] 1 [(0, iv x)] = some (.ro [[iv x]]) := by
  refine ⟨lod_at (σ := σ) (φ := φ) (st := 0) (i := 0) (off := 1) (c := p) hF rfl rfl, by rw [ibin_sub (by omega) (by omega)]; congr 3; omega, ?_, by simp [bslR, afillS, acells, spl, Value.cells]⟩
  obtain ⟨χ, st, ea, hχ⟩ := hB.out.own_of (by simp)
  refine ⟨χ, st, ?_, lod_at hχ rfl (by simp)⟩
  rw [ea]
  have := idx_own (off := 0) (n := ((pre ++ [(q, ys)]).map fun q => [q.1]).length) hχ (i := pre.length) (by simp)
  rw [Nat.zero_add] at this; exact this
set_option maxRecDepth 100000 in
theorem c_spec_l12Push {φ : Nat} {size x : Int} {p : AV} {qs : List (AV × List Int)} (hF : σ φ = some ⟨0, 2, [[iv size, p]]⟩) (hB : PB σ p qs) (hO : OkP size (qs.map Prod.snd)) (h1 : 1 ≤ size) (hb : qs.length + tot (qs.map Prod.snd) ≤ 100000)
    (h : ∀ σ' p' qs', σ' φ = some ⟨0, 2, [[iv size, p']]⟩ → PB σ' p' qs' → OkP size (qs'.map Prod.snd) → (qs'.map Prod.snd).flatten = (qs.map Prod.snd).flatten ++ [x] → qs'.length + tot (qs'.map Prod.snd) ≤ qs.length + tot (qs.map Prod.snd) + 2 →
      (∀ ψ F, ψ ≠ φ → ¬ Foot p qs ψ → σ ψ = some F → σ' ψ = some F) → (∀ ψ, Foot p' qs' ψ → Foot p qs ψ ∨ σ ψ = none) → R (.ret (.tup [])) σ') : acall TP fn_spec_l12Push [.ptr φ 0 0 0, iv x] σ R := by
  -- the last list grows
  have last : ∀ {σ p q pre ys} (n : Nat), σ φ = some ⟨0, 2, [[iv size, p]]⟩ → PB σ p (pre ++ [(q, ys)]) → pre.length + 1 = n → ys.length + n ≤ 100002 → ∀ {R : AEnd → AH → Prop},
      (∀ σ' q', σ' φ = some ⟨0, 2, [[iv size, p]]⟩ → PB σ' p (pre ++ [(q', ys ++ [x])]) → (∀ ψ F, ¬ Foot p (pre ++ [(q, ys)]) ψ → σ ψ = some F → σ' ψ = some F) → (∀ ψ, Buf.fam q' ψ → Buf.fam q ψ ∨ σ ψ = none) → R (.ret (.tup [])) σ') →
      (app 1 q (.ro [[iv x]]) σ fun v58 σ =>
      (lod (.ptr φ 0 0 1) σ = some p ∧ True) ∧
      og (idx 1 p (iv (pre.length : Nat)) σ) fun v59 =>
      og (fldA 0 v59) fun v60 =>
      sto 1 v60 v58 σ fun σ =>
      (True) ∧
      aret (.tup []) σ R) := by
    intro σ p q pre ys n hF hB hn hb R h
    refine PB.grow hB (zs := [x]) rfl (by simp; omega) rfl ?_
    rintro q' σ' o1 o2 b2 - ⟨χ', st', es', i1, i2, i3, i4, i5⟩ b3
    have hne : χ' ≠ φ := by
      rintro rfl
      obtain ⟨F, hF2, hsz⟩ := hB.foot (.inl i4)
      rw [hF] at hF2; cases hF2; cases hsz
    have hφ' : σ' φ = some ⟨0, 2, [[iv size, p]]⟩ := by
      rw [b2 φ ?_ (by rw [hF]; simp)]; · exact hF
      intro hf
      obtain ⟨F, hF2, hsz⟩ := hB.foot (.inr ⟨(q, ys), by simp, hf⟩)
      rw [hF] at hF2; cases hF2; cases hsz
    have e1' := lod_at (σ := σ') (φ := φ) (st := 0) (i := 0) (off := 1) (c := p) hφ' rfl rfl
    simp only [e1', i1, true_and, og_some', onr_ret, gval_true, gval_false, pickV_true, pickV_false, apick_true, apick_false, gpick_true, gpick_false, ibin_leq, ibin_geq, ibin_lss, ibin_gtr, ibin_eql, ibin_neq, sbin_eql, sbin_neq, aun_not, Bool.not_true, Bool.not_false, decide_true, decide_false, if_true, if_false, Bool.false_eq_true, fldA_ptr, fldA_rop, anil_ptr, lenStr_str, amm_max, amm_min, Nat.zero_add, Nat.add_zero, List.length_cons, List.length_nil, Nat.reduceAdd]
    refine sto_fld (sz := 1) (off := 0) (i := pre.length) (cs := [q]) i2 i3 (by omega) o2 o1 ?_
    refine ret_here (h _ q' ?_ i5 ?_ b3)
    · rw [AH.set_ne' (Ne.symm hne)]; exact hφ'
    · intro ψ F hnf hψ
      rw [AH.set_ne' (fun e => hnf (.inl (by rw [e]; exact i4))), b2 ψ (fun hf => hnf (.inr ⟨(q, ys), by simp, hf⟩)) (by rw [hψ]; simp)]; exact hψ
  refine s_spec_l12Push_ok ?_
  unfold s_spec_l12Push
  have e1 := lod_at (st := 0) (i := 0) (off := 1) (c := p) hF rfl rfl
  have e0 := lod_at (st := 0) (i := 0) (off := 0) (c := iv size) hF rfl rfl
  have hlen := hB.ps.len
  rw [List.length_map] at hlen
  -- an empty list is put behind first
  have grow : (∀ hne : qs.map Prod.snd ≠ [], (((qs.map Prod.snd).getLast hne).length : Int) = size) → ∀ k1 : AV → AH → Prop,
      (∀ σ2 p2, σ2 φ = some ⟨0, 2, [[iv size, p2]]⟩ → PB σ2 p2 (qs ++ [(nilS, [])]) → (∀ ψ F, ψ ≠ φ → ¬ Foot p qs ψ → σ ψ = some F → σ2 ψ = some F) → (∀ ψ, Foot p2 (qs ++ [(nilS, [])]) ψ → Foot p qs ψ ∨ σ ψ = none) → k1 (iv ((qs.length + 1 : Nat) : Int)) σ2) →
      (og (bld [nilS] [(0, 1)] []) fun v34 => bsl 1 [nilS] 1 [(0, v34)] σ fun v35 σ => app 1 p v35 σ fun v36 σ =>
        sto 1 (.ptr φ 0 0 1) v36 σ fun σ => og (ibin .add (.val (.int .i64 (qs.length : Nat))) (.val (.int .i64 1))) fun v40 => k1 v40 σ) := by
    intro hl k1 hk1
    have eb : bld [nilS] [(0, 1)] [] = some (.agg [nilS]) := rfl
    have ea : ibin .add (.val (.int .i64 (qs.length : Nat))) (.val (.int .i64 1)) = some (iv ((qs.length + 1 : Nat) : Int)) := ibin_up (i := qs.length) (n := qs.length + 1) (by omega) (by omega)
    simp only [eb, ea, og_some', onr_ret, gval_true, gval_false, pickV_true, pickV_false, apick_true, apick_false, gpick_true, gpick_false, ibin_leq, ibin_geq, ibin_lss, ibin_gtr, ibin_eql, ibin_neq, sbin_eql, sbin_neq, aun_not, Bool.not_true, Bool.not_false, decide_true, decide_false, if_true, if_false, Bool.false_eq_true, fldA_ptr, fldA_rop, anil_ptr, lenStr_str, amm_max, amm_min, Nat.zero_add, Nat.add_zero, List.length_cons, List.length_nil, Nat.reduceAdd]
    unfold bsl
    have ef : afillS 1 (List.replicate 1 [nilS]) [(0, .agg [nilS])] = some [[nilS]] := by simp [afillS, acells, spl]
    simp only [ef]
    refine ⟨by decide, fun ψ hψ => ?_⟩
    have hs : AH.Sub σ (σ.set ψ ⟨0, 1, [[nilS]]⟩) := sub_set (.refl σ) hψ
    refine PB.push (hB.sub hs) (w := nilS) (xs := []) (by simp [aelems]) (.inl ⟨.inl rfl, rfl⟩) (fun χ h => absurd h (nofam_nil χ)) (fun q _ χ _ h => absurd h (nofam_nil χ)) (by omega) ?_
    intro p2 σ2 b1 b2 b3
    have nφ : ∀ {a qs}, PB σ a qs → ¬ Foot a qs φ := fun hB hf => by obtain ⟨F, hF2, hsz⟩ := hB.foot hf; rw [hF] at hF2; cases hF2; cases hsz
    have hφ2 : σ2 φ = some ⟨0, 2, [[iv size, p]]⟩ := by rw [b2 φ (fun hf => nφ hB (.inl hf)) (by rw [hs.at hF]; simp)]; exact hs.at hF
    have n2 : ¬ Foot p2 (qs ++ [(nilS, [])]) φ := fun hf => by obtain ⟨F, hF2, hsz⟩ := b1.foot hf; rw [hφ2] at hF2; cases hF2; cases hsz
    refine sto_fld (sz := 2) (off := 1) (i := 0) (cs := [iv size, p]) hφ2 rfl (by omega) b1.out.one.1 b1.out.one.2 ?_
    refine hk1 _ p2 (by rw [AH.set_same]; rfl) (b1.keep fun χ hχ => AH.set_ne' (by rintro rfl; exact n2 hχ)) ?_ ?_
    · intro χ F hne hnf hχ
      rw [AH.set_ne' hne, b2 χ (fun hf => hnf (.inl hf)) (by rw [hs.at hχ]; simp)]; exact hs.at hχ
    · rintro χ (hf | ⟨q, hq, hf⟩)
      · rcases b3 χ hf with hf | hf
        · exact .inl (.inl hf)
        · exact .inr (hs.none hf)
      · rcases List.mem_append.1 hq with hq | hq
        · exact .inl (.inr ⟨q, hq, hf⟩)
        · obtain rfl := List.mem_singleton.1 hq; exact absurd hf (nofam_nil χ)
  have newlast : (∀ hne : qs.map Prod.snd ≠ [], (((qs.map Prod.snd).getLast hne).length : Int) = size) → ∀ σ2 p2, σ2 φ = some ⟨0, 2, [[iv size, p2]]⟩ → PB σ2 p2 (qs ++ [(nilS, [])]) → (∀ ψ F, ψ ≠ φ → ¬ Foot p qs ψ → σ ψ = some F → σ2 ψ = some F) → (∀ ψ, Foot p2 (qs ++ [(nilS, [])]) ψ → Foot p qs ψ ∨ σ ψ = none) →
      ∀ σ' q', σ' φ = some ⟨0, 2, [[iv size, p2]]⟩ → PB σ' p2 (qs ++ [(q', [] ++ [x])]) → (∀ ψ F, ¬ Foot p2 (qs ++ [(nilS, [])]) ψ → σ2 ψ = some F → σ' ψ = some F) → (∀ ψ, Buf.fam q' ψ → Buf.fam nilS ψ ∨ σ2 ψ = none) → R (.ret (.tup [])) σ' := by
    intro hl σ2 p2 g1 g2 g3 g4 σ' q' k1 k2 k3 k4
    refine h σ' p2 _ k1 k2 ?_ ?_ ?_ ?_ ?_
    · rw [List.map_append]; exact okp_more h1 hO hl
    · simp
    · rw [List.map_append, tot_append]; simp [tot]; omega
    · intro ψ F hne hnf hψ
      refine k3 ψ F (fun hf => ?_) (g3 ψ F hne hnf hψ)
      rcases g4 ψ hf with hf | hf
      · exact hnf hf
      · rw [hψ] at hf; cases hf
    · have old : ∀ ψ, Foot p2 qs ψ → Foot p qs ψ ∨ σ ψ = none := by
        rintro ψ (hf | ⟨q, hq, hf⟩)
        · exact g4 ψ (.inl hf)
        · exact g4 ψ (.inr ⟨q, List.mem_append_left _ hq, hf⟩)
      rintro ψ (hf | ⟨q, hq, hf⟩)
      · exact old ψ (.inl hf)
      · rcases List.mem_append.1 hq with hq | hq
        · exact old ψ (.inr ⟨q, hq, hf⟩)
        · obtain rfl := List.mem_singleton.1 hq
          rcases k4 ψ hf with hf | hf
          · exact absurd hf (nofam_nil ψ)
          · by_cases c : Foot p qs ψ
            · exact .inl c
            · by_cases e : ψ = φ
              · rw [e, g1] at hf; cases hf
              · cases e2 : σ ψ with
                | none => exact .inr rfl
                | some F => rw [g3 ψ F e c e2] at hf; cases hf
  simp only [e1, hlen, og_some', onr_ret, gval_true, gval_false, pickV_true, pickV_false, apick_true, apick_false, gpick_true, gpick_false, ibin_leq, ibin_geq, ibin_lss, ibin_gtr, ibin_eql, ibin_neq, sbin_eql, sbin_neq, aun_not, Bool.not_true, Bool.not_false, decide_true, decide_false, if_true, if_false, Bool.false_eq_true, fldA_ptr, fldA_rop, anil_ptr, lenStr_str, amm_max, amm_min, Nat.zero_add, Nat.add_zero, List.length_cons, List.length_nil, Nat.reduceAdd]
  by_cases c0 : qs = []
  · have hl : ∀ hne : (qs.map Prod.snd) ≠ [], (((qs.map Prod.snd).getLast hne).length : Int) = size := fun hne => absurd (by rw [c0]; rfl) hne
    have hd : decide (((qs.length : Nat) : Int) = 0) = true := by rw [c0]; rfl
    simp only [jn, hd, og_some', onr_ret, gval_true, gval_false, pickV_true, pickV_false, apick_true, apick_false, gpick_true, gpick_false, ibin_leq, ibin_geq, ibin_lss, ibin_gtr, ibin_eql, ibin_neq, sbin_eql, sbin_neq, aun_not, Bool.not_true, Bool.not_false, decide_true, decide_false, if_true, if_false, Bool.false_eq_true, fldA_ptr, fldA_rop, anil_ptr, lenStr_str, amm_max, amm_min, Nat.zero_add, Nat.add_zero, List.length_cons, List.length_nil, Nat.reduceAdd]
    refine grow hl _ fun σ2 p2 g1 g2 g3 g4 => ?_
    obtain ⟨t1, t2, ⟨χ, st, t3, t4⟩, t5⟩ := last_at (x := x) (qs.length + 1) g1 g2 rfl (by omega)
    simp only [t1, t2, t3, t4, t5, og_some', onr_ret, gval_true, gval_false, pickV_true, pickV_false, apick_true, apick_false, gpick_true, gpick_false, ibin_leq, ibin_geq, ibin_lss, ibin_gtr, ibin_eql, ibin_neq, sbin_eql, sbin_neq, aun_not, Bool.not_true, Bool.not_false, decide_true, decide_false, if_true, if_false, Bool.false_eq_true, fldA_ptr, fldA_rop, anil_ptr, lenStr_str, amm_max, amm_min, Nat.zero_add, Nat.add_zero, List.length_cons, List.length_nil, Nat.reduceAdd]
    exact last _ g1 g2 rfl (by simp; omega) (newlast hl σ2 p2 g1 g2 g3 g4)
  · obtain ⟨pre, q, ys, rfl⟩ : ∃ pre q ys, qs = pre ++ [(q, ys)] := ⟨qs.dropLast, (qs.getLast c0).1, (qs.getLast c0).2, (List.dropLast_concat_getLast c0).symm⟩
    have hpos : ¬ (((pre ++ [(q, ys)]).length : Nat) : Int) = 0 := by simp; omega
    obtain ⟨t1, t2, ⟨χ, st, t3, t4⟩, t5⟩ := last_at (x := x) (pre ++ [(q, ys)]).length hF hB (by simp) (by omega)
    have hql : lenS q = some (.val (.int .i64 ys.length)) := by have := (Buf.cs (hB.ins (q, ys) (by simp))).len; simpa using this
    simp only [jn, hpos, t1, t2, t3, t4, t5, hql, e0, og_some', onr_ret, gval_true, gval_false, pickV_true, pickV_false, apick_true, apick_false, gpick_true, gpick_false, ibin_leq, ibin_geq, ibin_lss, ibin_gtr, ibin_eql, ibin_neq, sbin_eql, sbin_neq, aun_not, Bool.not_true, Bool.not_false, decide_true, decide_false, if_true, if_false, Bool.false_eq_true, fldA_ptr, fldA_rop, anil_ptr, lenStr_str, amm_max, amm_min, Nat.zero_add, Nat.add_zero, List.length_cons, List.length_nil, Nat.reduceAdd]
    have htot : tot ((pre ++ [(q, ys)]).map Prod.snd) = tot (pre.map Prod.snd) + ys.length := by rw [List.map_append, tot_append]; simp [tot]
    rw [htot] at hb
    by_cases c : (ys.length : Int) = size
    · have hl : ∀ hne : (pre ++ [(q, ys)]).map Prod.snd ≠ [], ((((pre ++ [(q, ys)]).map Prod.snd).getLast hne).length : Int) = size := fun hne => by simpa using c
      simp only [c, og_some', onr_ret, gval_true, gval_false, pickV_true, pickV_false, apick_true, apick_false, gpick_true, gpick_false, ibin_leq, ibin_geq, ibin_lss, ibin_gtr, ibin_eql, ibin_neq, sbin_eql, sbin_neq, aun_not, Bool.not_true, Bool.not_false, decide_true, decide_false, if_true, if_false, Bool.false_eq_true, fldA_ptr, fldA_rop, anil_ptr, lenStr_str, amm_max, amm_min, Nat.zero_add, Nat.add_zero, List.length_cons, List.length_nil, Nat.reduceAdd]
      refine grow hl _ fun σ2 p2 g1 g2 g3 g4 => ?_
      obtain ⟨u1, u2, ⟨χ, st, u3, u4⟩, u5⟩ := last_at (x := x) ((pre ++ [(q, ys)]).length + 1) g1 g2 rfl (by omega)
      simp only [u1, u2, u3, u4, u5, og_some', onr_ret, gval_true, gval_false, pickV_true, pickV_false, apick_true, apick_false, gpick_true, gpick_false, ibin_leq, ibin_geq, ibin_lss, ibin_gtr, ibin_eql, ibin_neq, sbin_eql, sbin_neq, aun_not, Bool.not_true, Bool.not_false, decide_true, decide_false, if_true, if_false, Bool.false_eq_true, fldA_ptr, fldA_rop, anil_ptr, lenStr_str, amm_max, amm_min, Nat.zero_add, Nat.add_zero, List.length_cons, List.length_nil, Nat.reduceAdd]
      exact last _ g1 g2 rfl (by simp only [List.length_nil]; omega) (newlast hl σ2 p2 g1 g2 g3 g4)
    · simp only [c, og_some', onr_ret, gval_true, gval_false, pickV_true, pickV_false, apick_true, apick_false, gpick_true, gpick_false, ibin_leq, ibin_geq, ibin_lss, ibin_gtr, ibin_eql, ibin_neq, sbin_eql, sbin_neq, aun_not, Bool.not_true, Bool.not_false, decide_true, decide_false, if_true, if_false, Bool.false_eq_true, fldA_ptr, fldA_rop, anil_ptr, lenStr_str, amm_max, amm_min, Nat.zero_add, Nat.add_zero, List.length_cons, List.length_nil, Nat.reduceAdd]
      refine last (pre.length + 1) hF hB rfl (by simp at hb; omega) ?_
      intro σ' q' k1 k2 k3 k4
      refine h σ' p _ k1 k2 ?_ ?_ ?_ ?_ ?_
      · rw [List.map_append]; rw [List.map_append] at hO; exact okp_grow hO c
      · simp
      · rw [List.map_append, tot_append, htot]; simp [tot]; omega
      · exact fun ψ F _ hnf hψ => k3 ψ F hnf hψ
      · rintro ψ (hf | ⟨r, hr, hf⟩)
        · exact .inl (.inl hf)
        · rcases List.mem_append.1 hr with hr | hr
          · exact .inl (.inr ⟨r, List.mem_append_left _ hr, hf⟩)
          · obtain rfl := List.mem_singleton.1 hr
            rcases k4 ψ hf with hf | hf
            · exact .inl (.inr ⟨(q, ys), by simp, hf⟩)
            · exact .inr hf
end Go.Proofs.Ytjfdgijgkbojnaa.E
