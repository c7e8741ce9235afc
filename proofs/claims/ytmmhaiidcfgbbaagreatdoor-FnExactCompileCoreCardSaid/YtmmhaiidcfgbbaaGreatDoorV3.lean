/- Cores that are made to code: what is made, in memory. -/
import Derived.Test.YtmmhaiidcfgbbaaGreatDoorV1
import Derived.Test.YtmmhaiidcfgbbaaGreatDoorV2
set_option linter.unusedSectionVars false
set_option linter.unusedSimpArgs false
set_option linter.unusedVariables false
namespace Go.Proofs.YtmmhaiidcfgbbaaGreatDoor.E
open Go Go.RowKit
set_option maxRecDepth 100000
variable [L : Lam]
variable {σ τ τ' : AH} {R : AEnd → AH → Prop}
theorem nilB {sz : Nat} : Buf τ sz nilS [] := .inl ⟨.inl rfl, rfl⟩
theorem modify_at {X : Type} (A C : List X) (p : X) (f : X → X) : (A ++ p :: C).modify A.length f = A ++ f p :: C := by
  induction A with
  | nil => rfl
  | cons a A ih => simpa using ih
theorem getD_at {X : Type} (A C : List X) (p d : X) : (A ++ p :: C).getD A.length d = p := by simp [List.getD]
theorem split_at' {X : Type} {l : List X} {i : Nat} (h : i < l.length) : ∃ A p C, l = A ++ p :: C ∧ A.length = i := by
  refine ⟨l.take i, l[i], l.drop (i + 1), ?_, by simp; omega⟩
  rw [← List.drop_eq_getElem_cons h, List.take_append_drop]
abbrev rowB (p : Int × List OpD) (a : AV) : List AV := [iv p.1, a]
abbrev innB (p : Int × List OpD) : List (List AV) := p.2.map encOp
/-- What is made lies in a cell behind others that stay. -/
structure CSt (pre : List AV) (σ τ : AH) (φm : Nat) (B : St) : Prop where
  ex : ∃ v bs, τ φm = some ⟨0, pre.length + 1, [pre ++ [v]]⟩ ∧ N2 rowB 2 innB 7 σ τ v bs ∧ bs.map (·.1) = B ∧ φm ∉ famL v ++ l2F bs
  fr : σ φm = none
variable {pre : List AV} {φm : Nat} {B : St}
theorem lod_m {v : AV} (h : τ φm = some ⟨0, pre.length + 1, [pre ++ [v]]⟩) : lod (.ptr φm 0 0 pre.length) τ = some v := lod_at h rfl (by simp)
theorem CSt.len (h : CSt pre σ τ φm B) : ∃ v, lod (.ptr φm 0 0 pre.length) τ = some v ∧ lenS v = some (iv (B.length : Int)) := by
  obtain ⟨v, bs, h1, h2, rfl, _⟩ := h.ex
  exact ⟨v, lod_m h1, by rw [h2.len, List.length_map]⟩
theorem CSt.fix (h : CSt pre σ τ φm B) {i : Nat} {x : AV} (hx : pre[i]? = some x) : lod (.ptr φm 0 0 i) τ = some x := by
  obtain ⟨v, bs, h1, _⟩ := h.ex
  refine lod_at h1 rfl ?_
  have hi := (List.getElem?_eq_some_iff.1 hx).1
  simp [List.getElem?_append_left hi, hx]
theorem CSt.sub (h : CSt pre σ τ φm B) : AH.Sub σ τ := by obtain ⟨v, bs, _, h2, _⟩ := h.ex; exact h2.sub
theorem CSt.grow (h : CSt pre σ τ φm B) (hs : AH.Sub τ τ') : CSt pre σ τ' φm B := by
  obtain ⟨v, bs, h1, h2, h3, h4⟩ := h.ex
  exact ⟨⟨v, bs, hs _ _ h1, h2.grow hs, h3, h4⟩, h.fr⟩
/-- One of the lists, opened. -/
theorem CSt.open (h : CSt pre σ τ φm B) {i : Nat} (hi : i < B.length) : ∃ v φ st w, lod (.ptr φm 0 0 pre.length) τ = some v ∧ idx 2 v (iv (i : Int)) τ = some (.ptr φ st i 0) ∧ lod (.ptr φ st i 1) τ = some w ∧ lenS w = some (iv (lenS' B i : Int)) ∧
    (∀ (o : OpD) (k : AV → AH → Prop), lenS' B i + 1 ≤ 4294967296 → (∀ w' τ1, lod (.ptr φm 0 0 pre.length) τ1 = some v → idx 2 v (iv (i : Int)) τ1 = some (.ptr φ st i 0) →
      (∀ k' : AH → Prop, (∀ τ2, CSt pre σ τ2 φm (putS B i o) → lod (.ptr φm 0 0 pre.length) τ2 = some v → idx 2 v (iv (i : Int)) τ2 = some (.ptr φ st i 0) → lod (.ptr φ st i 1) τ2 = some w' → lenS w' = some (iv ((lenS' B i + 1 : Nat) : Int)) → k' τ2) → sto 1 (.ptr φ st i 1) w' τ1 k') → k w' τ1) → E.app 7 w (.ro [encOp o]) τ k) ∧
    (∀ j : Nat, j < lenS' B i → ∃ φw stw, idx 7 w (iv (j : Int)) τ = some (.ptr φw stw j 0) ∧ ∀ (a : Int) (k : AH → Prop), (∀ τ2, CSt pre σ τ2 φm (setS B i j a) → k τ2) → sto 1 (.ptr φw stw j 1) (iv a) τ k) := by
  obtain ⟨v, bs, h1, h2, rfl, h4⟩ := h.ex
  rw [List.length_map] at hi
  obtain ⟨A, p, C, rfl, rfl⟩ := split_at' hi
  obtain ⟨φ, st, rfl, hF⟩ := h2.own (by simp)
  have hlen : (A ++ p :: C).length = A.length + (C.length + 1) := by simp
  have ix : ∀ τ1, τ1 φ = some ⟨st, 2, (A ++ p :: C).map fun p => rowB p.1 p.2⟩ → idx 2 (.own φ st 0 (A ++ p :: C).length) (iv (A.length : Int)) τ1 = some (.ptr φ st A.length 0) := fun τ1 hF1 => by
    have := idx_own (st := st) (off := 0) hF1 (show A.length < (A ++ p :: C).length by simp)
    rwa [Nat.zero_add] at this
  have hb : Buf τ 7 p.2 (innB p.1) := h2.ins p (by simp)
  have hpl : lenS' ((A ++ p :: C).map (·.1)) A.length = p.1.2.length := by
    unfold lenS'
    rw [List.map_append, List.map_cons]
    have := getD_at (A.map (·.1)) (C.map (·.1)) p.1 ((0, []) : Int × List OpD)
    rw [List.length_map] at this
    rw [this]
  have hlw := buf_len hb
  rw [List.length_map] at hlw
  refine ⟨_, φ, st, p.2, lod_m h1, ix τ hF, lod_at hF rfl (by simp [List.getD]), by rw [hpl]; exact hlw, fun o k hn hk => ?_, fun j hj => ?_⟩
  · rw [hpl] at hn hk
    have hφm : φm ∉ famL p.2 := fun c => h4 (List.mem_append_right _ (l2F_mem (by simp) c))
    have hφφ : φ ∉ famL p.2 := fun c => (nodup_app.1 h2.nd).2.2 φ (by simp [famL]) (l2F_mem (by simp) c)
    have hne : φm ≠ φ := fun c => h4 (List.mem_append_left _ (by simp [famL, c]))
    refine buf_app hb (xs := [encOp o]) rfl (by intro c hc; obtain rfl := List.mem_singleton.1 hc; rfl) (by intro c hc; obtain rfl := List.mem_singleton.1 hc; exact one_encOp o) (by simpa using hn) fun w' τ1 hB hK hfam => ?_
    have hm1 : τ1 φm = some ⟨0, pre.length + 1, [pre ++ [.own φ st 0 (A ++ p :: C).length]]⟩ := by rw [hK φm hφm (by rw [h1]; simp)]; exact h1
    have hF1 : τ1 φ = some ⟨st, 2, (A ++ p :: C).map fun p => rowB p.1 p.2⟩ := by rw [hK φ hφφ (by rw [hF]; simp)]; exact hF
    refine hk w' τ1 (lod_m hm1) (ix τ1 hF1) fun k' hk' => ?_
    refine h2.repl (x' := (p.1.1, p.1.2 ++ [o])) rfl (by rw [show innB (p.1.1, p.1.2 ++ [o]) = innB p.1 ++ [encOp o] by simp [innB]]; exact hB) (by omega) rfl hK hfam fun τ2 hN hfr => ?_
    have hm2 : τ2 φm = some ⟨0, pre.length + 1, [pre ++ [.own φ st 0 (A ++ p :: C).length]]⟩ := by rw [hfr φm (by simp [famL, hne])]; exact hm1
    have hl2 : (A ++ p :: C).length = (A ++ ((p.1.1, p.1.2 ++ [o]), w') :: C).length := by simp
    obtain ⟨φ', st', e', hF'⟩ := hN.own (by simp)
    obtain ⟨rfl, rfl⟩ : φ = φ' ∧ st = st' := by injection e' with a b; exact ⟨a, b⟩
    refine hk' τ2 ⟨⟨_, _, hm2, hN, ?_, fun c => ?_⟩, h.fr⟩ (lod_m hm2) ?_ (lod_at hF' rfl (by simp [List.getD])) ?_
    · rw [List.map_append, List.map_cons, List.map_append, List.map_cons]
      unfold putS
      have := modify_at (A.map (·.1)) (C.map (·.1)) p.1 (fun q : Int × List OpD => (q.1, q.2 ++ [o]))
      rw [List.length_map] at this
      exact this.symm
    · rw [l2F_app, l2F_cons] at c
      rw [l2F_app, l2F_cons] at h4
      simp only [List.mem_append] at c h4
      rcases c with c | c | c | c
      · exact h4 (.inl c)
      · exact h4 (.inr (.inl c))
      · rcases hfam φm c with d | d
        · exact hφm d
        · rw [h1] at d; cases d
      · exact h4 (.inr (.inr (.inr c)))
    · rw [hl2]
      have := idx_own (st := st) (off := 0) hF' (show A.length < (A ++ ((p.1.1, p.1.2 ++ [o]), w') :: C).length by simp)
      rwa [Nat.zero_add] at this
    · have := buf_len hB
      simpa using this
  · rw [hpl] at hj
    obtain ⟨φw, stw, hw, hFw⟩ := buf_own hb (by intro c; have := congrArg List.length c; simp at this; simp [this] at hj)
    have hwl : (innB p.1).length = p.1.2.length := by simp
    obtain ⟨E1, o, E2, he, rfl⟩ := split_at' hj
    refine ⟨φw, stw, ?_, fun a k hk => ?_⟩
    · rw [hw]
      have := idx_own (st := stw) (off := 0) hFw (show E1.length < (innB p.1).length by rw [hwl]; exact hj)
      rwa [Nat.zero_add] at this
    · have e1 : (E1.map encOp).length = E1.length := by simp
      rw [← e1]
      refine h2.wr (x' := (p.1.1, E1 ++ { o with a := a } :: E2)) (es2 := E2.map encOp) (r := encOp o) (by show p.1.2.map encOp = _; rw [he]; simp) (by show (E1 ++ _ :: E2).map encOp = _; simp [encOp]) rfl (by omega) rfl hw fun τ2 hN hfr => ?_
      have hφm : φm ≠ φw := by
        rintro rfl
        exact h4 (List.mem_append_right _ (l2F_mem (p := p) (by simp) (by rw [hw]; simp [famL])))
      have hm2 : τ2 φm = some ⟨0, pre.length + 1, [pre ++ [.own φ st 0 (A ++ p :: C).length]]⟩ := by rw [hfr φm hφm]; exact h1
      refine hk τ2 ⟨⟨_, _, hm2, hN, ?_, fun c => ?_⟩, h.fr⟩
      · rw [List.map_append, List.map_cons, List.map_append, List.map_cons]
        unfold setS
        have := modify_at (A.map (·.1)) (C.map (·.1)) p.1 (fun q : Int × List OpD => (q.1, q.2.modify E1.length fun o => { o with a := a }))
        rw [List.length_map] at this
        rw [this, he, modify_at]
      · rw [l2F_app, l2F_cons] at c
        rw [l2F_app, l2F_cons] at h4
        exact h4 c
/-- A list more. -/
theorem CSt.push (h : CSt pre σ τ φm B) {v : AV} (hv : lod (.ptr φm 0 0 pre.length) τ = some v) {x : AV} {a : Int} {k : AV → AH → Prop} (hx : aelems τ x = some [[iv a, nilS]]) (hn : B.length + 1 ≤ 4294967296)
    (hk : ∀ v' τ1, (∀ k' : AH → Prop, (∀ τ2, CSt pre σ τ2 φm (B ++ [(a, [])]) → lod (.ptr φm 0 0 pre.length) τ2 = some v' → lenS v' = some (iv ((B.length + 1 : Nat) : Int)) → k' τ2) → sto 1 (.ptr φm 0 0 pre.length) v' τ1 k') → k v' τ1) : E.app 2 v x τ k := by
  obtain ⟨v0, bs, h1, h2, rfl, h4⟩ := h.ex
  obtain rfl : v0 = v := by have := lod_m h1; rw [this] at hv; exact Option.some.inj hv
  rw [List.length_map] at hn
  refine h2.app1 (p := ((a, []), nilS)) hx rfl nilB (fun ψ c => by cases c) (fun ψ c => by cases c) (by intro y hy; simp only [List.mem_cons, List.not_mem_nil, or_false] at hy; rcases hy with rfl | rfl <;> rfl) hn fun v' τ1 hN hK hfam => hk v' τ1 fun k' hk' => ?_
  have hm1 : τ1 φm = some ⟨0, pre.length + 1, [pre ++ [v0]]⟩ := by rw [hK φm (fun c => h4 (List.mem_append_left _ c)) (by rw [h1]; simp)]; exact h1
  refine sto_fld (cs := pre ++ [v0]) hm1 rfl (by omega) (acells_one hN.one) hN.one ?_
  have e : [pre ++ [v0]].set 0 ((pre ++ [v0]).set pre.length v') = [pre ++ [v']] := by simp
  rw [e]
  have h5 : φm ∉ famL v' ++ l2F (bs ++ [((a, []), nilS)]) := fun c => by
    rw [l2F_app] at c
    simp only [List.mem_append] at c
    rcases c with c | c | c
    · rcases hfam φm c with d | d
      · exact h4 (List.mem_append_left _ d)
      · rw [h1] at d; cases d
    · exact h4 (List.mem_append_right _ c)
    · simp [l2F, famL] at c
  have hs : AH.Sub σ (τ1.set φm ⟨0, pre.length + 1, [pre ++ [v']]⟩) := fun ψ F hF => by
    rw [AH.set_ne' (by rintro rfl; rw [h.fr] at hF; cases hF)]; exact hN.sub _ _ hF
  refine hk' _ ⟨⟨v', _, AH.set_same .., hN.keep (fun ψ hψ => AH.set_ne' (by rintro rfl; exact h5 hψ)) hs, by simp, h5⟩, h.fr⟩ (lod_m (AH.set_same ..)) ?_
  have := hN.len
  simpa using this
/-- All of it, given out of hand. -/
theorem CSt.fz (h : CSt pre σ τ φm B) {fs : List AV} (hpre : fs = pre ++ [roBk (B.map fun p => ⟨p.1, p.2⟩)]) : Fz σ τ (.ptr φm 0 0 0) (.rop fs 0) := by
  obtain ⟨v, bs, h1, h2, rfl, h4⟩ := h.ex
  subst hpre
  refine .ptr h1 h.fr rfl (by simp) (by simp) (by simp) fun j hj => ?_
  have hj' : j < pre.length + 1 := by simpa using hj
  have e0 : (⟨0, pre.length + 1, [pre ++ [v]]⟩ : Fam).es.getD 0 [] = pre ++ [v] := rfl
  rw [e0]
  by_cases c : j < pre.length
  · rw [show (pre ++ [v]).getD j .any = pre.getD j .any by simp [List.getD, List.getElem?_append_left c], show (pre ++ [roBk ((bs.map (·.1)).map fun p => ⟨p.1, p.2⟩)]).getD j .any = pre.getD j .any by simp [List.getD, List.getElem?_append_left c]]
    exact .same _
  · obtain rfl : j = pre.length := by omega
    rw [show (pre ++ [v]).getD pre.length .any = v by simp [List.getD], show (pre ++ [roBk ((bs.map (·.1)).map fun p => ⟨p.1, p.2⟩)]).getD pre.length .any = roBk ((bs.map (·.1)).map fun p => ⟨p.1, p.2⟩) by simp [List.getD]]
    have := h2.fz (fun _ _ => rfl) (fun x c hc => by obtain ⟨o, _, rfl⟩ := List.mem_map.1 hc; rfl) (fun _ _ _ => trivial) (fun x a b j hf => by
      match j with
      | 0 => exact .same _
      | 1 => exact hf
      | j + 2 => exact .same _)
    have e : (bs.map fun p => rowB p.1 (.ro (innB p.1))) = ((bs.map (·.1)).map fun p : Int × List OpD => (⟨p.1, p.2⟩ : Blk)).map encBlk := by simp [encBlk]
    rw [e] at this
    exact this
end Go.Proofs.YtmmhaiidcfgbbaaGreatDoor.E
