/- Lists of lists that are owned: grown, written, frozen. -/
import Derived.Test.YtmmhaiidcfgbbaaGreatDoorO6
set_option linter.unusedSectionVars false
set_option linter.unusedSimpArgs false
set_option linter.unusedVariables false
namespace Go.Proofs.YtmmhaiidcfgbbaaGreatDoor.E
open Go Go.RowKit
set_option maxRecDepth 100000
variable [L : Lam]
variable {σ τ τ' : AH} {R : AEnd → AH → Prop}
/-- A call whose arguments are given out of hand. -/
theorem acall_frz {P : Program} {f : FuncId} {args args' : List AV} {σ0 σ : AH} {R : AEnd → AH → Prop} (hs : AH.Sub σ0 σ) (hl : args.length = args'.length) (hf : ∀ i, i < args.length → Fz σ0 σ (args.getD i .any) (args'.getD i .any)) (h : acall P f args' σ0 R) : acall P f args σ R := by
  obtain ⟨fn, h1, h2, h3, h4⟩ := h
  refine ⟨fn, h1, h2, h3, fun κ w vs hr hv => ?_⟩
  obtain ⟨hS, hV⟩ := imp_freeze' hs hr
  refine (h4 _ w vs hS.rel ⟨hl ▸ hv.1, fun i hi => hV _ _ _ (hf i (hl ▸ hi)) (hv.2 i (hl ▸ hi))⟩).mono ?_
  rintro e w' ⟨κ1, ae, σ1, hq, hT, hE⟩
  exact ⟨κ1, ae, σ1, hq, hS.trans hT, hE⟩
section
variable {X : Type}
def l2F (bs : List (X × AV)) : List Nat := bs.flatMap fun p => famL p.2
theorem l2F_app (a b : List (X × AV)) : l2F (a ++ b) = l2F a ++ l2F b := by simp [l2F]
theorem l2F_cons (p : X × AV) (b : List (X × AV)) : l2F (p :: b) = famL p.2 ++ l2F b := by simp [l2F]
theorem l2F_mem {bs : List (X × AV)} {p : X × AV} (h : p ∈ bs) {ψ : Nat} (hψ : ψ ∈ famL p.2) : ψ ∈ l2F bs := List.mem_flatMap.2 ⟨p, h, hψ⟩
structure N2 (row : X → AV → List AV) (n : Nat) (inn : X → List (List AV)) (m : Nat) (σ τ : AH) (v : AV) (bs : List (X × AV)) : Prop where
  out : Buf τ n v (bs.map fun p => row p.1 p.2)
  ins : ∀ p, p ∈ bs → Buf τ m p.2 (inn p.1)
  nd : (famL v ++ l2F bs).Nodup
  fr : ∀ ψ, ψ ∈ famL v ++ l2F bs → σ ψ = none
  sub : AH.Sub σ τ
variable {row : X → AV → List AV} {n : Nat} {inn : X → List (List AV)} {m : Nat} {v : AV} {bs : List (X × AV)}
theorem N2.live (h : N2 row n inn m σ τ v bs) {ψ : Nat} (hψ : ψ ∈ famL v ++ l2F bs) : ∃ F, τ ψ = some F := by
  rcases List.mem_append.1 hψ with c | c
  · exact buf_live h.out c
  · obtain ⟨p, hp, hm⟩ := List.mem_flatMap.1 c
    exact buf_live (h.ins p hp) hm
theorem N2.keep (h : N2 row n inn m σ τ v bs) (hk : ∀ ψ, ψ ∈ famL v ++ l2F bs → τ' ψ = τ ψ) (hs : AH.Sub σ τ') : N2 row n inn m σ τ' v bs :=
  ⟨buf_keep h.out fun ψ hψ => hk ψ (List.mem_append_left _ hψ), fun p hp => buf_keep (h.ins p hp) fun ψ hψ => hk ψ (List.mem_append_right _ (l2F_mem hp hψ)), h.nd, h.fr, hs⟩
theorem N2.grow (h : N2 row n inn m σ τ v bs) (hs : AH.Sub τ τ') : N2 row n inn m σ τ' v bs :=
  h.keep (fun ψ hψ => by obtain ⟨F, e⟩ := h.live hψ; rw [e]; exact hs _ _ e) (h.sub.trans hs)
theorem N2.emp (h : AH.Sub σ τ) : N2 row n inn m σ τ .emp ([] : List (X × AV)) := ⟨.inl ⟨.inr rfl, rfl⟩, (fun p hp => by cases hp), .nil, (fun ψ c => by cases c), h⟩
theorem N2.nil (h : AH.Sub σ τ) : N2 row n inn m σ τ nilS ([] : List (X × AV)) := ⟨.inl ⟨.inl rfl, rfl⟩, (fun p hp => by cases hp), .nil, (fun ψ c => by cases c), h⟩
theorem N2.own (h : N2 row n inn m σ τ v bs) (hn : bs ≠ []) : ∃ φ st, v = .own φ st 0 bs.length ∧ τ φ = some ⟨st, n, bs.map fun p => row p.1 p.2⟩ := by
  obtain ⟨φ, st, hv, hF⟩ := buf_own h.out (by intro c; exact hn (List.map_eq_nil_iff.1 c))
  exact ⟨φ, st, by rw [hv, List.length_map], hF⟩
theorem N2.one (h : N2 row n inn m σ τ v bs) : v.one = true := h.out.av1
theorem N2.len (h : N2 row n inn m σ τ v bs) : lenS v = some (iv (bs.length : Int)) := by have := buf_len h.out; rwa [List.length_map] at this
/-- A row more. -/
theorem N2.app1 {p : X × AV} {x : AV} {k : AV → AH → Prop} (h : N2 row n inn m σ τ v bs) (hx : aelems τ x = some [row p.1 p.2]) (hrl : (row p.1 p.2).length = n) (hq : Buf τ m p.2 (inn p.1))
    (hd : ∀ ψ, ψ ∈ famL p.2 → ψ ∉ famL v ++ l2F bs) (hf : ∀ ψ, ψ ∈ famL p.2 → σ ψ = none) (ho : ∀ y, y ∈ row p.1 p.2 → y.one = true) (hn : bs.length + 1 ≤ 4294967296)
    (hk : ∀ v' τ', N2 row n inn m σ τ' v' (bs ++ [p]) → Kp (famL v) τ τ' → (∀ ψ, ψ ∈ famL v' → ψ ∈ famL v ∨ τ ψ = none) → k v' τ') : E.app n v x τ k := by
  refine buf_app h.out hx (by intro c hc; obtain rfl := List.mem_singleton.1 hc; exact hrl) (by intro c hc y hy; obtain rfl := List.mem_singleton.1 hc; exact ho y hy) (by simpa using hn) fun v' τ' hB hK hfam => hk v' τ' ?_ hK hfam
  obtain ⟨n1, n2, n3⟩ := nodup_app.1 h.nd
  have e1 : l2F (bs ++ [p]) = l2F bs ++ famL p.2 := by rw [l2F_app]; simp [l2F]
  have hdd : ∀ ψ, ψ ∈ l2F (bs ++ [p]) → ψ ∉ famL v := by
    intro ψ hψ c
    rw [e1] at hψ
    rcases List.mem_append.1 hψ with hψ | hψ
    · exact n3 ψ c hψ
    · exact hd ψ hψ (List.mem_append_left _ c)
  have hI : ∀ q, q ∈ bs ++ [p] → Buf τ m q.2 (inn q.1) := by
    intro q hq2
    rcases List.mem_append.1 hq2 with hq2 | hq2
    · exact h.ins q hq2
    · obtain rfl := List.mem_singleton.1 hq2
      exact hq
  have live : ∀ χ, χ ∈ l2F (bs ++ [p]) → τ χ ≠ none := fun χ hχ => by
    obtain ⟨q, hq2, hm⟩ := List.mem_flatMap.1 hχ
    exact live_ne (buf_live (hI q hq2) hm)
  refine ⟨by rw [List.map_append]; exact hB, fun q hq2 => hK.buf (hI q hq2) fun χ hχ => hdd χ (l2F_mem hq2 hχ), ?_, ?_, hK.sub h.sub fun ψ hψ => h.fr ψ (List.mem_append_left _ hψ)⟩
  · rw [nodup_app]
    refine ⟨famL_nodup _, ?_, fun χ hχ c => ?_⟩
    · rw [e1, nodup_app]
      exact ⟨n2, famL_nodup _, fun x hx c => hd x c (List.mem_append_right _ hx)⟩
    rcases hfam χ hχ with h1 | h1
    · exact hdd χ c h1
    · exact live χ c h1
  · intro χ hχ
    rcases List.mem_append.1 hχ with hχ | hχ
    · rcases hfam χ hχ with h1 | h1
      · exact h.fr χ (List.mem_append_left _ h1)
      · exact h.sub.none h1
    · rw [e1] at hχ
      rcases List.mem_append.1 hχ with hχ | hχ
      · exact h.fr χ (List.mem_append_right _ hχ)
      · exact hf χ hχ
/-- A row whose list is another one now. -/
theorem N2.repl {A C : List (X × AV)} {p : X × AV} {x' : X} {w : AV} {j : Nat} {τ0 : AH} {φ st : Nat} {k : AH → Prop} (h : N2 row n inn m σ τ0 v (A ++ p :: C)) (hv : v = .own φ st 0 (A ++ p :: C).length) (hw : Buf τ m w (inn x')) (hj : j < n) (hr : (row p.1 p.2).set j w = row x' w)
    (hkp : Kp (famL p.2) τ0 τ) (hfm : ∀ ψ, ψ ∈ famL w → ψ ∈ famL p.2 ∨ τ0 ψ = none)
    (hk : ∀ τ', N2 row n inn m σ τ' v (A ++ (x', w) :: C) → (∀ ψ, ψ ∉ famL v → τ' ψ = τ ψ) → k τ') : sto 1 (.ptr φ st A.length j) w τ k := by
  obtain ⟨φ', st', hv', hF⟩ := h.own (by simp)
  rw [hv'] at hv
  obtain ⟨rfl, rfl⟩ : φ' = φ ∧ st' = st := by injection hv with a b; exact ⟨a, b⟩
  subst hv'
  have hfv : famL (.own φ' st' 0 (A ++ p :: C).length) = [φ'] := rfl
  have hnd := h.nd
  rw [l2F_app, l2F_cons, hfv] at hnd
  have hlive : ∀ ψ, ψ ∈ famL (.own φ' st' 0 (A ++ p :: C).length) ++ l2F (A ++ p :: C) → τ0 ψ ≠ none := fun ψ hψ => live_ne (h.live hψ)
  have mem : ∀ ψ, ψ ∈ famL (.own φ' st' 0 (A ++ p :: C).length) ++ l2F (A ++ p :: C) ↔ ψ = φ' ∨ ψ ∈ l2F A ∨ ψ ∈ famL p.2 ∨ ψ ∈ l2F C := by
    intro ψ; rw [l2F_app, l2F_cons, hfv]; simp
  obtain ⟨_, hnd2, hnd3⟩ := nodup_app.1 hnd
  obtain ⟨hnA, hnd4, hnd5⟩ := nodup_app.1 hnd2
  obtain ⟨_, hnC, hnd6⟩ := nodup_app.1 hnd4
  have hφA : φ' ∉ l2F A := fun c => hnd3 φ' (by simp) (by simp [c])
  have hφp : φ' ∉ famL p.2 := fun c => hnd3 φ' (by simp) (by simp [c])
  have hφC : φ' ∉ l2F C := fun c => hnd3 φ' (by simp) (by simp [c])
  have hφw : φ' ∉ famL w := fun c => (hfm φ' c).elim hφp fun d => hlive φ' ((mem φ').2 (.inl rfl)) d
  have hwA : ∀ ψ, ψ ∈ famL w → ψ ∉ l2F A := fun ψ c d => (hfm ψ c).elim (fun e => hnd5 ψ d (by simp [e])) fun e => hlive ψ ((mem ψ).2 (by simp [d])) e
  have hwC : ∀ ψ, ψ ∈ famL w → ψ ∉ l2F C := fun ψ c d => (hfm ψ c).elim (fun e => hnd6 ψ e d) fun e => hlive ψ ((mem ψ).2 (by simp [d])) e
  have hFτ : τ φ' = some ⟨st', n, (A ++ p :: C).map fun p => row p.1 p.2⟩ := by rw [hkp φ' hφp (hlive φ' ((mem φ').2 (.inl rfl)))]; exact hF
  have hset : τ = τ.set φ' ⟨st', n, (A.map fun p => row p.1 p.2) ++ row p.1 p.2 :: C.map fun p => row p.1 p.2⟩ := by rw [AH.set_self]; rw [hFτ]; simp
  rw [hset]
  refine sto_at (by simp) hj hw.av1 ?_
  rw [hr]
  have h2 : ∀ ψ, ψ ≠ φ' → (τ.set φ' ⟨st', n, (A.map fun p => row p.1 p.2) ++ row x' w :: C.map fun p => row p.1 p.2⟩) ψ = τ ψ := fun ψ hψ => AH.set_ne' hψ
  have hq : ∀ q, q ∈ A ∨ q ∈ C → Buf (τ.set φ' ⟨st', n, (A.map fun p => row p.1 p.2) ++ row x' w :: C.map fun p => row p.1 p.2⟩) m q.2 (inn q.1) := by
    intro q hq
    refine buf_keep (h.ins q (by rcases hq with c | c <;> simp [c])) fun ψ hψ => ?_
    have hm : ψ ∈ l2F A ∨ ψ ∈ l2F C := hq.imp (fun c => l2F_mem c hψ) fun c => l2F_mem c hψ
    have hne : ψ ≠ φ' := by rintro rfl; exact hm.elim hφA hφC
    have hnp : ψ ∉ famL p.2 := fun c => hm.elim (fun d => hnd5 ψ d (by simp [c])) fun d => hnd6 ψ c d
    rw [h2 ψ hne]
    exact hkp ψ hnp (hlive ψ ((mem ψ).2 (by rcases hm with c | c <;> simp [c])))
  refine hk _ ⟨.inr ⟨φ', st', by simp, by rw [AH.set_same]; simp⟩, ?_, ?_, ?_, ?_⟩ fun ψ hψ => by rw [h2 ψ (by rintro rfl; exact hψ (by simp [famL]))]
  · intro q hm
    rcases List.mem_append.1 hm with c | c
    · exact hq q (.inl c)
    · rcases List.mem_cons.1 c with rfl | c
      · exact buf_keep hw fun ψ hψ => h2 ψ (by rintro rfl; exact hφw hψ)
      · exact hq q (.inr c)
  · have e : (A ++ p :: C).length = (A ++ (x', w) :: C).length := by simp
    rw [l2F_app, l2F_cons, hfv, nodup_app]
    refine ⟨by simp, nodup_app.2 ⟨hnA, nodup_app.2 ⟨famL_nodup _, hnC, fun ψ hψ c => hwC ψ hψ c⟩, fun ψ hψ c => ?_⟩, fun ψ hψ c => ?_⟩
    · rcases List.mem_append.1 c with c | c
      · exact hwA ψ c hψ
      · exact hnd5 ψ hψ (by simp [c])
    · obtain rfl := List.mem_singleton.1 hψ
      simp only [List.mem_append] at c
      rcases c with c | c | c
      · exact hφA c
      · exact hφw c
      · exact hφC c
  · intro ψ hψ
    rw [l2F_app, l2F_cons, hfv] at hψ
    simp only [List.mem_append, List.mem_singleton] at hψ
    rcases hψ with c | c | c | c
    · exact h.fr ψ ((mem ψ).2 (.inl c))
    · exact h.fr ψ ((mem ψ).2 (by simp [c]))
    · rcases hfm ψ c with d | d
      · exact h.fr ψ ((mem ψ).2 (by simp [d]))
      · exact h.sub.none d
    · exact h.fr ψ ((mem ψ).2 (by simp [c]))
  · intro ψ G hG
    have hn : ∀ χ, χ ∈ famL (.own φ' st' 0 (A ++ p :: C).length) ++ l2F (A ++ p :: C) → ψ ≠ χ := by rintro χ hχ rfl; rw [h.fr ψ hχ] at hG; cases hG
    rw [h2 ψ (hn φ' ((mem φ').2 (.inl rfl)))]
    have h1 := h.sub _ _ hG
    rw [hkp ψ (fun c => hn ψ ((mem ψ).2 (by simp [c])) rfl) (by rw [h1]; simp), h1]
/-- A cell of a row's list. -/
theorem N2.wr {A C : List (X × AV)} {p : X × AV} {x' : X} {u : AV} {j : Nat} {es1 es2 : List (List AV)} {r : List AV} {φ st : Nat} {k : AH → Prop} (h : N2 row n inn m σ τ v (A ++ p :: C)) (hi : inn p.1 = es1 ++ r :: es2) (hi' : inn x' = es1 ++ r.set j u :: es2)
    (hr : row x' p.2 = row p.1 p.2) (hj : j < m) (h1 : u.one = true) (hp : p.2 = .own φ st 0 (inn p.1).length)
    (hk : ∀ τ', N2 row n inn m σ τ' v (A ++ (x', p.2) :: C) → (∀ ψ, ψ ≠ φ → τ' ψ = τ ψ) → k τ') : sto 1 (.ptr φ st es1.length j) u τ k := by
  have hb := h.ins p (by simp)
  rw [hp] at hb
  obtain ⟨φ', st', hv', hF⟩ := buf_own hb (by rw [hi]; simp)
  obtain ⟨rfl, rfl⟩ : φ' = φ ∧ st' = st := by injection hv' with a b; exact ⟨a.symm, b.symm⟩
  have hset : τ = τ.set φ' ⟨st', m, es1 ++ r :: es2⟩ := by rw [AH.set_self]; rw [hF, hi]
  have hfp : famL p.2 = [φ'] := by rw [hp]; rfl
  have hnd := h.nd
  rw [l2F_app, l2F_cons, hfp] at hnd
  obtain ⟨_, hnd2, hnd3⟩ := nodup_app.1 hnd
  obtain ⟨_, hnd4, hnd5⟩ := nodup_app.1 hnd2
  obtain ⟨_, _, hnd6⟩ := nodup_app.1 hnd4
  have hφv : φ' ∉ famL v := fun c => hnd3 φ' c (by simp)
  have hφA : φ' ∉ l2F A := fun c => hnd5 φ' c (by simp)
  have hφC : φ' ∉ l2F C := fun c => hnd6 φ' (by simp) c
  rw [hset]
  refine sto_at rfl hj h1 ?_
  have h2 : ∀ ψ, ψ ≠ φ' → (τ.set φ' ⟨st', m, es1 ++ r.set j u :: es2⟩) ψ = τ ψ := fun ψ hψ => AH.set_ne' hψ
  refine hk _ ⟨?_, ?_, ?_, ?_, ?_⟩ h2
  · have := buf_keep h.out (τ' := τ.set φ' ⟨st', m, es1 ++ r.set j u :: es2⟩) fun ψ hψ => h2 ψ (by rintro rfl; exact hφv hψ)
    simpa [hr] using this
  · intro q hq
    rcases List.mem_append.1 hq with c | c
    · exact buf_keep (h.ins q (by simp [c])) fun ψ hψ => h2 ψ (by rintro rfl; exact hφA (l2F_mem c hψ))
    · rcases List.mem_cons.1 c with rfl | c
      · show Buf _ m p.2 (inn x')
        rw [hp, hi', hi]
        exact .inr ⟨φ', st', by simp, AH.set_same ..⟩
      · exact buf_keep (h.ins q (by simp [c])) fun ψ hψ => h2 ψ (by rintro rfl; exact hφC (l2F_mem c hψ))
  · have := h.nd
    rw [l2F_app, l2F_cons] at this ⊢
    exact this
  · intro ψ hψ
    refine h.fr ψ ?_
    rw [l2F_app, l2F_cons] at hψ ⊢
    exact hψ
  · intro ψ G hG
    have hn : ψ ≠ φ' := by rintro rfl; rw [h.fr ψ (by rw [l2F_app, l2F_cons, hfp]; simp)] at hG; cases hG
    rw [h2 ψ hn]; exact h.sub _ _ hG
/-- All of it, given out of hand. -/
theorem N2.fz (h : N2 row n inn m σ τ v bs) (hl : ∀ x a, (row x a).length = n) (hm : ∀ x c, c ∈ inn x → c.length = m) (hc : ∀ x c, c ∈ inn x → True)
    (hr : ∀ x a b j, Fz σ τ a b → Fz σ τ ((row x a).getD j .any) ((row x b).getD j .any)) : Fz σ τ v (.ro (bs.map fun p => row p.1 (.ro (inn p.1)))) := by
  refine fz_row h.out (fun ψ hψ => h.fr ψ (List.mem_append_left _ hψ)) (by simp) (by intro c hc; obtain ⟨p, _, rfl⟩ := List.mem_map.1 hc; exact hl _ _) fun i j hi hj => ?_
  have hi' : i < bs.length := by simpa using hi
  have e1 : (bs.map fun p => row p.1 p.2).getD i [] = row bs[i].1 bs[i].2 := by simp [List.getD, hi']
  have e2 : (bs.map fun p => row p.1 (.ro (inn p.1))).getD i [] = row bs[i].1 (.ro (inn bs[i].1)) := by simp [List.getD, hi']
  rw [e1, e2]
  refine hr _ _ _ j ?_
  refine fz_row (h.ins _ (List.getElem_mem hi')) (fun ψ hψ => h.fr ψ (List.mem_append_right _ (l2F_mem (List.getElem_mem hi') hψ))) rfl (hm _) fun _ _ _ _ => .same _
end
end Go.Proofs.YtmmhaiidcfgbbaaGreatDoor.E
