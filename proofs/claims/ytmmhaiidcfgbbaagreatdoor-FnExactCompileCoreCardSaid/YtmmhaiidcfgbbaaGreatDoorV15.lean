/- Cores as arguments: marks. -/
import Derived.Test.YtmmhaiidcfgbbaaGreatDoorV14
import Derived.Test.YtmmhaiidcfgbbaaGreatDoorO3
set_option linter.unusedSectionVars false
set_option linter.unusedSimpArgs false
set_option linter.unusedVariables false
namespace Go.Proofs.YtmmhaiidcfgbbaaGreatDoor.E
open Go Go.RowKit
set_option maxRecDepth 100000
variable [L : Lam]
variable {σ τ τ' : AH} {R : AEnd → AH → Prop}
section
variable {X : Type} {row : X → AV → List AV} {n : Nat} {inn : X → List (List AV)} {m : Nat} {v : AV}
/-- A cell of a row. -/
theorem N2.wo {A C : List (X × AV)} {p : X × AV} {x' : X} {u : AV} {j : Nat} {φ st : Nat} {k : AH → Prop} (h : N2 row n inn m σ τ v (A ++ p :: C)) (hv : v = .own φ st 0 (A ++ p :: C).length) (hr : (row p.1 p.2).set j u = row x' p.2) (hi : inn x' = inn p.1) (hj : j < n) (h1 : u.one = true)
    (hk : ∀ τ', N2 row n inn m σ τ' v (A ++ (x', p.2) :: C) → (∀ ψ, ψ ≠ φ → τ' ψ = τ ψ) → k τ') : sto 1 (.ptr φ st A.length j) u τ k := by
  obtain ⟨φ', st', hv', hF⟩ := h.own (by simp)
  rw [hv'] at hv
  obtain ⟨rfl, rfl⟩ : φ' = φ ∧ st' = st := by injection hv with a b; exact ⟨a, b⟩
  subst hv'
  have hset : τ = τ.set φ' ⟨st', n, (A.map fun p => row p.1 p.2) ++ row p.1 p.2 :: C.map fun p => row p.1 p.2⟩ := by rw [AH.set_self]; rw [hF]; simp
  have hnd := h.nd
  have hfam : l2F (A ++ (x', p.2) :: C) = l2F (A ++ p :: C) := by rw [l2F_app, l2F_cons, l2F_app, l2F_cons]
  have hφ : φ' ∉ l2F (A ++ p :: C) := fun c => (nodup_app.1 hnd).2.2 φ' (by simp [famL]) c
  have hfr : σ φ' = none := h.fr φ' (List.mem_append_left _ (by simp [famL]))
  rw [hset]
  refine sto_at (by simp) hj h1 ?_
  rw [hr]
  have h2 : ∀ ψ, ψ ≠ φ' → (τ.set φ' ⟨st', n, (A.map fun p => row p.1 p.2) ++ row x' p.2 :: C.map fun p => row p.1 p.2⟩) ψ = τ ψ := fun ψ hψ => AH.set_ne' hψ
  refine hk _ ⟨.inr ⟨φ', st', by simp, by rw [AH.set_same]; simp⟩, fun q hq => ?_, by rw [hfam]; exact hnd, by rw [hfam]; exact h.fr, fun ψ G hG => by rw [h2 ψ (by rintro rfl; rw [hfr] at hG; cases hG)]; exact h.sub _ _ hG⟩ h2
  have key : ∀ q', q' ∈ A ++ p :: C → Buf (τ.set φ' ⟨st', n, (A.map fun p => row p.1 p.2) ++ row x' p.2 :: C.map fun p => row p.1 p.2⟩) m q'.2 (inn q'.1) := fun q' hq' => buf_keep (h.ins q' hq') fun ψ hψ => h2 ψ (by rintro rfl; exact hφ (l2F_mem hq' hψ))
  rcases List.mem_append.1 hq with c | c
  · exact key q (by simp [c])
  · rcases List.mem_cons.1 c with rfl | c
    · have := key p (by simp)
      show Buf _ m p.2 (inn x')
      rw [hi]; exact this
    · exact key q (by simp [c])
/-- A row's list that is written. -/
theorem N2.wl {A C : List (X × AV)} {p : X × AV} {x' : X} (h : N2 row n inn m σ τ v (A ++ p :: C)) (hr : row x' p.2 = row p.1 p.2) (hB : Buf τ' m p.2 (inn x')) (hk : ∀ ψ, ψ ∉ famL p.2 → τ' ψ = τ ψ) : N2 row n inn m σ τ' v (A ++ (x', p.2) :: C) := by
  have hnd := h.nd
  have hfam : l2F (A ++ (x', p.2) :: C) = l2F (A ++ p :: C) := by rw [l2F_app, l2F_cons, l2F_app, l2F_cons]
  have hnd' := hnd
  rw [l2F_app, l2F_cons] at hnd'
  obtain ⟨_, hnd2, hnd3⟩ := nodup_app.1 hnd'
  obtain ⟨_, hnd4, hnd5⟩ := nodup_app.1 hnd2
  obtain ⟨_, _, hnd6⟩ := nodup_app.1 hnd4
  refine ⟨?_, fun q hq => ?_, by rw [hfam]; exact hnd, by rw [hfam]; exact h.fr, fun ψ G hG => ?_⟩
  · have := buf_keep h.out (τ' := τ') fun ψ hψ => hk ψ fun c => hnd3 ψ hψ (by simp [c])
    simpa [hr] using this
  · rcases List.mem_append.1 hq with c | c
    · exact buf_keep (h.ins q (by simp [c])) fun ψ hψ => hk ψ fun d => hnd5 ψ (l2F_mem c hψ) (by simp [d])
    · rcases List.mem_cons.1 c with rfl | c
      · exact hB
      · exact buf_keep (h.ins q (by simp [c])) fun ψ hψ => hk ψ fun d => hnd6 ψ d (l2F_mem c hψ)
  · rw [hk ψ fun c => by rw [h.fr ψ (by rw [l2F_app, l2F_cons]; simp [c])] at hG; cases hG]
    exact h.sub _ _ hG
end
def markN (cs : List Cor) : Nat := (cs.map fun c => 5 + 4 * c.data.length).sum
theorem markN_le : ∀ (cs : List Cor), (∀ c, c ∈ cs → c.data.length ≤ 1048576) → markN cs ≤ cs.length * 4194309 := by
  intro cs
  induction cs with
  | nil => intro _; simp [markN]
  | cons c r ih =>
    intro h
    have h1 := ih fun c hc => h c (by simp [hc])
    have h2 := h c (by simp)
    have e : markN (c :: r) = 5 + 4 * c.data.length + markN r := by simp [markN]
    rw [e, List.length_cons, Nat.succ_mul]
    omega
set_option maxHeartbeats 1000000 in
theorem c_laws_markCoreSX {v : AV} {bs : List (Cor × AV)} {k : Int} (h : N2 encCorA 6 innC 4 σ τ v bs) (h0 : 0 ≤ k) (h1 : k + (markN (bs.map (·.1)) : Int) ≤ 9000000000000000000)
    (hR : ∀ k' τ', 0 ≤ k' → (∀ ψ, ψ ∉ famL v ++ l2F bs → τ' ψ = τ ψ) → R (.ret (iv k')) τ') : acall TP fn_laws_markCoreS [v, iv k] τ R := by
  refine s_laws_markCoreS_ok ?_
  unfold s_laws_markCoreS
  refine lp_by (fun n x τ' => ∃ (don rest : List (Cor × AV)) (kk : Int), rest.length = n ∧ x = (v, iv kk, iv (don.length : Int), ()) ∧ N2 encCorA 6 innC 4 σ τ' v (don ++ rest) ∧ l2F (don ++ rest) = l2F bs ∧ 0 ≤ kk ∧ (don.length : Int) ≤ kk ∧ kk + (markN (rest.map (·.1)) : Int) ≤ 9000000000000000000 ∧ ∀ ψ, ψ ∉ famL v ++ l2F bs → τ' ψ = τ ψ) bs.length ⟨[], bs, k, rfl, rfl, h, rfl, h0, by simpa using h0, h1, fun _ _ => rfl⟩ ?_
  rintro n x τ1 ⟨don, rest, kk, hrl, rfl, hN, hfam, hk0, hdk, hk1, hfr⟩ R' hR'
  have hlen := hN.len
  simp only [hlen, RR]
  cases rest with
  | nil =>
    have g : ¬ (don.length : Int) < ((don ++ ([] : List (Cor × AV))).length : Int) := by simp
    simp only [g, RR]
    exact ret_here (hR kk τ1 hk0 hfr)
  | cons p r =>
    have g : (don.length : Int) < ((don ++ p :: r).length : Int) := by simp; omega
    obtain ⟨φ, st, hv, _⟩ := hN.own (by simp)
    have hll : (don ++ p :: r).length = don.length + (r.length + 1) := by simp
    have ix : ∀ {τ2 : AH} {q : Cor × AV}, N2 encCorA 6 innC 4 σ τ2 v (don ++ q :: r) → idx 6 v (iv (don.length : Int)) τ2 = some (.ptr φ st don.length 0) := fun {τ2 q} hN2 => by
      obtain ⟨φ', st', e', hF'⟩ := hN2.own (by simp)
      have hl2 : (don ++ q :: r).length = (don ++ p :: r).length := by simp
      rw [hv] at e'
      obtain ⟨rfl, rfl⟩ : φ = φ' ∧ st = st' := by injection e' with a b; exact ⟨a, b⟩
      have := idx_own (st := st) (off := 0) hF' (show don.length < (don ++ p :: r).length by simp)
      rw [Nat.zero_add] at this
      rw [hv]; exact this
    have hvq : ∀ q : Cor × AV, v = .own φ st 0 (don ++ q :: r).length := fun q => by rw [hv]; simp
    have hmk : (markN ((p :: r).map (·.1)) : Int) = 5 + 4 * (p.1.data.length : Int) + (markN (r.map (·.1)) : Int) := by simp [markN]
    have hmr : (0 : Int) ≤ (markN (r.map (·.1)) : Int) := by omega
    have hφm : φ ∈ famL v ++ l2F bs := List.mem_append_left _ (by rw [hv]; simp [famL])
    have kp : ∀ {a b : AH}, (∀ ψ, ψ ≠ φ → b ψ = a ψ) → (∀ ψ, ψ ∉ famL v ++ l2F bs → a ψ = τ ψ) → ∀ ψ, ψ ∉ famL v ++ l2F bs → b ψ = τ ψ := fun h1 h2 ψ hψ => by rw [h1 ψ (by rintro rfl; exact hψ hφm), h2 ψ hψ]
    simp only [g, ix hN, add1 (m := kk) (by omega) (by omega), add1 (m := kk + 1) (by omega) (by omega), add1 (m := kk + 1 + 1) (by omega) (by omega), add1 (m := kk + 1 + 1 + 1) (by omega) (by omega), add1 (m := kk + 1 + 1 + 1 + 1) (by omega) (by omega), RR]
    refine hN.wo (x' := { p.1 with kind := kk }) (hvq _) rfl rfl (by omega) rfl fun τ2 hN2 f2 => ?_
    simp only [ix hN2, RR]
    refine hN2.wo (x' := { p.1 with kind := kk, parent := kk + 1 }) (hvq _) rfl rfl (by omega) rfl fun τ3 hN3 f3 => ?_
    simp only [ix hN3, RR]
    refine hN3.wo (x' := { p.1 with kind := kk, parent := kk + 1, a := kk + 1 + 1 }) (hvq _) rfl rfl (by omega) rfl fun τ4 hN4 f4 => ?_
    simp only [ix hN4, RR]
    refine hN4.wo (x' := { p.1 with kind := kk, parent := kk + 1, a := kk + 1 + 1, b := kk + 1 + 1 + 1 }) (hvq _) rfl rfl (by omega) rfl fun τ5 hN5 f5 => ?_
    refine c_laws_markTextX (by omega) (by omega) ?_
    simp only [ix hN5, RR]
    refine hN5.wo (x' := { p.1 with kind := kk, parent := kk + 1, a := kk + 1 + 1, b := kk + 1 + 1 + 1, name := mkT (kk + 1 + 1 + 1 + 1) }) (hvq _) rfl rfl (by omega) rfl fun τ6 hN6 f6 => ?_
    obtain ⟨_, _, e6, hF6⟩ := hN6.own (by simp)
    obtain ⟨rfl, rfl⟩ : φ = _ ∧ st = _ := by rw [hvq p] at e6; injection e6 with a b; exact ⟨a, b⟩
    have eg : ∀ q : Cor × AV, ((don ++ q :: r).map fun p => encCorA p.1 p.2).getD don.length [] = encCorA q.1 q.2 := fun q => by
      rw [List.map_append, List.map_cons, List.getD, List.getElem?_append_right (by simp)]
      simp
    have el : lod (.ptr φ st don.length 5) τ6 = some p.2 := lod_at hF6 rfl (by rw [eg]; rfl)
    simp only [ix hN6, el, RR]
    have hBp : Buf τ6 4 p.2 (innC p.1) := hN6.ins ({ p.1 with kind := kk, parent := kk + 1, a := kk + 1 + 1, b := kk + 1 + 1 + 1, name := mkT (kk + 1 + 1 + 1 + 1) }, p.2) (List.mem_append_right don (List.mem_cons_self ..))
    refine c_laws_markDatumSX hBp (fun c hc => by obtain ⟨d, _, rfl⟩ := List.mem_map.1 hc; rfl) (by omega) (by simp; omega) fun τ7 hB7 f7 => ?_
    have hN7 := hN6.wl (x' := { p.1 with kind := kk, parent := kk + 1, a := kk + 1 + 1, b := kk + 1 + 1 + 1, name := mkT (kk + 1 + 1 + 1 + 1), data := mkDats (kk + 1 + 1 + 1 + 1 + 1) (innC p.1).length }) rfl hB7 f7
    have hil : (innC p.1).length = p.1.data.length := by simp
    simp only [ibin_up (i := don.length) (n := don.length + 1) (by omega) (by omega), RR]
    refine hR' _ _ r.length τ7 (by rw [← hrl]; simp) (.refl _) ⟨don ++ [(_, p.2)], r, _, rfl, by simp; rfl, by simpa using hN7, ?_, ?_, ?_, ?_, ?_⟩
    · rw [← hfam]; simp [l2F]
    · omega
    · simp; omega
    · omega
    · intro ψ hψ
      have hp2 : ψ ∉ famL p.2 := fun c => hψ (List.mem_append_right _ (by rw [← hfam]; exact l2F_mem (p := p) (by simp) c))
      rw [f7 ψ hp2]
      exact kp f6 (kp f5 (kp f4 (kp f3 (kp f2 hfr)))) ψ hψ
end Go.Proofs.YtmmhaiidcfgbbaaGreatDoor.E
