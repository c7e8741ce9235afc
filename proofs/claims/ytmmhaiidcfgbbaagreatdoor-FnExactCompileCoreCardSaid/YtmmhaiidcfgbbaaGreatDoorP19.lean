/- Copies of arguments that are owned. -/
import Derived.Test.YtmmhaiidcfgbbaaGreatDoorP18
set_option linter.unusedSectionVars false
set_option linter.unusedSimpArgs false
set_option linter.unusedVariables false
namespace Go.Proofs.YtmmhaiidcfgbbaaGreatDoor.E
open Go Go.RowKit
variable [L : Lam]
variable {σ τ : AH} {R : AEnd → AH → Prop}
theorem Fz.move {σ0 σ1 τ' : AH} {a b : AV} (h : Fz σ0 τ a b) (h0 : ∀ φ, σ0 φ = none → σ1 φ = none) (hm : ∀ φ F, σ0 φ = none → τ φ = some F → τ' φ = some F) : Fz σ1 τ' a b := by
  induction h with
  | same a => exact .same a
  | agg hl h ih => exact .agg hl ih
  | tup hl h ih => exact .tup hl ih
  | own hF hz hst hl hn hs h ih => exact .own (hm _ _ hz hF) (h0 _ hz) hst hl hn hs ih
  | ro hn hz h ih => exact .ro hn hz ih
  | ptr hF hz hst hi hlen hc h ih => exact .ptr (hm _ _ hz hF) (h0 _ hz) hst hi hlen hc ih
  | emp => exact .emp
  | nil => exact .nil
theorem MkD.move {σ0 σ1 τ' : AH} {a : AV} (h : MkD σ0 τ a) (h0 : ∀ φ, σ0 φ = none → σ1 φ = none) (hm : ∀ φ F, σ0 φ = none → τ φ = some F → τ' φ = some F) : MkD σ1 τ' a := by
  obtain ⟨φ, es, e1, e2, e3, e4, e5⟩ := h
  exact ⟨φ, es, e1, h0 _ e2, hm _ _ e2 e3, e4, e5⟩
theorem MkO.move {σ0 σ1 τ' : AH} {a : AV} (h : MkO σ0 τ a) (h0 : ∀ φ, σ0 φ = none → σ1 φ = none) (hm : ∀ φ F, σ0 φ = none → τ φ = some F → τ' φ = some F) : MkO σ1 τ' a := by
  obtain ⟨φ, es, e1, e2, e3, e4, e5⟩ := h
  exact ⟨φ, es, e1, h0 _ e2, hm _ _ e2 e3, e4, fun c hc => ⟨(e5 c hc).1, (e5 c hc).2.move h0 hm⟩⟩
/-- A loop that copies a slice of structures into memory of its own. -/
theorem copy_own {X : Type} {enc : X → List AV} {sz : Nat} {xs : List X} {f : FuncId} {z : List AV} {φ : Nat} (hl : ∀ x, (enc x).length = sz) (h1 : ∀ x y, y ∈ enc x → y.one = true) (hz : z.length = sz) (hn : xs.length ≤ 1048576)
    (hc : ∀ x, x ∈ xs → ∀ (σ : AH) (R : AEnd → AH → Prop), R (.ret (.agg (enc x))) σ → acall TP f [.agg (enc x)] σ R) (h : R (.ret (.own φ 0 0 xs.length)) (σ.set φ ⟨0, sz, xs.map enc⟩)) :
    lp (X := Tup [0, 3, 4]) (fun R1 y1 σ =>
      og (lenS y1.1) fun v10 =>
      og (ibin .lss y1.2.2.1 v10) fun v11 =>
      apick v11 (
        og (idx sz y1.1 y1.2.2.1 σ) fun v18 =>
        og (lodA sz v18 σ) fun v19 =>
        acall TP f [v19] σ (onr (fun v20 σ =>
        og (idx sz y1.2.1 y1.2.2.1 σ) fun v21 =>
        sto sz v21 v20 σ fun σ =>
        og (ibin .add y1.2.2.1 (iv 1)) fun v13 =>
        R1 (y1.1, y1.2.1, v13, ()) σ) (fun v σ => apan v σ R))) (
        aret y1.2.1 σ R)) (.ro (xs.map enc), .own φ 0 0 xs.length, iv 0, ()) (σ.set φ ⟨0, sz, List.replicate xs.length z⟩) := by
  refine lp_for xs.length (fun i => (.ro (xs.map enc), .own φ 0 0 xs.length, iv (i : Int), ())) (fun i σ' => σ' = σ.set φ ⟨0, sz, (xs.map enc).take i ++ List.replicate (xs.length - i) z⟩) rfl (by simp) ?_
  intro i σ' hi e R' hR'
  subst e
  by_cases hlt : i < xs.length
  · have g : (i : Int) < (xs.length : Int) := by omega
    simp only [len_ro, g, idx_ro hlt hl, lodA_all (hl _), RR]
    refine hc _ (List.getElem_mem hlt) _ _ ?_
    have hF := AH.set_same σ φ (⟨0, sz, (xs.map enc).take i ++ List.replicate (xs.length - i) z⟩ : Fam)
    simp only [idx_own hF hlt, RR]
    refine sto_own hF (by rw [len_rep (by simp) hi]; exact hlt) ?_ rfl (hl _) (h1 _) ?_
    · rw [getD_rep (by simp) hlt]; exact hz
    simp only [ibin_up hlt (by omega), RR, AH.set_set]
    refine hR' hlt _ _ (.refl _) ?_
    have := take_rep_set (xs := xs.map enc) (z := z) (by simp) hlt
    simp only [List.getElem_map] at this
    rw [this]
  · have g : ¬ (i : Int) < (xs.length : Int) := by omega
    obtain rfl : i = xs.length := by omega
    simp only [len_ro, g, RR]
    have e : (xs.map enc).take xs.length ++ List.replicate (xs.length - xs.length) z = xs.map enc := by
      rw [Nat.sub_self, List.replicate_zero, List.append_nil, List.take_of_length_le (by simp)]
    rw [e]
    exact ret_here h
set_option maxRecDepth 100000 in
theorem c_laws_toDatumS_own {ds : List Dat} (hb : ds.length ≤ 1048576) (h : ∀ φ, σ φ = none → R (.ret (.own φ 0 0 ds.length)) (σ.set φ ⟨0, 4, ds.map encDat⟩)) : acall TP fn_laws_toDatumS [roD ds] σ R := by
  refine s_laws_toDatumS_ok ?_
  unfold s_laws_toDatumS
  simp only [RR, len_ro]
  refine mk_LRiiisE (by omega) (by omega) (by omega) fun φ hφ => ?_
  simp only [Int.toNat_natCast]
  exact copy_own (f := fn_laws_toDatum) (z := [iv 0, iv 0, iv 0, str ⟨#[]⟩]) len_encDat one_encDat rfl hb (fun x hx σ R h => c_laws_toDatum h) (h φ hφ)
def encOpA (o : OpD) (a : AV) : List AV := [iv o.kind, iv o.a, iv o.b, iv o.c, iv o.d, str o.name, a]
/-- A row of cells that is a copy of an operation. -/
structure RowOk (σ1 τ : AH) (row : List AV) (o : OpD) : Prop where
  len : row.length = 7
  fz : ∀ j, j < 7 → Fz σ1 τ (row.getD j .any) ((encOp o).getD j .any)
  mkd : MkD σ1 τ (row.getD 6 .any)
theorem RowOk.move {σ0 σ1 τ' : AH} {row : List AV} {o : OpD} (h : RowOk σ0 τ row o) (h0 : ∀ φ, σ0 φ = none → σ1 φ = none) (hm : ∀ φ F, σ0 φ = none → τ φ = some F → τ' φ = some F) : RowOk σ1 τ' row o :=
  ⟨h.len, fun j hj => (h.fz j hj).move h0 hm, h.mkd.move h0 hm⟩
end Go.Proofs.YtmmhaiidcfgbbaaGreatDoor.E
