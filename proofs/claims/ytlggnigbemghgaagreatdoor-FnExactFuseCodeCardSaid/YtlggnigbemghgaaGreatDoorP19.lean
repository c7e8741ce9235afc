/- Copies of arguments that are owned. -/
import Derived.Test.YtlggnigbemghgaaGreatDoorP18
set_option linter.unusedSectionVars false
set_option linter.unusedSimpArgs false
set_option linter.unusedVariables false
namespace Go.Proofs.YtlggnigbemghgaaGreatDoor.E
open Go Go.RowKit
variable [L : Lam]
variable {σ τ : AH} {R : AEnd → AH → Prop}
theorem Fz.move {σ0 σ1 τ' : AH} {a b : AV} (h : Fz σ0 τ a b) (h0 : ∀ φ, σ0 φ = none → σ1 φ = none) (hm : ∀ φ F, σ0 φ = none → τ φ = some F → τ' φ = some F) : Fz σ1 τ' a b := by
  induction h with
  | same a => exact .same a
  | agg hl h ih => exact .agg hl ih
  | tup hl h ih => exact .tup hl ih
  | own hF hz hst hl hn hs h ih => exact .own (hm _ _ hz hF) (h0 _ hz) hst hl hn hs ih
  | ro hn hz h ih => exact .ro hn hz ih
  | ptr hF hz hst hi hlen hc h ih => exact .ptr (hm _ _ hz hF) (h0 _ hz) hst hi hlen hc ih
  | emp => exact .emp
  | nil => exact .nil
theorem MkD.move {σ0 σ1 τ' : AH} {a : AV} (h : MkD σ0 τ a) (h0 : ∀ φ, σ0 φ = none → σ1 φ = none) (hm : ∀ φ F, σ0 φ = none → τ φ = some F → τ' φ = some F) : MkD σ1 τ' a := by
  obtain ⟨φ, es, e1, e2, e3, e4, e5⟩ := h
  exact ⟨φ, es, e1, h0 _ e2, hm _ _ e2 e3, e4, e5⟩
theorem MkO.move {σ0 σ1 τ' : AH} {a : AV} (h : MkO σ0 τ a) (h0 : ∀ φ, σ0 φ = none → σ1 φ = none) (hm : ∀ φ F, σ0 φ = none → τ φ = some F → τ' φ = some F) : MkO σ1 τ' a := by
  obtain ⟨φ, es, e1, e2, e3, e4, e5⟩ := h
  exact ⟨φ, es, e1, h0 _ e2, hm _ _ e2 e3, e4, fun c hc => ⟨(e5 c hc).1, (e5 c hc).2.move h0 hm⟩⟩
/-- A loop that copies a slice of structures into memory of its own. -/
theorem copy_own {X : Type} {enc : X → List AV} {sz : Nat} {xs : List X} {f : FuncId} {z : List AV} {φ : Nat} (hl : ∀ x, (enc x).length = sz) (h1 : ∀ x y, y ∈ enc x → y.one = true) (hz : z.length = sz) (hn : xs.length ≤ 1048576)
    (hc : ∀ x, x ∈ xs → ∀ (σ : AH) (R : AEnd → AH → Prop), R (.ret (.agg (enc x))) σ → acall TP f [.agg (enc x)] σ R) (h : R (.ret (.own φ 0 0 xs.length)) (σ.set φ ⟨0, sz, xs.map enc⟩)) :
    lp (X := Tup [0, 3, 4]) (fun R1 y1 σ =>
      og (lenS y1.1) fun v10 =>
      og (ibin .lss y1.2.2.1 v10) fun v11 =>
      apick v11 (
        og (idx sz y1.1 y1.2.2.1 σ) fun v18 =>
        og (lodA sz v18 σ) fun v19 =>
        acall TP f [v19] σ (onr (fun v20 σ =>
        og (idx sz y1.2.1 y1.2.2.1 σ) fun v21 =>
        sto sz v21 v20 σ fun σ =>
        og (ibin .add y1.2.2.1 (iv 1)) fun v13 =>
        R1 (y1.1, y1.2.1, v13, ()) σ) (fun v σ => apan v σ R))) (
        aret y1.2.1 σ R)) (.ro (xs.map enc), .own φ 0 0 xs.length, iv 0, ()) (σ.set φ ⟨0, sz, List.replicate xs.length z⟩) := by
  refine lp_for xs.length (fun i => (.ro (xs.map enc), .own φ 0 0 xs.length, iv (i : Int), ())) (fun i σ' => σ' = σ.set φ ⟨0, sz, (xs.map enc).take i ++ List.replicate (xs.length - i) z⟩) rfl (by simp) ?_
  intro i σ' hi e R' hR'
  subst e
  by_cases hlt : i < xs.length
  · have g : (i : Int) < (xs.length : Int) := by omega
    simp only [len_ro, g, idx_ro hlt hl, lodA_all (hl _), RR]
    refine hc _ (List.getElem_mem hlt) _ _ ?_
    have hF := AH.set_same σ φ (⟨0, sz, (xs.map enc).take i ++ List.replicate (xs.length - i) z⟩ : Fam)
    simp only [idx_own hF hlt, RR]
    refine sto_own hF (by rw [len_rep (by simp) hi]; exact hlt) ?_ rfl (hl _) (h1 _) ?_
    · rw [getD_rep (by simp) hlt]; exact hz
    simp only [ibin_up hlt (by omega), RR, AH.set_set]
    refine hR' hlt _ _ (.refl _) ?_
    have := take_rep_set (xs := xs.map enc) (z := z) (by simp) hlt
    simp only [List.getElem_map] at this
    rw [this]
  · have g : ¬ (i : Int) < (xs.length : Int) := by omega
    obtain rfl : i = xs.length := by omega
    simp only [len_ro, g, RR]
    have e : (xs.map enc).take xs.length ++ List.replicate (xs.length - xs.length) z = xs.map enc := by
      rw [Nat.sub_self, List.replicate_zero, List.append_nil, List.take_of_length_le (by simp)]
    rw [e]
    exact ret_here h
set_option maxRecDepth 100000 in
theorem c_laws_toDatumS_own {ds : List Dat} (hb : ds.length ≤ 1048576) (h : ∀ φ, σ φ = none → R (.ret (.own φ 0 0 ds.length)) (σ.set φ ⟨0, 4, ds.map encDat⟩)) : acall TP fn_laws_toDatumS [roD ds] σ R := by
  refine s_laws_toDatumS_ok ?_
  unfold s_laws_toDatumS
  simp only [RR, len_ro]
  refine mk_LRiiisE (by omega) (by omega) (by omega) fun φ hφ => ?_
  simp only [Int.toNat_natCast]
  exact copy_own (f := fn_laws_toDatum) (z := [iv 0, iv 0, iv 0, str ⟨#[]⟩]) len_encDat one_encDat rfl hb (fun x hx σ R h => c_laws_toDatum h) (h φ hφ)
def encOpA (o : OpD) (a : AV) : List AV := [iv o.kind, iv o.a, iv o.b, iv o.c, iv o.d, str o.name, a]
theorem c_laws_toOp_own {o : OpD} (hb : o.data.length ≤ 1048576) (h : ∀ φ, σ φ = none → R (.ret (.agg (encOpA o (.own φ 0 0 o.data.length)))) (σ.set φ ⟨0, 4, o.data.map encDat⟩)) : acall TP fn_laws_toOp [.agg (encOp o)] σ R := by
  refine s_laws_toOp_ok ?_
  unfold s_laws_toOp
  refine conv_frame rfl fun φ2 φ3 hne h2 h3 => ?_
  simp only [RR, RT]
  refine sto_cell (by decide) rfl ?_
  refine sto_cell (by decide) rfl ?_
  refine sto_cell (by decide) rfl ?_
  refine sto_cell (by decide) rfl ?_
  refine sto_cell (by decide) rfl ?_
  refine sto_cell (by decide) rfl ?_
  refine c_laws_toDatumS_own hb fun φd hd => ?_
  rw [AH.set_none, AH.set_none] at hd
  simp only [RR]
  rw [AH.set_comm _ _ _ (Ne.symm hd.1), AH.set_comm _ _ _ (Ne.symm hd.2.1)]
  refine sto_cell (by decide) rfl ?_
  refine conv_end (cs := encOpA o (.own φd 0 0 o.data.length)) hne (AH.set_none.2 ⟨Ne.symm hd.2.1, h2⟩) (AH.set_none.2 ⟨Ne.symm hd.1, h3⟩) rfl rfl ?_ (h φd hd.2.2)
  intro y hy
  simp only [encOpA, List.mem_cons, List.not_mem_nil, or_false] at hy
  rcases hy with rfl | rfl | rfl | rfl | rfl | rfl | rfl <;> rfl
/-- A row of cells that is a copy of an operation. -/
structure RowOk (σ1 τ : AH) (row : List AV) (o : OpD) : Prop where
  len : row.length = 7
  fz : ∀ j, j < 7 → Fz σ1 τ (row.getD j .any) ((encOp o).getD j .any)
  mkd : MkD σ1 τ (row.getD 6 .any)
theorem RowOk.move {σ0 σ1 τ' : AH} {row : List AV} {o : OpD} (h : RowOk σ0 τ row o) (h0 : ∀ φ, σ0 φ = none → σ1 φ = none) (hm : ∀ φ F, σ0 φ = none → τ φ = some F → τ' φ = some F) : RowOk σ1 τ' row o :=
  ⟨h.len, fun j hj => (h.fz j hj).move h0 hm, h.mkd.move h0 hm⟩
set_option maxRecDepth 100000 in
theorem c_laws_toOpS_own {os : List OpD} (hb : bO 1048576 os) (h : ∀ a τ, MkO σ τ a → Fz σ τ a (roO os) → AH.Sub σ τ → R (.ret a) τ) : acall TP fn_laws_toOpS [roO os] σ R := by
  have hl := hb.1
  refine s_laws_toOpS_ok ?_
  unfold s_laws_toOpS
  simp only [RR, len_ro]
  refine mk_LRiiiiisLRiiisEE (by omega) (by omega) (by omega) fun φ hφ => ?_
  simp only [Int.toNat_natCast]
  refine lp_rel os.length (fun i x τ => ∃ rows : List (List AV), rows.length = i ∧ x = (roO os, .own φ 0 0 os.length, iv (i : Int), ()) ∧ τ φ = some ⟨0, 7, rows ++ List.replicate (os.length - i) [iv 0, iv 0, iv 0, iv 0, iv 0, str ⟨#[]⟩, nilS]⟩ ∧
      AH.Sub σ τ ∧ ∀ k, k < i → RowOk (σ.set φ ⟨0, 7, []⟩) τ (rows.getD k []) (opA os k)) ⟨[], rfl, rfl, by rw [AH.set_same]; rfl, .set (.refl σ) _ hφ, fun k hk => by omega⟩ ?_
  rintro i _ τ hi ⟨rows, hrl, rfl, hF, hsub, hrow⟩ R' hR'
  by_cases hlt : i < os.length
  · have g : (i : Int) < (os.length : Int) := by omega
    have eo : opA os i = os[i] := (op_at hlt).symm
    simp only [len_ro, g, idx_ro hlt len_encOp, lodA_all (len_encOp _), RR]
    refine c_laws_toOp_own (hb.2 _ (List.getElem_mem hlt)).2.1 fun φd hd => ?_
    have hne : φ ≠ φd := by rintro rfl; rw [hF] at hd; cases hd
    have hF2 : (τ.set φd ⟨0, 4, os[i].data.map encDat⟩) φ = some ⟨0, 7, rows ++ List.replicate (os.length - i) [iv 0, iv 0, iv 0, iv 0, iv 0, str ⟨#[]⟩, nilS]⟩ := by rw [AH.set_ne' hne]; exact hF
    have ix := idx_own (st := 0) (off := 0) hF2 hlt
    rw [Nat.zero_add] at ix
    simp only [ix, RR]
    refine sto_own (cs := encOpA os[i] (.own φd 0 0 os[i].data.length)) hF2 (by simp; omega) ?_ rfl rfl ?_ ?_
    · rw [getD_end hrl (by omega)]; rfl
    · intro y hy
      simp only [encOpA, List.mem_cons, List.not_mem_nil, or_false] at hy
      rcases hy with rfl | rfl | rfl | rfl | rfl | rfl | rfl <;> rfl
    rw [set_end hrl (by omega)]
    simp only [ibin_up hlt (by omega), RR]
    have hmv : ∀ ψ F, (σ.set φ ⟨0, 7, []⟩) ψ = none → τ ψ = some F → ((τ.set φd ⟨0, 4, os[i].data.map encDat⟩).set φ ⟨0, 7, rows ++ encOpA os[i] (.own φd 0 0 os[i].data.length) :: List.replicate (os.length - i - 1) [iv 0, iv 0, iv 0, iv 0, iv 0, str ⟨#[]⟩, nilS]⟩) ψ = some F := by
      intro ψ F h1 h2
      rw [AH.set_none] at h1
      have : ¬ ψ = φd := by rintro rfl; rw [hd] at h2; cases h2
      rw [AH.set_ne' h1.1, AH.set_ne' this]; exact h2
    refine hR' _ _ _ hlt (.refl _) ⟨rows ++ [encOpA os[i] (.own φd 0 0 os[i].data.length)], by simp [hrl], rfl, ?_, ?_, fun k hk => ?_⟩
    · rw [AH.set_same]
      simp only [List.append_assoc, List.singleton_append]
      rw [show os.length - i - 1 = os.length - (i + 1) by omega]
    · intro ψ F h1
      have n1 : ¬ ψ = φ := by rintro rfl; rw [hφ] at h1; cases h1
      have h2 := hsub ψ F h1
      have n2 : ¬ ψ = φd := by rintro rfl; rw [hd] at h2; cases h2
      rw [AH.set_ne' n1, AH.set_ne' n2]; exact h2
    · rcases Nat.lt_or_ge k i with h1 | h1
      · have e : (rows ++ [encOpA os[i] (.own φd 0 0 os[i].data.length)]).getD k [] = rows.getD k [] := by simp [List.getD, List.getElem?_append, show k < rows.length by omega]
        rw [e]
        exact (hrow k h1).move (fun _ h => h) hmv
      · obtain rfl : k = i := by omega
        have e : (rows ++ [encOpA os[k] (.own φd 0 0 os[k].data.length)]).getD k [] = encOpA os[k] (.own φd 0 0 os[k].data.length) := by simp [List.getD, List.getElem?_append, hrl]
        rw [e, eo]
        have hFd : ((τ.set φd ⟨0, 4, os[k].data.map encDat⟩).set φ ⟨0, 7, rows ++ encOpA os[k] (.own φd 0 0 os[k].data.length) :: List.replicate (os.length - k - 1) [iv 0, iv 0, iv 0, iv 0, iv 0, str ⟨#[]⟩, nilS]⟩) φd = some ⟨0, 4, os[k].data.map encDat⟩ := by
          rw [AH.set_ne' (Ne.symm hne), AH.set_same]
        have h0d : (σ.set φ ⟨0, 7, []⟩) φd = none := AH.set_none.2 ⟨Ne.symm hne, hsub.none hd⟩
        refine ⟨rfl, fun j hj => ?_, ⟨φd, os[k].data.map encDat, by simp [encOpA], h0d, hFd, by simpa using (hb.2 _ (List.getElem_mem hlt)).2.1, fun c hc => by obtain ⟨x, _, rfl⟩ := List.mem_map.1 hc; rfl⟩⟩
        match j, hj with
        | 0, _ => exact .same _
        | 1, _ => exact .same _
        | 2, _ => exact .same _
        | 3, _ => exact .same _
        | 4, _ => exact .same _
        | 5, _ => exact .same _
        | 6, _ =>
          refine .own hFd h0d rfl (by simp) (by simp) (fun i hi => ?_) (fun i j _ _ => by rw [Nat.zero_add]; exact .same _)
          simp [hi, len_encDat]
  · have g : ¬ (i : Int) < (os.length : Int) := by omega
    obtain rfl : i = os.length := by omega
    simp only [len_ro, g, RR]
    rw [Nat.sub_self, List.replicate_zero, List.append_nil] at hF
    have hdn : ∀ ψ, (σ.set φ ⟨0, 7, []⟩) ψ = none → σ ψ = none := fun ψ h => (AH.set_none.1 h).2
    have hrow' : ∀ k, k < os.length → RowOk σ τ (rows.getD k []) (opA os k) := fun k hk => (hrow k hk).move hdn fun _ _ _ h => h
    have hmem : ∀ c, c ∈ rows → c.length = 7 ∧ MkD σ τ (c.getD 6 .any) := by
      intro c hc
      obtain ⟨k, hk, rfl⟩ := List.getElem_of_mem hc
      have e : rows.getD k [] = rows[k] := by simp [List.getD, hk]
      have := hrow' k (by omega)
      rw [e] at this
      exact ⟨this.len, this.mkd⟩
    refine ret_here (h _ τ ⟨φ, rows, by rw [hrl], hφ, hF, by omega, hmem⟩ (.own hF hφ rfl (by simp only; omega) (by simp) (fun k hk => by simp [hk, len_encOp]) fun k j hk hj => ?_) hsub)
    have := (hrow' k hk).fz j hj
    rw [Nat.zero_add]
    have e : (os.map encOp).getD k [] = encOp (opA os k) := by simp [List.getD, hk, opA]
    rw [e]
    exact this
theorem c_laws_toBlock_own {b : Blk} (hb : bO 1048576 b.ops) (h : ∀ a τ, MkO σ τ a → Fz σ τ a (roO b.ops) → AH.Sub σ τ → R (.ret (.agg [iv b.args, a])) τ) : acall TP fn_laws_toBlock [.agg (encBlk b)] σ R := by
  refine s_laws_toBlock_ok ?_
  unfold s_laws_toBlock
  refine conv_frame rfl fun φ2 φ3 hne h2 h3 => ?_
  simp only [RR, RT]
  refine sto_cell (by decide) rfl ?_
  refine c_laws_toOpS_own hb fun a τ hM hZ hS => ?_
  have h23 : ∀ ψ, ((σ.set φ2 ⟨0, [AV.val (Value.int IntKind.i64 0), AV.val (Value.slice none 0 0)].length, [[AV.val (Value.int IntKind.i64 0), AV.val (Value.slice none 0 0)]]⟩).set φ3 ⟨0, 2, [[AV.val (Value.int IntKind.i64 0), AV.val (Value.slice none 0 0)].set 0 (iv b.args)]⟩) ψ = none ↔ ψ ≠ φ3 ∧ ψ ≠ φ2 ∧ σ ψ = none := fun ψ => by rw [AH.set_none, AH.set_none]
  have hF3 : τ φ3 = some ⟨0, 2, [[iv b.args, nilS]]⟩ := hS _ _ (AH.set_same ..)
  have hF2 : τ φ2 = some ⟨0, 2, [[iv 0, nilS]]⟩ := hS _ _ (by rw [AH.set_ne' hne, AH.set_same]; rfl)
  have ha1 : a.one = true := by obtain ⟨φ, es, rfl, _⟩ := hM; rfl
  simp only [RR]
  refine sto_fld hF3 rfl (by decide) (acells_one ha1) ha1 ?_
  have hd3 : ∀ ψ, ψ ≠ φ3 → ((τ.set φ3 ⟨0, 2, [[iv b.args, a]]⟩).del φ3) ψ = τ ψ := fun ψ hn => by rw [AH.del_ne _ hn, AH.set_ne' hn]
  refine ⟨.rop [iv b.args, a] 0, (τ.set φ3 ⟨0, 2, [[iv b.args, a]]⟩).del φ3, .del _ _, .ptr (AH.set_same ..) (AH.del_same ..) rfl (by simp) rfl rfl (fun j hj => .same _), ?_⟩
  simp only [lodA_all (cs := [iv b.args, a]) (n := 2) rfl, RR]
  refine sto_own (es := [[iv 0, nilS]]) (cs := [iv b.args, a]) (by rw [hd3 _ hne]; exact hF2) (by simp) rfl rfl rfl (one2 rfl ha1) ?_
  have e := lodA_at (σ := ((τ.set φ3 ⟨0, 2, [[iv b.args, a]]⟩).del φ3).set φ2 ⟨0, 2, [[iv 0, nilS]].set 0 [iv b.args, a]⟩) (φ := φ2) (st := 0) (i := 0) (n := 2) (cs := [iv b.args, a]) (AH.set_same ..) rfl rfl rfl
  simp only [e, RR]
  have hmv : ∀ ψ F, ψ ≠ φ3 → ψ ≠ φ2 → τ ψ = some F → (((τ.set φ3 ⟨0, 2, [[iv b.args, a]]⟩).del φ3).set φ2 ⟨0, 2, [[iv 0, nilS]].set 0 [iv b.args, a]⟩) ψ = some F := fun ψ F n3 n2 hF => by rw [AH.set_ne' n2, hd3 _ n3]; exact hF
  refine ret_here (h a _ (hM.move (fun ψ hψ => ((h23 ψ).1 hψ).2.2) fun ψ F h0 hF => hmv ψ F ((h23 ψ).1 h0).1 ((h23 ψ).1 h0).2.1 hF) (hZ.move (fun ψ hψ => ((h23 ψ).1 hψ).2.2) fun ψ F h0 hF => hmv ψ F ((h23 ψ).1 h0).1 ((h23 ψ).1 h0).2.1 hF) fun ψ F hF => ?_)
  have n3 : ψ ≠ φ3 := by rintro rfl; rw [h3] at hF; cases hF
  have n2 : ψ ≠ φ2 := by rintro rfl; rw [h2] at hF; cases hF
  refine hmv ψ F n3 n2 (hS ψ F ?_)
  rw [AH.set_ne' n3, AH.set_ne' n2]
  exact hF
end Go.Proofs.YtlggnigbemghgaaGreatDoor.E
