/- The harness of the laws whose results are numbers. -/
import Derived.Test.YtmmhaiidcfgbbaaGreatDoorP6
set_option linter.unusedSectionVars false
set_option linter.unusedSimpArgs false
set_option linter.unusedVariables false
namespace Go.Proofs.YtmmhaiidcfgbbaaGreatDoor.E
open Go Go.RowKit
variable [L : Lam]
variable {σ : AH} {R : AEnd → AH → Prop}
theorem lodA_all {cs : List AV} {n : Nat} (h : cs.length = n) : lodA n (.rop cs 0) σ = some (.agg cs) := by
  have := (At.rop σ cs).lodA (n := n) (by omega)
  rw [this, List.take_of_length_le (by omega)]
/-- A loop that copies a slice of structures. -/
theorem copy_ro {X : Type} {enc : X → List AV} {sz : Nat} {xs : List X} {f : FuncId} {z : List AV} {φ : Nat} (hl : ∀ x, (enc x).length = sz) (h1 : ∀ x y, y ∈ enc x → y.one = true) (hz : z.length = sz) (hn : xs.length ≤ 1048576)
    (hc : ∀ x, x ∈ xs → ∀ (σ : AH) (R : AEnd → AH → Prop), R (.ret (.agg (enc x))) σ → acall TP f [.agg (enc x)] σ R) (hφ : σ φ = none) (h : R (.ret (.ro (xs.map enc))) σ) :
    lp (X := Tup [0, 3, 4]) (fun R1 y1 σ =>
      og (lenS y1.1) fun v10 =>
      og (ibin .lss y1.2.2.1 v10) fun v11 =>
      apick v11 (
        og (idx sz y1.1 y1.2.2.1 σ) fun v18 =>
        og (lodA sz v18 σ) fun v19 =>
        acall TP f [v19] σ (onr (fun v20 σ =>
        og (idx sz y1.2.1 y1.2.2.1 σ) fun v21 =>
        sto sz v21 v20 σ fun σ =>
        og (ibin .add y1.2.2.1 (iv 1)) fun v13 =>
        R1 (y1.1, y1.2.1, v13, ()) σ) (fun v σ => apan v σ R))) (
        aret y1.2.1 σ R)) (.ro (xs.map enc), .own φ 0 0 xs.length, iv 0, ()) (σ.set φ ⟨0, sz, List.replicate xs.length z⟩) := by
  refine lp_for xs.length (fun i => (.ro (xs.map enc), .own φ 0 0 xs.length, iv (i : Int), ())) (fun i σ' => σ' = σ.set φ ⟨0, sz, (xs.map enc).take i ++ List.replicate (xs.length - i) z⟩) rfl (by simp) ?_
  intro i σ' hi e R' hR'
  subst e
  by_cases hlt : i < xs.length
  · have g : (i : Int) < (xs.length : Int) := by omega
    simp only [len_ro, g, idx_ro hlt hl, lodA_all (hl _), RR]
    refine hc _ (List.getElem_mem hlt) _ _ ?_
    have hF := AH.set_same σ φ (⟨0, sz, (xs.map enc).take i ++ List.replicate (xs.length - i) z⟩ : Fam)
    simp only [idx_own hF hlt, RR]
    refine sto_own hF (by rw [len_rep (by simp) hi]; exact hlt) ?_ rfl (hl _) (h1 _) ?_
    · rw [getD_rep (by simp) hlt]; exact hz
    simp only [ibin_up hlt (by omega), RR, AH.set_set]
    refine hR' hlt _ _ (.refl _) ?_
    have := take_rep_set (xs := xs.map enc) (z := z) (by simp) hlt
    simp only [List.getElem_map] at this
    rw [this]
  · have g : ¬ (i : Int) < (xs.length : Int) := by omega
    obtain rfl : i = xs.length := by omega
    simp only [len_ro, g, RR]
    have e : (xs.map enc).take xs.length ++ List.replicate (xs.length - xs.length) z = xs.map enc := by
      rw [Nat.sub_self, List.replicate_zero, List.append_nil, List.take_of_length_le (by simp)]
    rw [e]
    refine aret_freeze (σ0 := σ) (.set (.refl σ) _ hφ) (.own (AH.set_same ..) hφ rfl (by simp) (by simp) (fun j hj => ?_) (fun j k _ _ => by rw [Nat.zero_add]; exact .same _)) h
    simp [hj, hl]
/-! ### sizes -/
def bD (N : Nat) (ds : List Dat) : Prop := ds.length ≤ N ∧ ∀ d, d ∈ ds → d.name.size ≤ N
def bO (N : Nat) (os : List OpD) : Prop := os.length ≤ N ∧ ∀ o, o ∈ os → o.name.size ≤ N ∧ bD N o.data
def bC (N : Nat) (bs : List Blk) : Prop := bs.length ≤ N ∧ ∀ b, b ∈ bs → bO N b.ops
/-- A loop that counts what is left. -/
theorem count_ro {X : Type} {enc : X → List AV} {sz : Nat} {xs : List X} {f : FuncId} {l : Int} {Q : X → Prop} (hl : ∀ x, (enc x).length = sz) (hn : xs.length ≤ 9223372036854775807) (h0 : l ≤ 1048576)
    (hc : ∀ x, x ∈ xs → ∀ (σ : AH) (R : AEnd → AH → Prop) (l : Int), 0 ≤ l → l ≤ 1048576 → (∀ v : Int, -1 ≤ v → v ≤ l → (0 ≤ v → Q x) → R (.ret (iv v)) σ) → acall TP f [.agg (enc x), iv l] σ R)
    (h : ∀ v : Int, -1 ≤ v → v ≤ l → (0 ≤ v → ∀ x, x ∈ xs → Q x) → R (.ret (iv v)) σ) (hl0 : 0 ≤ l) :
    lp (X := Tup [0, 1, 5]) (fun R1 y1 σ =>
      og (lenS y1.1) fun v14 =>
      og (ibin .lss y1.2.2.1 v14) fun v15 =>
      apick v15 (
        og (idx sz y1.1 y1.2.2.1 σ) fun v20 =>
        og (lodA sz v20 σ) fun v21 =>
        acall TP f [v21, y1.2.1] σ (onr (fun v23 σ =>
        og (ibin .lss v23 (iv 0)) fun v25 =>
        apick v25 (
          aret (.val (.int .i64 (-1))) σ R) (
          og (ibin .add y1.2.2.1 (iv 1)) fun v17 =>
          R1 (y1.1, v23, v17, ()) σ)) (fun v σ => apan v σ R))) (
        aret y1.2.1 σ R)) (.ro (xs.map enc), iv l, iv 0, ()) σ := by
  refine lp_by (fun k x σ' => ∃ (i : Nat) (m : Int), x = (.ro (xs.map enc), iv m, iv (i : Int), ()) ∧ σ' = σ ∧ i + k = xs.length ∧ 0 ≤ m ∧ m ≤ l ∧ ∀ (j : Nat) (hj : j < xs.length), j < i → Q xs[j]) xs.length ⟨0, l, rfl, rfl, by omega, hl0, by omega, fun j hj h => by omega⟩ ?_
  rintro k x σ' ⟨i, m, rfl, rfl, hk, hm0, hm, hq⟩ R' hR'
  by_cases hlt : i < xs.length
  · have g : (i : Int) < (xs.length : Int) := by omega
    simp only [len_ro, g, idx_ro hlt hl, lodA_all (hl _), RR]
    refine hc _ (List.getElem_mem hlt) _ _ m hm0 (by omega) fun v h1 h2 h3 => ?_
    simp only [RR]
    by_cases c : v < 0
    · simp only [c, RR]
      exact ret_here (h (-1) (by omega) (by omega) (fun h => by omega))
    · simp only [c, ibin_up hlt (by omega), RR]
      refine hR' _ _ (k - 1) σ' (by omega) (.refl _) ⟨i + 1, v, rfl, rfl, by omega, by omega, by omega, fun j hj h4 => ?_⟩
      rcases Nat.lt_or_ge j i with h5 | h5
      · exact hq j hj h5
      · obtain rfl : j = i := by omega
        exact h3 (by omega)
  · have g : ¬ (i : Int) < (xs.length : Int) := by omega
    simp only [len_ro, g, RR]
    refine ret_here (h m (by omega) hm fun _ x hx => ?_)
    obtain ⟨j, hj, rfl⟩ := List.getElem_of_mem hx
    exact hq j hj (by omega)
/-- A loop that compares a list with itself. -/
theorem same_ro {X : Type} {enc : X → List AV} {sz : Nat} {xs : List X} {f : FuncId} (hl : ∀ x, (enc x).length = sz) (hn : xs.length ≤ 1048576)
    (hc : ∀ x, x ∈ xs → ∀ (σ : AH) (R : AEnd → AH → Prop), R (.ret (bv true)) σ → acall TP f [.agg (enc x), .agg (enc x)] σ R) (h : R (.ret (bv true)) σ) :
    lp (X := Tup [0, 1, 5]) (fun R1 y1 σ =>
      og (lenS y1.1) fun v13 =>
      og (ibin .lss y1.2.2.1 v13) fun v14 =>
      apick v14 (
        og (idx sz y1.1 y1.2.2.1 σ) fun v19 =>
        og (lodA sz v19 σ) fun v20 =>
        og (idx sz y1.2.1 y1.2.2.1 σ) fun v23 =>
        og (lodA sz v23 σ) fun v24 =>
        acall TP f [v20, v24] σ (onr (fun v25 σ =>
        (True) ∧
        og (aun .not v25) fun v26 =>
        apick v26 (
          aret (bv false) σ R) (
          og (ibin .add y1.2.2.1 (iv 1)) fun v16 =>
          R1 (y1.1, y1.2.1, v16, ()) σ)) (fun v σ => apan v σ R))) (
        aret (bv true) σ R)) (.ro (xs.map enc), .ro (xs.map enc), iv 0, ()) σ := by
  refine lp_same xs.length (fun i => (.ro (xs.map enc), .ro (xs.map enc), iv (i : Int), ())) (fun _ => True) rfl trivial ?_
  intro i hi _ R' hR'
  by_cases hlt : i < xs.length
  · have g : (i : Int) < (xs.length : Int) := by omega
    simp only [len_ro, g, idx_ro hlt hl, lodA_all (hl _), RR]
    refine hc _ (List.getElem_mem hlt) _ _ ?_
    simp only [ibin_up hlt (by omega), RR]
    exact ⟨trivial, hR' hlt trivial _ (.refl _)⟩
  · have g : ¬ (i : Int) < (xs.length : Int) := by omega
    simp only [len_ro, g, RR]
    exact ret_here h
/-! ### the counts -/
theorem c_laws_szDatum {d : Dat} {l : Int} (h0 : 0 ≤ l) (h1 : l ≤ 1048576) (hb : d.name.size ≤ 9223372036854775807) (h : ∀ v : Int, -1 ≤ v → v ≤ l → (0 ≤ v → d.name.size ≤ 1048576) → R (.ret (iv v)) σ) : acall TP fn_laws_szDatum [.agg (encDat d), iv l] σ R := by
  refine s_laws_szDatum_ok ?_
  unfold s_laws_szDatum
  refine box_encDat ?_
  have e : ibin .sub (iv l) (.val (.int .i64 d.name.size)) = some (iv (l - d.name.size)) := ibin_sub (by omega) (by omega)
  simp only [RR, RT, e]
  refine apick_cases (fun c => ?_) (fun c => ?_)
  · exact ret_here (h _ (by omega) (by omega) (fun h => by omega))
  · have := of_decide_eq_false c
    exact ret_here (h _ (by omega) (by omega) (fun h => by omega))
theorem c_laws_szDatumS {ds : List Dat} {l : Int} (h0 : 0 ≤ l) (h1 : l ≤ 1048576) (hb : bD 9223372036854775807 ds) (h : ∀ v : Int, -1 ≤ v → v ≤ l → (0 ≤ v → bD 1048576 ds) → R (.ret (iv v)) σ) : acall TP fn_laws_szDatumS [roD ds, iv l] σ R := by
  refine s_laws_szDatumS_ok ?_
  unfold s_laws_szDatumS
  have := hb.1
  have e : ibin .sub (iv l) (.val (.int .i64 ds.length)) = some (iv (l - ds.length)) := ibin_sub (by omega) (by omega)
  simp only [RR, len_ro, e]
  refine apick_cases (fun c => ?_) (fun c => ?_)
  · exact ret_here (h _ (by omega) (by omega) (fun h => by omega))
  have := of_decide_eq_false c
  exact count_ro (f := fn_laws_szDatum) (Q := fun x => x.name.size ≤ 1048576) len_encDat hb.1 (by omega) (fun x hx σ R l h0 h1 h => c_laws_szDatum h0 h1 (hb.2 x hx) h) (fun v h1 h2 h3 => h v h1 (by omega) fun h4 => ⟨by omega, h3 h4⟩) (by omega)
theorem acells_one {v : AV} (h : v.one = true) : acells v = some [v] := by
  cases v <;> first | rfl | (cases h) | (rename_i u; cases u <;> first | rfl | cases h)
theorem sto_cell {φ n off : Nat} {zs : List AV} {v : AV} {k : AH → Prop} (ho : off < n) (h1 : v.one = true) (h : k (σ.set φ ⟨0, n, [zs.set off v]⟩)) : sto 1 (.ptr φ 0 0 off) v (σ.set φ ⟨0, n, [zs]⟩) k := by
  refine sto_fld (es := [zs]) (cs := zs) (AH.set_same ..) rfl ho (acells_one h1) h1 ?_
  simp only [List.set_cons_zero, AH.set_set]
  exact h
/-- The frame of a function that copies a structure: its box, its result, the copy. -/
theorem conv_frame {x : AV} {xs z1 z2 : List AV} {k : AV → AV → AV → AH → Prop} (hx : acells x = some xs)
    (h : ∀ φ2 φ3 : Nat, φ2 ≠ φ3 → σ φ2 = none → σ φ3 = none → k (.rop xs 0) (.ptr φ2 0 0 0) (.ptr φ3 0 0 0) ((σ.set φ2 ⟨0, z1.length, [z1]⟩).set φ3 ⟨0, z2.length, [z2]⟩)) :
    abox x σ fun v1 σ => new z1 σ fun v2 σ => frz v1 σ fun f1 σ => new z2 σ fun v3 σ => k f1 v2 v3 σ := by
  unfold abox; rw [hx]
  intro φ1 h1
  intro φ2 h2
  rw [AH.set_none] at h2
  rw [AH.set_comm _ _ _ (Ne.symm h2.1)]
  refine frz_cell (AH.set_none.2 ⟨Ne.symm h2.1, h1⟩) rfl ?_
  intro φ3 h3
  rw [AH.set_none] at h3
  exact h φ2 φ3 (Ne.symm h3.1) h2.2 h3.2
/-- Its end. -/
theorem conv_end {φ2 φ3 n : Nat} {z cs : List AV} (hne : φ2 ≠ φ3) (h2 : σ φ2 = none) (h3 : σ φ3 = none) (hz : z.length = n) (hc : cs.length = n) (h1 : ∀ x, x ∈ cs → x.one = true) (h : R (.ret (.agg cs)) σ) :
    frz (.ptr φ3 0 0 0) ((σ.set φ2 ⟨0, n, [z]⟩).set φ3 ⟨0, n, [cs]⟩) fun f3 σ => og (lodA n f3 σ) fun v16 => sto n (.ptr φ2 0 0 0) v16 σ fun σ => og (lodA n (.ptr φ2 0 0 0) σ) fun r2 => aret r2 σ R := by
  refine frz_cell (AH.set_none.2 ⟨Ne.symm hne, h3⟩) hc ?_
  simp only [lodA_all hc, RR]
  exact fin_cell h2 hz hc h1 h
theorem c_laws_toDatum {d : Dat} (h : R (.ret (.agg (encDat d))) σ) : acall TP fn_laws_toDatum [.agg (encDat d)] σ R := by
  refine s_laws_toDatum_ok ?_
  unfold s_laws_toDatum
  refine conv_frame rfl fun φ2 φ3 hne h2 h3 => ?_
  simp only [RR, RT]
  refine sto_cell (by decide) rfl ?_
  refine sto_cell (by decide) rfl ?_
  refine sto_cell (by decide) rfl ?_
  refine sto_cell (by decide) rfl ?_
  exact conv_end hne h2 h3 rfl (len_encDat d) (one_encDat d) h
set_option maxRecDepth 100000 in
theorem c_laws_toDatumS {ds : List Dat} (hb : ds.length ≤ 1048576) (h : R (.ret (roD ds)) σ) : acall TP fn_laws_toDatumS [roD ds] σ R := by
  refine s_laws_toDatumS_ok ?_
  unfold s_laws_toDatumS
  simp only [RR, len_ro]
  refine mk_LRiiisE (by omega) (by omega) (by omega) fun φ hφ => ?_
  simp only [Int.toNat_natCast]
  exact copy_ro (f := fn_laws_toDatum) (z := [iv 0, iv 0, iv 0, str ⟨#[]⟩]) len_encDat one_encDat rfl hb (fun x hx σ R h => c_laws_toDatum h) hφ h
set_option maxRecDepth 100000 in
set_option maxRecDepth 100000 in
theorem dec_self {α : Type} [DecidableEq α] (a : α) : (!decide (a = a)) = false := by simp
theorem box2_frz {x y : AV} {xs ys : List AV} {k : AV → AV → AH → Prop} (hx : acells x = some xs) (hy : acells y = some ys) (h : k (.rop xs 0) (.rop ys 0) σ) :
    abox x σ fun v2 σ => abox y σ fun v3 σ => frz v2 σ fun f2 σ => frz v3 σ fun f3 σ => k f2 f3 σ := by
  unfold abox; rw [hx, hy]
  intro φ1 h1 φ2 h2
  rw [AH.set_none] at h2
  rw [AH.set_comm _ _ _ (Ne.symm h2.1)]
  refine frz_cell (AH.set_none.2 ⟨Ne.symm h2.1, h1⟩) rfl ?_
  exact frz_cell h2.2 rfl h
theorem c_laws_eqDatum {d : Dat} (h : R (.ret (bv true)) σ) : acall TP fn_laws_eqDatum [.agg (encDat d), .agg (encDat d)] σ R := by
  refine s_laws_eqDatum_ok ?_
  unfold s_laws_eqDatum
  refine box2_frz rfl rfl ?_
  simp only [RR, RT, dec_self, sbin_neq']
  exact ret_here h
theorem c_laws_eqDatumS {ds : List Dat} (hb : ds.length ≤ 1048576) (h : R (.ret (bv true)) σ) : acall TP fn_laws_eqDatumS [roD ds, roD ds] σ R := by
  refine s_laws_eqDatumS_ok ?_
  unfold s_laws_eqDatumS
  simp only [RR, len_ro, dec_self]
  exact same_ro (f := fn_laws_eqDatum) len_encDat hb (fun x hx σ R h => c_laws_eqDatum h) h
theorem c_laws_eqOp {o : OpD} (hb : o.data.length ≤ 1048576) (h : R (.ret (bv true)) σ) : acall TP fn_laws_eqOp [.agg (encOp o), .agg (encOp o)] σ R := by
  refine s_laws_eqOp_ok ?_
  unfold s_laws_eqOp
  refine box2_frz rfl rfl ?_
  simp only [RR, RT, dec_self, sbin_neq']
  refine c_laws_eqDatumS hb ?_
  simp only [RR]
  exact ret_here h
theorem c_laws_eqOpS {os : List OpD} (hb : bO 1048576 os) (h : R (.ret (bv true)) σ) : acall TP fn_laws_eqOpS [roO os, roO os] σ R := by
  refine s_laws_eqOpS_ok ?_
  unfold s_laws_eqOpS
  simp only [RR, len_ro, dec_self]
  exact same_ro (f := fn_laws_eqOp) len_encOp hb.1 (fun x hx σ R h => c_laws_eqOp (hb.2 x hx).2.1 h) h
theorem c_laws_eqBlock {b : Blk} (hb : bO 1048576 b.ops) (h : R (.ret (bv true)) σ) : acall TP fn_laws_eqBlock [.agg (encBlk b), .agg (encBlk b)] σ R := by
  refine s_laws_eqBlock_ok ?_
  unfold s_laws_eqBlock
  refine box2_frz rfl rfl ?_
  simp only [RR, RT, dec_self]
  refine c_laws_eqOpS hb ?_
  simp only [RR]
  exact ret_here h
theorem c_laws_eqBlockS {bs : List Blk} (hb : bC 1048576 bs) (h : R (.ret (bv true)) σ) : acall TP fn_laws_eqBlockS [roBk bs, roBk bs] σ R := by
  refine s_laws_eqBlockS_ok ?_
  unfold s_laws_eqBlockS
  simp only [RR, len_ro, dec_self]
  exact same_ro (f := fn_laws_eqBlock) len_encBlk hb.1 (fun x hx σ R h => c_laws_eqBlock (hb.2 x hx) h) h
/-- The end of a function whose result is a code and a number. -/
theorem fin_int {φ : Nat} {a b : Int} {z : List AV} (hφ : σ φ = none) (hz : z.length = 2) (h : R (.ret (.agg [iv a, iv b])) σ) :
    sto 2 (.ptr φ 0 0 0) (.agg [iv a, iv b]) (σ.set φ ⟨0, 2, [z]⟩) fun σ => og (lodA 2 (.ptr φ 0 0 0) σ) fun r => aret r σ R := fin_cell hφ hz rfl (one2 rfl rfl) h
theorem opsF_len {bs : List Blk} (h : opsF bs = 0) : bs.length ≤ 60 ∧ ∀ b, b ∈ bs → b.ops.length ≤ 200 := by
  unfold opsF at h
  split at h
  · cases h
  refine ⟨by omega, fun b hb => ?_⟩
  obtain ⟨i, hi, rfl⟩ := List.getElem_of_mem hb
  have := firstF_zero _ _ h i (Nat.zero_le _) (by omega)
  rw [← blk_at hi] at this
  unfold blkF at this
  split at this
  · cases this
  split at this
  · cases this
  omega
theorem lodP {v : AV} {σ : AH} {o : Nat} {cs : List AV} (h : cs[o]? = some v) : lod (.rop cs o) σ = some v := by
  have : cs.drop o = v :: cs.drop (o + 1) := by
    obtain ⟨h1, h2⟩ := List.getElem?_eq_some_iff.1 h
    rw [← h2, List.drop_eq_getElem_cons h1]
  simp [lod, acellsAt, this]
theorem bC_sC {bs : List Blk} (h : bC 1048576 bs) : sC bs := fun b hb o ho => ⟨by have := ((h.2 b hb).2 o ho).1; omega, fun d hd => by have := ((h.2 b hb).2 o ho).2.2 d hd; omega⟩
end Go.Proofs.YtmmhaiidcfgbbaaGreatDoor.E
