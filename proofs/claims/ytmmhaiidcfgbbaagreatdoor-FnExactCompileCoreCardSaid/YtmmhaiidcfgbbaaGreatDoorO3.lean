/- Code that is owned: marks of blocks, what is held, copies of arguments, what is lent. -/
import Derived.Test.YtmmhaiidcfgbbaaGreatDoorO2
set_option linter.unusedSectionVars false
set_option linter.unusedSimpArgs false
set_option linter.unusedVariables false
namespace Go.Proofs.YtmmhaiidcfgbbaaGreatDoor.E
open Go Go.RowKit
set_option maxRecDepth 100000
variable [L : Lam]
abbrev encBI (b : BI) : List AV := [iv b.args, b.av]
def blksK (k : Int) : List Blk → Int
  | [] => k
  | b :: r => blksK (opsK (k + 1) b.ops) r
def mkBksD (k : Int) : List Blk → List Blk
  | [] => []
  | b :: r => ⟨k, mkOpsD (k + 1) b.ops⟩ :: mkBksD (opsK (k + 1) b.ops) r
def blkOf (b : BI) : Blk := ⟨b.args, b.its.map (·.1)⟩
theorem cont_eq (bs : List BI) : cont bs = bs.map blkOf := rfl
def mkBk (k : Int) : List BI → List BI
  | [] => []
  | b :: r => ⟨k, b.av, mkOps (k + 1) b.its⟩ :: mkBk (opsK (k + 1) (b.its.map (·.1))) r
theorem blksK_le : ∀ (bs : List Blk) (k : Int), k + (bs.length : Int) ≤ blksK k bs := by
  intro bs
  induction bs with
  | nil => intro k; simp [blksK]
  | cons b r ih =>
    intro k
    have := ih (opsK (k + 1) b.ops)
    have := opsK_le b.ops (k + 1)
    simp only [blksK, List.length_cons]
    omega
theorem blksK_app : ∀ (a b : List Blk) (k : Int), blksK k (a ++ b) = blksK (blksK k a) b := by
  intro a
  induction a with
  | nil => intro b k; rfl
  | cons o r ih => intro b k; exact ih b _
theorem mkBk_app : ∀ (a b : List BI) (k : Int), mkBk k (a ++ b) = mkBk k a ++ mkBk (blksK k (cont a)) b := by
  intro a
  induction a with
  | nil => intro b k; rfl
  | cons o r ih => intro b k; simp only [List.cons_append, mkBk, cont, List.map_cons, blksK, ih]
theorem mkBk_len : ∀ (a : List BI) (k : Int), (mkBk k a).length = a.length := by
  intro a
  induction a with
  | nil => intro k; rfl
  | cons o r ih => intro k; simp [mkBk, ih]
theorem cont_mkBk : ∀ (a : List BI) (k : Int), cont (mkBk k a) = mkBksD k (cont a) := by
  intro a
  induction a with
  | nil => intro k; rfl
  | cons o r ih =>
    intro k
    have := ih (opsK (k + 1) (o.its.map (·.1)))
    simp only [cont] at this
    simp [mkBk, mkBksD, cont, mkOps_fst, this]
def bsF (bs : List BI) : List Nat := bs.flatMap biF
theorem bsF_app (a b : List BI) : bsF (a ++ b) = bsF a ++ bsF b := by simp [bsF]
theorem bsF_cons (b : BI) (r : List BI) : bsF (b :: r) = biF b ++ bsF r := by simp [bsF]
theorem bsF_mkBk : ∀ (a : List BI) (k : Int), bsF (mkBk k a) = bsF a := by
  intro a
  induction a with
  | nil => intro k; rfl
  | cons o r ih => intro k; rw [mkBk, bsF_cons, bsF_cons, ih]; simp [biF, opsF', itsF_mkOps]
section
variable {σ τ τ' : AH} {R : AEnd → AH → Prop}
def BisH (τ : AH) (bs : List BI) : Prop := ∀ b, b ∈ bs → OpsH τ b.av b.its
theorem c_laws_markBlockSX {v : AV} {bs : List BI} {k : Int} (h : BlksH τ v bs) (hnd : (blksF v bs).Nodup) (h0 : 0 ≤ k) (h1 : blksK k (cont bs) ≤ 9000000000000000000)
    (hR : ∀ τ', BlksH τ' v (mkBk k bs) → (∀ ψ, ψ ∉ blksF v bs → τ' ψ = τ ψ) → R (.ret (iv (blksK k (cont bs)))) τ') : acall TP fn_laws_markBlockS [v, iv k] τ R := by
  refine s_laws_markBlockS_ok ?_
  unfold s_laws_markBlockS
  refine lp_by (fun n x τ' => ∃ don rest : List BI, bs = don ++ rest ∧ rest.length = n ∧ x = (v, iv (blksK k (cont don)), iv (don.length : Int), ()) ∧ Buf τ' 2 v ((mkBk k don ++ rest).map encBI) ∧ BisH τ' (mkBk k don) ∧ BisH τ' rest ∧
      ∀ ψ, ψ ∉ famL v → ψ ∉ bsF don → τ' ψ = τ ψ) bs.length ⟨[], bs, rfl, rfl, rfl, h.1, (fun p hp => by cases hp), h.2, fun _ _ _ => rfl⟩ ?_
  rintro n x τ1 ⟨don, rest, hit, hrl, rfl, hB, hD, hT, hfr⟩ R' hR'
  have hlen := buf_len hB
  have hle : ((mkBk k don ++ rest).map encBI).length = don.length + rest.length := by simp [mkBk_len]
  rw [hle] at hlen
  simp only [hlen, RR]
  cases rest with
  | nil =>
    have g : ¬ (don.length : Int) < ((don.length + ([] : List BI).length : Nat) : Int) := by simp
    simp only [g, RR]
    rw [List.append_nil] at hit
    subst hit
    rw [List.append_nil] at hB
    refine ret_here (hR τ1 ⟨hB, hD⟩ fun ψ hψ => hfr ψ (fun c => hψ (List.mem_append_left _ c)) fun c => hψ (List.mem_append_right _ c))
  | cons p r =>
    have g : (don.length : Int) < ((don.length + (p :: r).length : Nat) : Int) := by simp; omega
    have hi : don.length < don.length + (p :: r).length := by simp
    have hpl : ((mkBk k don).map encBI).length = don.length := by simp [mkBk_len]
    obtain ⟨φ, st, rfl, hF⟩ := buf_own hB (by simp)
    rw [hle] at hlen ⊢
    have hk1 := blksK_le (cont don) k
    have hk2 : blksK k (cont bs) = blksK (opsK (blksK k (cont don) + 1) (p.its.map (·.1))) (cont r) := by
      have e : cont bs = cont don ++ cont (p :: r) := by rw [hit]; simp [cont]
      rw [e, blksK_app]; rfl
    have hk3 := blksK_le (cont r) (opsK (blksK k (cont don) + 1) (p.its.map (·.1)))
    have hk4 := opsK_le (p.its.map (·.1)) (blksK k (cont don) + 1)
    have hcl : (cont don).length = don.length := by simp [cont]
    have hcr : (cont r).length = r.length := by simp [cont]
    rw [hcl] at hk1
    rw [hcr] at hk3
    generalize hm : blksK k (cont don) = m at *
    have hm0 : 0 ≤ m := by omega
    have hset : τ1 = τ1.set φ ⟨st, 2, (mkBk k don).map encBI ++ encBI p :: r.map encBI⟩ := by
      rw [AH.set_self]; rw [hF]; simp
    have hnd2 : (famL (.own φ st 0 (don.length + (p :: r).length)) ++ (bsF don ++ (biF p ++ bsF r))).Nodup := by
      have := hnd
      rw [blksF, hle] at this
      rw [← bsF_cons, ← bsF_app, ← hit]
      exact this
    obtain ⟨_, hnd3, hnd4⟩ := nodup_app.1 hnd2
    obtain ⟨_, hnd5, hnd6⟩ := nodup_app.1 hnd3
    obtain ⟨hndp, _, hnd7⟩ := nodup_app.1 hnd5
    have hφp : φ ∉ biF p := fun c => hnd4 φ (by simp [famL]) (by simp [c])
    have hφr : φ ∉ bsF r := fun c => hnd4 φ (by simp [famL]) (by simp [c])
    have hφd : φ ∉ bsF don := fun c => hnd4 φ (by simp [famL]) (by simp [c])
    simp only [g, RR]
    rw [hset]
    simp only [idx_at hi, add1 (m := m) (by omega) (by omega), RR]
    refine sto_at hpl (by omega) rfl ?_
    have erow : (encBI p).set 0 (iv m) = [iv m, p.av] := rfl
    rw [erow]
    generalize hτ2 : τ1.set φ ⟨st, 2, (mkBk k don).map encBI ++ [iv m, p.av] :: r.map encBI⟩ = τ2
    have hF2 : τ2 φ = some ⟨st, 2, (mkBk k don).map encBI ++ [iv m, p.av] :: r.map encBI⟩ := by rw [← hτ2, AH.set_same]
    have h2 : ∀ ψ, ψ ≠ φ → τ2 ψ = τ1 ψ := fun ψ hψ => by rw [← hτ2, AH.set_ne' hψ]
    have el : lod (.ptr φ st don.length 1) τ2 = some p.av := lod_at hF2 rfl (by simp [List.getD, List.getElem?_append_right, hpl, mkBk_len])
    have ix : idx 2 (.own φ st 0 (don.length + (p :: r).length)) (iv (don.length : Int)) τ2 = some (.ptr φ st don.length 0) := by rw [← hτ2]; exact idx_at hi
    simp only [ix, el, RR]
    have hBp : OpsH τ2 p.av p.its := (hT p (by simp)).keep fun ψ hψ => h2 ψ (by rintro rfl; exact hφp hψ)
    refine c_laws_markOpSX hBp hndp (by omega) (by omega) fun τ3 hB3 hfr3 => ?_
    simp only [ibin_up hi (by simp at hk1 hk3 ⊢; omega), RR]
    have hFm : opsK (m + 1) (p.its.map (·.1)) = blksK k (cont (don ++ [p])) := by
      have e : cont (don ++ [p]) = cont don ++ cont [p] := by simp [cont]
      rw [e, blksK_app, hm]; rfl
    have emk : mkBk k (don ++ [p]) = mkBk k don ++ [⟨m, p.av, mkOps (m + 1) p.its⟩] := by rw [mkBk_app, hm]; rfl
    refine hR' _ _ r.length τ3 (by rw [← hrl]; simp) (.refl _) ⟨don ++ [p], r, by simp [hit], rfl, ?_, ?_, ?_, ?_, ?_⟩
    · rw [hFm, hle]; simp; rfl
    · refine .inr ⟨φ, st, ?_, ?_⟩
      · simp [mkBk_len]; omega
      · rw [hfr3 φ hφp, hF2, emk]
        simp
    · rw [emk]
      intro q hq
      rcases List.mem_append.1 hq with hq | hq
      · refine (hD q hq).keep fun ψ hψ => ?_
        have hψd : ψ ∈ bsF don := by rw [← bsF_mkBk don k]; exact List.mem_flatMap.2 ⟨q, hq, hψ⟩
        rw [hfr3 ψ fun c => hnd6 ψ hψd (List.mem_append_left _ c), h2 ψ (by rintro rfl; exact hφd hψd)]
      · obtain rfl : q = ⟨m, p.av, mkOps (m + 1) p.its⟩ := by simpa using hq
        exact hB3
    · intro q hq
      refine (hT q (by simp [hq])).keep fun ψ hψ => ?_
      have hψr : ψ ∈ bsF r := List.mem_flatMap.2 ⟨q, hq, hψ⟩
      rw [hfr3 ψ fun c => hnd7 ψ c hψr, h2 ψ (by rintro rfl; exact hφr hψr)]
    · intro ψ hψ hψd
      rw [bsF_app] at hψd
      have hψd1 : ψ ∉ bsF don := fun c => hψd (List.mem_append_left _ c)
      have hψp : ψ ∉ biF p := fun c => hψd (List.mem_append_right _ (by simp [bsF, c]))
      rw [hfr3 ψ hψp, h2 ψ (by rintro rfl; exact hψ (by simp [famL]))]
      exact hfr ψ hψ hψd1
theorem c_laws_markCodeResultX {c k : Int} {v : AV} {bs : List BI} (h : BlksH τ v bs) (hnd : (blksF v bs).Nodup) (h0 : 0 ≤ k) (h1 : blksK k (cont bs) ≤ 9000000000000000000)
    (hR : ∀ τ', BlksH τ' v (mkBk k bs) → (∀ ψ, ψ ∉ blksF v bs → τ' ψ = τ ψ) → R (.ret (iv (blksK k (cont bs)))) τ') : acall TP fn_laws_markCodeResult [.agg [iv c, v], iv k] τ R := by
  refine s_laws_markCodeResult_ok ?_
  unfold s_laws_markCodeResult
  refine box_frz rfl ?_
  have e : ∀ τ, lod (.rop [iv c, v] 1) τ = some v := fun _ => rfl
  simp only [e, RR]
  refine c_laws_markBlockSX h hnd h0 h1 fun τ' hB hfr => ?_
  simp only [RR]
  exact ret_here (hR τ' hB hfr)
/-! ### held -/
theorem idx_roA {X : Type} {enc : X → List AV} {sz i : Nat} {pre post : List X} {x : X} (hp : pre.length = i) (hl : ∀ x, (enc x).length = sz) : idx sz (.ro ((pre ++ x :: post).map enc)) (iv (i : Int)) σ = some (.rop (enc x) 0) := by
  subst hp
  have h : pre.length < (pre ++ x :: post).length := by simp
  have := idx_ro (σ := σ) (enc := enc) h hl
  rw [this]; simp
theorem c_laws_heldDatumS {k : Int} {n : Nat} (h0 : 0 ≤ k) (h1 : k + 4 * (n : Int) ≤ 9000000000000000000) (h : R (.ret (iv (k + 4 * (n : Int)))) σ) : acall TP fn_laws_heldDatumS [roD (mkDats k n), iv k] σ R := by
  refine s_laws_heldDatumS_ok ?_
  unfold s_laws_heldDatumS
  refine lp_read n (fun i => (roD (mkDats k n), iv (k + 4 * (i : Int)), iv (i : Int), ())) (by simp; rfl) ?_
  intro i hi R' hR'
  simp only [len_ro, mkDats_len, RR]
  by_cases hlt : i < n
  · have g : (i : Int) < (n : Int) := by omega
    have hlt' : i < (mkDats k n).length := by simpa [mkDats_len] using hlt
    have ei : (mkDats k n)[i] = mkDat (k + 4 * (i : Int)) := by simp [mkDats]
    simp only [g, idx_ro hlt' len_encDat, ei, add1 (m := k + 4 * (i : Int)) (by omega) (by omega), add1 (m := k + 4 * (i : Int) + 1) (by omega) (by omega), add1 (m := k + 4 * (i : Int) + 1 + 1) (by omega) (by omega), add1 (m := k + 4 * (i : Int) + 1 + 1 + 1) (by omega) (by omega), RR, RT]
    simp only [mkDat, dec_self, RR]
    refine c_laws_markTextX (by omega) (by omega) ?_
    simp only [sbin_neq', dec_self, ibin_up hlt (by omega), eq_self, and_true, true_and, RR]
    have := hR' hlt _ (.refl σ)
    have e : k + 4 * (i : Int) + 1 + 1 + 1 + 1 = k + 4 * ((i + 1 : Nat) : Int) := by omega
    rw [e]
    exact this
  · have g : ¬ (i : Int) < (n : Int) := by omega
    obtain rfl : i = n := by omega
    simp only [g, RR]
    exact ret_here h
theorem mkOpsD_app : ∀ (a b : List OpD) (k : Int), mkOpsD k (a ++ b) = mkOpsD k a ++ mkOpsD (opsK k a) b := by
  intro a
  induction a with
  | nil => intro b k; rfl
  | cons o r ih => intro b k; simp only [List.cons_append, mkOpsD, opsK, ih]
theorem mkBksD_app : ∀ (a b : List Blk) (k : Int), mkBksD k (a ++ b) = mkBksD k a ++ mkBksD (blksK k a) b := by
  intro a
  induction a with
  | nil => intro b k; rfl
  | cons o r ih => intro b k; simp only [List.cons_append, mkBksD, blksK, ih]
theorem mkBksD_len : ∀ (a : List Blk) (k : Int), (mkBksD k a).length = a.length := by
  intro a
  induction a with
  | nil => intro k; rfl
  | cons o r ih => intro k; simp [mkBksD, ih]
theorem c_laws_heldOpS {k : Int} {os : List OpD} (h0 : 0 ≤ k) (h1 : opsK k os ≤ 9000000000000000000) (h : R (.ret (iv (opsK k os))) σ) : acall TP fn_laws_heldOpS [roO (mkOpsD k os), iv k] σ R := by
  refine s_laws_heldOpS_ok ?_
  unfold s_laws_heldOpS
  refine lp_by (fun n x τ' => τ' = σ ∧ ∃ don rest : List OpD, os = don ++ rest ∧ rest.length = n ∧ x = (roO (mkOpsD k os), iv (opsK k don), iv (don.length : Int), ())) os.length ⟨rfl, [], os, rfl, rfl, rfl⟩ ?_
  rintro n x _ ⟨rfl, don, rest, hit, hrl, rfl⟩ R' hR'
  simp only [len_ro, mkOpsD_len, RR]
  cases rest with
  | nil =>
    rw [List.append_nil] at hit
    subst hit
    have g : ¬ (os.length : Int) < (os.length : Int) := by omega
    simp only [g, RR]
    exact ret_here h
  | cons p r =>
    have hi : don.length < os.length := by rw [hit]; simp
    have g : (don.length : Int) < (os.length : Int) := by omega
    have hk1 := opsK_le don k
    have hk2 : opsK k os = opsK (opsK k don + 1 + 1 + 1 + 1 + 1 + 1 + 4 * (p.data.length : Int)) r := by rw [hit, opsK_app]; rfl
    have hk3 := opsK_le r (opsK k don + 1 + 1 + 1 + 1 + 1 + 1 + 4 * (p.data.length : Int))
    have eL : mkOpsD k os = mkOpsD k don ++ mkOp (opsK k don) p.data.length :: mkOpsD (opsK k don + 1 + 1 + 1 + 1 + 1 + 1 + 4 * (p.data.length : Int)) r := by rw [hit, mkOpsD_app]; rfl
    have ix := fun σ => idx_roA (σ := σ) (pre := mkOpsD k don) (post := mkOpsD (opsK k don + 1 + 1 + 1 + 1 + 1 + 1 + 4 * (p.data.length : Int)) r) (x := mkOp (opsK k don) p.data.length) (mkOpsD_len don k) len_encOp
    rw [← eL] at ix
    have hol : os.length = don.length + (r.length + 1) := by rw [hit]; simp
    have hfin : opsK k (don ++ [p]) = opsK k don + 1 + 1 + 1 + 1 + 1 + 1 + 4 * (p.data.length : Int) := by rw [opsK_app]; rfl
    generalize hm : opsK k don = m at *
    have hm0 : 0 ≤ m := by omega
    have hm9 : m + 1 + 1 + 1 + 1 + 1 + 1 + 4 * (p.data.length : Int) ≤ 9000000000000000000 := by omega
    simp only [g, ix, add1 (m := m) (by omega) (by omega), add1 (m := m + 1) (by omega) (by omega), add1 (m := m + 1 + 1) (by omega) (by omega), add1 (m := m + 1 + 1 + 1) (by omega) (by omega), add1 (m := m + 1 + 1 + 1 + 1) (by omega) (by omega), add1 (m := m + 1 + 1 + 1 + 1 + 1) (by omega) (by omega), RR, RT]
    simp only [mkOp, dec_self, RR]
    refine c_laws_markTextX (by omega) (by omega) ?_
    simp only [sbin_neq', dec_self, eq_self, and_true, true_and, RR]
    refine c_laws_heldDatumS (by omega) (by omega) ?_
    have g2 : ¬ (m + 1 + 1 + 1 + 1 + 1 + 1 + 4 * (p.data.length : Int)) < 0 := by omega
    simp only [g2, ibin_up hi (by omega), RR]
    refine hR' _ _ r.length _ (by rw [← hrl]; simp) (.refl _) ⟨rfl, don ++ [p], r, by simp [hit], rfl, ?_⟩
    rw [hfin]; simp; rfl
theorem c_laws_heldBlockS {k : Int} {bs : List Blk} (h0 : 0 ≤ k) (h1 : blksK k bs ≤ 9000000000000000000) (h : R (.ret (iv (blksK k bs))) σ) : acall TP fn_laws_heldBlockS [roBk (mkBksD k bs), iv k] σ R := by
  refine s_laws_heldBlockS_ok ?_
  unfold s_laws_heldBlockS
  refine lp_by (fun n x τ' => τ' = σ ∧ ∃ don rest : List Blk, bs = don ++ rest ∧ rest.length = n ∧ x = (roBk (mkBksD k bs), iv (blksK k don), iv (don.length : Int), ())) bs.length ⟨rfl, [], bs, rfl, rfl, rfl⟩ ?_
  rintro n x _ ⟨rfl, don, rest, hit, hrl, rfl⟩ R' hR'
  simp only [len_ro, mkBksD_len, RR]
  cases rest with
  | nil =>
    rw [List.append_nil] at hit
    subst hit
    have g : ¬ (bs.length : Int) < (bs.length : Int) := by omega
    simp only [g, RR]
    exact ret_here h
  | cons p r =>
    have hi : don.length < bs.length := by rw [hit]; simp
    have hol : bs.length = don.length + (r.length + 1) := by rw [hit]; simp
    have g : (don.length : Int) < (bs.length : Int) := by omega
    have hk1 := blksK_le don k
    have hk2 : blksK k bs = blksK (opsK (blksK k don + 1) p.ops) r := by rw [hit, blksK_app]; rfl
    have hk3 := blksK_le r (opsK (blksK k don + 1) p.ops)
    have hk4 := opsK_le p.ops (blksK k don + 1)
    have eL : mkBksD k bs = mkBksD k don ++ ⟨blksK k don, mkOpsD (blksK k don + 1) p.ops⟩ :: mkBksD (opsK (blksK k don + 1) p.ops) r := by rw [hit, mkBksD_app]; rfl
    have ix := fun σ => idx_roA (σ := σ) (pre := mkBksD k don) (post := mkBksD (opsK (blksK k don + 1) p.ops) r) (x := (⟨blksK k don, mkOpsD (blksK k don + 1) p.ops⟩ : Blk)) (mkBksD_len don k) len_encBlk
    rw [← eL] at ix
    have hfin : blksK k (don ++ [p]) = opsK (blksK k don + 1) p.ops := by rw [blksK_app]; rfl
    generalize hm : blksK k don = m at *
    have hm0 : 0 ≤ m := by omega
    simp only [g, ix, add1 (m := m) (by omega) (by omega), dec_self, RR, RT]
    refine c_laws_heldOpS (by omega) (by omega) ?_
    have g2 : ¬ opsK (m + 1) p.ops < 0 := by omega
    simp only [g2, ibin_up hi (by omega), RR]
    refine hR' _ _ r.length _ (by rw [← hrl]; simp) (.refl _) ⟨rfl, don ++ [p], r, by simp [hit], rfl, ?_⟩
    rw [hfin]; simp; rfl
theorem c_laws_heldCodeResult {c k : Int} {bs : List Blk} (h0 : 0 ≤ k) (h1 : blksK k bs ≤ 9000000000000000000) (h : R (.ret (iv (blksK k bs))) σ) : acall TP fn_laws_heldCodeResult [.agg [iv c, roBk (mkBksD k bs)], iv k] σ R := by
  refine s_laws_heldCodeResult_ok ?_
  unfold s_laws_heldCodeResult
  refine box_frz rfl ?_
  have e : ∀ τ, lod (.rop [iv c, roBk (mkBksD k bs)] 1) τ = some (roBk (mkBksD k bs)) := fun _ => rfl
  simp only [e, RR]
  refine c_laws_heldBlockS h0 h1 ?_
  have hk1 := blksK_le bs k
  have g2 : ¬ blksK k bs < 0 := by omega
  simp only [g2, RR]
  exact ret_here h
theorem c_laws_eqCodeResult {c : Int} {bs : List Blk} (hb : bC 1048576 bs) (h : R (.ret (bv true)) σ) : acall TP fn_laws_eqCodeResult [.agg [iv c, roBk bs], .agg [iv c, roBk bs]] σ R := by
  refine s_laws_eqCodeResult_ok ?_
  unfold s_laws_eqCodeResult
  refine box2_frz rfl rfl ?_
  have e0 : ∀ τ, lod (.rop [iv c, roBk bs] 0) τ = some (iv c) := fun _ => rfl
  have e1 : ∀ τ, lod (.rop [iv c, roBk bs] 1) τ = some (roBk bs) := fun _ => rfl
  simp only [RR, e0, e1, dec_self]
  refine c_laws_eqBlockS hb ?_
  simp only [RR]
  exact ret_here h
end
end Go.Proofs.YtmmhaiidcfgbbaaGreatDoor.E
