import Derived.Test.YtlggnigbemghgaaGreatDoorOB
import Derived.Test.YtlggnigbemghgaaGreatDoorUA
/- The law of UnfuseCode. -/
set_option linter.unusedSectionVars false
set_option linter.unusedSimpArgs false
set_option linter.unusedVariables false
namespace Go.Proofs.YtlggnigbemghgaaGreatDoor.E
open Go Go.RowKit
set_option maxRecDepth 100000
variable [L : Lam]
variable {σ τ τ' : AH} {R : AEnd → AH → Prop}
/-! ### what is left of a heap -/
open Classical in
noncomputable def only (τ : AH) (F : List Nat) : AH := fun φ => if φ ∈ F then τ φ else none
theorem only_in {F : List Nat} {φ : Nat} (h : φ ∈ F) : only τ F φ = τ φ := by unfold only; rw [if_pos h]
theorem only_sub (F : List Nat) : AH.Sub (only τ F) τ := fun φ G h => by
  unfold only at h
  split at h
  · exact h
  · cases h
theorem Buf.nom {sz : Nat} {a : AV} {es : List (List AV)} (h : Buf τ sz a es) : Nom a := by
  rcases h with ⟨rfl | rfl, _⟩ | ⟨φ, st, rfl, _⟩
  · exact .val _
  · exact .emp
  · exact .own ..
theorem row_nom {sz : Nat} {a : AV} {es : List (List AV)} {φ : Nat} {F : Fam} (h : Buf τ sz a es) (hφ : φ ∈ famL a) (hF : τ φ = some F) (hn : ∀ c, c ∈ es → ∀ j, j < sz → Nom (c.getD j .any)) : ∀ i j, i < F.es.length → j < F.sz → Nom ((F.es.getD i []).getD j .any) := by
  rcases h with ⟨rfl | rfl, _⟩ | ⟨ψ, st, rfl, hG⟩
  · cases hφ
  · cases hφ
  · obtain rfl : φ = ψ := by simpa [famL] using hφ
    rw [hG] at hF
    cases hF
    intro i j hi hj
    have e : es.getD i [] = es[i] := by simp [List.getD, hi]
    simp only
    rw [e]
    exact hn _ (List.getElem_mem hi) j hj
theorem nom_blks {v : AV} {B : List BI} (h : BlksH τ v B) : NomH (only τ (blksF v B)) := by
  intro φ F hF
  have hm : φ ∈ blksF v B := by
    refine Classical.byContradiction fun c => ?_
    unfold only at hF
    rw [if_neg c] at hF; cases hF
  rw [only_in hm] at hF
  rcases List.mem_append.1 hm with c | c
  · refine row_nom h.1 c hF fun r hr j hj => ?_
    obtain ⟨b, hb, rfl⟩ := List.mem_map.1 hr
    match j, hj with
    | 0, _ => exact .val _
    | 1, _ => exact (h.2 b hb).1.nom
  · obtain ⟨b, hb, c⟩ := List.mem_flatMap.1 c
    rcases List.mem_append.1 c with c | c
    · refine row_nom (h.2 b hb).1 c hF fun r hr j hj => ?_
      obtain ⟨p, hp, rfl⟩ := List.mem_map.1 hr
      match j, hj with
      | 0, _ => exact .val _
      | 1, _ => exact .val _
      | 2, _ => exact .val _
      | 3, _ => exact .val _
      | 4, _ => exact .val _
      | 5, _ => exact .val _
      | 6, _ => exact ((h.2 b hb).2 p hp).nom
    · obtain ⟨p, hp, c⟩ := List.mem_flatMap.1 c
      refine row_nom ((h.2 b hb).2 p hp) c hF fun r hr j hj => ?_
      obtain ⟨d, hd, rfl⟩ := List.mem_map.1 hr
      match j, hj with
      | 0, _ => exact .val _
      | 1, _ => exact .val _
      | 2, _ => exact .val _
      | 3, _ => exact .val _
theorem nom2 {c : Int} {l : AV} (h : Nom l) : Nom (.agg [iv c, l]) := by
  refine .agg fun i hi => ?_
  match i, hi with
  | 0, _ => exact .val _
  | 1, _ => exact h
/-- A function that hands back code of its own, called with code that is lent. -/
theorem lend_code {f : FuncId} {args args' : List AV} {C : Int} {bs' : List Blk} {K : AEnd → AH → Prop} (hl : args.length = args'.length) (hf : ∀ i, i < args.length → Fz ah0 τ (args.getD i .any) (args'.getD i .any))
    (hc : ∀ R : AEnd → AH → Prop, (∀ v B τ, cont B = bs' → NewB ah0 τ v B → R (.ret (.agg [iv C, v])) τ) → acall TP f args' ah0 R)
    (hK : ∀ v B τ', cont B = bs' → NewB τ τ' v B → K (.ret (.agg [iv C, v])) τ') : acall TP f args τ K := by
  refine (acall_lend (σ0 := ah0) (args := args) (args' := args') (Q := fun e σ1 => ∃ v B, cont B = bs' ∧ NewB ah0 σ1 v B ∧ e = .ret (.agg [iv C, v])) (sub_none τ) hl hf ?_).mono ?_
  · refine acall_imp (hc (fun e σ1 => ∃ v B, cont B = bs' ∧ NewB ah0 σ1 v B ∧ e = .ret (.agg [iv C, v])) fun v B τ h1 h2 => ⟨v, B, h1, h2, rfl⟩) ?_
    rintro e σ1 ⟨v, B, h1, h2, rfl⟩
    refine ⟨_, rfl, _, only σ1 (blksF v B), .sub (only_sub _), nom2 h2.own.1.nom, nom_blks h2.own, v, B, h1, ⟨h2.own.keep fun ψ hψ => only_in hψ, h2.nd, h2.fr, sub_none _⟩, rfl⟩
  · rintro e σ' ⟨σ1, ⟨v, B, h1, h2, rfl⟩, rfl, hd⟩
    have hn : ∀ ψ, ψ ∈ blksF v B → τ ψ = none := fun ψ hψ => by
      obtain ⟨F, e⟩ := h2.own.live hψ
      cases e2 : τ ψ with
      | none => rfl
      | some G => rw [hd ψ G e2 rfl] at e; cases e
    refine hK v B _ h1 ⟨h2.own.keep fun ψ hψ => thaw_other (.inl (hn ψ hψ)), h2.nd, hn, fun ψ F hF => thaw_lent hF rfl⟩
/-! ### how much there is -/
theorem opsK_ub {N : Nat} : ∀ (os : List OpD) (k : Int), (∀ o, o ∈ os → o.data.length ≤ N) → opsK k os ≤ k + (os.length : Int) * (6 + 4 * (N : Int)) := by
  intro os
  induction os with
  | nil => intro k _; simp [opsK]
  | cons o r ih =>
    intro k h
    have h1 := ih (k + 1 + 1 + 1 + 1 + 1 + 1 + 4 * (o.data.length : Int)) fun o ho => h o (List.mem_cons_of_mem _ ho)
    have h2 := h o (List.mem_cons_self ..)
    simp only [opsK, List.length_cons]
    have e : ((r.length + 1 : Nat) : Int) * (6 + 4 * (N : Int)) = (r.length : Int) * (6 + 4 * (N : Int)) + (6 + 4 * (N : Int)) := by
      rw [Int.natCast_add, Int.add_mul]; simp
    rw [e]
    omega
theorem blksK_ub : ∀ (bs : List Blk) (k : Int), (∀ b, b ∈ bs → bO 1048576 b.ops) → blksK k bs ≤ k + (bs.length : Int) * 4398052802561 := by
  intro bs
  induction bs with
  | nil => intro k _; simp [blksK]
  | cons b r ih =>
    intro k h
    have h1 := ih (opsK (k + 1) b.ops) fun o ho => h o (List.mem_cons_of_mem _ ho)
    obtain ⟨h2, h3⟩ := h b (List.mem_cons_self ..)
    have h4 := opsK_ub (N := 1048576) b.ops (k + 1) fun o ho => (h3 o ho).2.1
    simp only [blksK, List.length_cons]
    omega
theorem blksK_bC {bs : List Blk} (h : bC 1048576 bs) : blksK 1 bs ≤ 9000000000000000000 := by
  have := blksK_ub bs 1 h.2
  have := h.1
  omega
theorem split_bO {N : Nat} {o q : OpD} (h1 : o.name.size ≤ N) (h2 : bD N o.data) (hq : q ∈ splitO o) : q.name.size ≤ N ∧ bD N q.data := by
  have e0 : (⟨#[]⟩ : ByteArray).size ≤ N := Nat.zero_le _
  have e1 : bD N [] := ⟨Nat.zero_le _, fun d hd => by cases hd⟩
  unfold splitO at hq
  (repeat' split at hq) <;> simp only [List.mem_cons, List.not_mem_nil, or_false] at hq
  · rcases hq with rfl | rfl
    · exact ⟨e0, h2⟩
    · exact ⟨e0, e1⟩
  · rcases hq with rfl | rfl <;> exact ⟨e0, e1⟩
  · rcases hq with rfl | rfl <;> exact ⟨e0, e1⟩
  · rcases hq with rfl | rfl <;> exact ⟨e0, e1⟩
  · subst hq; exact ⟨h1, h2⟩
theorem turnO_name (xs : List Int) (o : OpD) : (turnO xs o).name = o.name := by unfold turnO; (repeat' split) <;> rfl
theorem unfBs_bC {bs : List Blk} (h : bC 1048576 bs) : bC 1048576 (unfBs bs) := by
  unfold unfBs
  split
  case isFalse => exact ⟨Nat.zero_le _, fun b hb => by cases hb⟩
  rename_i c
  have hsm : ∀ b, b ∈ bs → unfL b.ops ≤ 200 := by
    intro b hb
    refine Classical.byContradiction fun c2 => ?_
    unfold unfC at c
    split at c
    · rename_i c3; exact c3 c
    · rw [if_pos ⟨b, hb, by omega⟩] at c; cases c
  refine ⟨by rw [List.length_map]; exact h.1, fun b hb => ?_⟩
  obtain ⟨b0, hb0, rfl⟩ := List.mem_map.1 hb
  have hl : (unfB b0).ops.length = unfL b0.ops := by simp [unfB, unfO, unfL]
  refine ⟨by rw [hl]; have := hsm b0 hb0; omega, fun o ho => ?_⟩
  obtain ⟨q, hq, rfl⟩ := List.mem_map.1 ho
  obtain ⟨o0, ho0, hq⟩ := List.mem_flatMap.1 hq
  have := (h.2 b0 hb0).2 o0 ho0
  rw [turnO_name, turnO_data]
  exact split_bO this.1 this.2 hq
end Go.Proofs.YtlggnigbemghgaaGreatDoor.E
/- The law of FuseCode. -/
set_option linter.unusedSectionVars false
set_option linter.unusedSimpArgs false
set_option linter.unusedVariables false
namespace Go.Proofs.YtlggnigbemghgaaGreatDoor.E
open Go Go.RowKit
set_option maxRecDepth 100000
variable [L : Lam]
variable {σ τ τ' : AH} {R : AEnd → AH → Prop}
theorem fuseD_len (tab : Int) (T : Nat → Bool) : ∀ (n k : Nat) (os : List OpD), os.length ≤ n → (fuseD tab T k os).length ≤ os.length := by
  intro n
  induction n with
  | zero => intro k os h; cases os with | nil => exact Nat.le_refl _ | cons => simp at h
  | succ n ih =>
    intro k os h
    match os, h with
    | [], _ => exact Nat.le_refl _
    | [p], _ => exact Nat.le_refl _
    | p :: q :: r, h =>
      simp only [fuseD]
      split
      · have := ih (k + 2) r (by simp at h; omega)
        simp; omega
      · have := ih (k + 1) (q :: r) (by simp at h ⊢; omega)
        simp at this ⊢; omega
theorem fuseD_bO {N : Nat} (tab : Int) (T : Nat → Bool) : ∀ (n k : Nat) (os : List OpD), os.length ≤ n → (∀ o, o ∈ os → o.name.size ≤ N ∧ bD N o.data) → ∀ o, o ∈ fuseD tab T k os → o.name.size ≤ N ∧ bD N o.data := by
  intro n
  induction n with
  | zero => intro k os h; cases os with | nil => intro _ o ho; cases ho | cons => simp at h
  | succ n ih =>
    intro k os h hb o ho
    match os, h, hb, ho with
    | [], _, _, ho => cases ho
    | [p], _, hb, ho => exact hb o ho
    | p :: q :: r, h, hb, ho =>
      simp only [fuseD] at ho
      split at ho
      · rename_i o' h1 h2
        rcases List.mem_cons.1 ho with rfl | ho
        · obtain ⟨e1, e2⟩ := twoD_data h2
          have := hb p (by simp)
          rw [e1, e2]
          refine ⟨Nat.zero_le _, ?_⟩
          split
          · exact this.2
          · exact ⟨Nat.zero_le _, fun d hd => by cases hd⟩
        · exact ih (k + 2) r (by simp at h; omega) (fun o ho => hb o (by simp [ho])) o ho
      · rcases List.mem_cons.1 ho with rfl | ho
        · exact hb _ (by simp)
        · exact ih (k + 1) (q :: r) (by simp at h ⊢; omega) (fun o ho => hb o (List.mem_cons_of_mem _ ho)) o ho
theorem fcBs_bC {bs : List Blk} {tab : Int} (h : bC 1048576 bs) : bC 1048576 (fcBs bs tab) := by
  unfold fcBs
  split
  case isFalse => exact ⟨Nat.zero_le _, fun b hb => by cases hb⟩
  refine ⟨by rw [List.length_map]; exact h.1, fun b hb => ?_⟩
  obtain ⟨b0, hb0, rfl⟩ := List.mem_map.1 hb
  obtain ⟨h1, h2⟩ := h.2 b0 hb0
  have hl : (fusB tab b0).ops.length ≤ b0.ops.length := by
    simp only [fusB, fusO, List.length_map]
    exact fuseD_len tab _ _ 0 _ (Nat.le_refl _)
  refine ⟨by omega, fun o ho => ?_⟩
  obtain ⟨q, hq, rfl⟩ := List.mem_map.1 ho
  rw [turnO_name, turnO_data]
  exact fuseD_bO tab _ _ 0 _ (Nat.le_refl _) h2 q hq
set_option maxHeartbeats 1000000 in
theorem c_laws_FnExactFuseCode {bs : List Blk} {tab : Int} (hb0 : bC 9223372036854775807 bs) {R : AEnd → AH → Prop} (h : ∀ σ, R (.ret (bv true)) σ) : acall TP fn_laws_FnExactFuseCode [roBk bs, iv tab] ah0 R := by
  have hret : ∀ σ, aret (bv true) σ R := fun σ => ret_here (h σ)
  refine s_laws_FnExactFuseCode_ok ?_
  unfold s_laws_FnExactFuseCode
  refine c_laws_szBlockS (by decide) (by decide) hb0 fun v _ _ hb1 => ?_
  simp only [RR]
  refine apick_cases (fun _ => hret _) (fun c => ?_)
  have hb := hb1 (by have := of_decide_eq_false c; omega)
  have hU : bC 1048576 (fcBs bs tab) := fcBs_bC hb
  refine c_laws_toBlockS hb ?_
  refine c_spec_FuseCode hb ?_
  refine new_frz rfl rfl rfl (one2 rfl rfl) ?_
  refine c_laws_toBlockSX hb fun x X τ hX hNX => ?_
  simp only [RR]
  refine lend_code (args' := [roBk bs, iv tab]) rfl (fun i hi => ?_) (fun R hR => c_impl_FuseCode hb hR) fun v B τ1 hB hNB => ?_
  · match i, hi with
    | 0, _ => exact hX ▸ fz0_blks hNX.own
    | 1, _ => exact .same _
  refine new_frz rfl rfl rfl (one2 rfl hNB.one) ?_
  simp only [lodA_all (cs := [_, _]) (n := 2) rfl, RR]
  have heq : ∀ (τ : AH) (v : AV) (B : List BI) (K : AEnd → AH → Prop), BlksH τ v B → cont B = fcBs bs tab → K (.ret (bv true)) τ → acall TP fn_laws_eqCodeResult [.agg [iv (fcC bs tab), v], .agg [iv (fcC bs tab), roBk (fcBs bs tab)]] τ K := fun τ v B K h1 h2 h3 => by
    have := lend_eqCodeResult (c := fcC bs tab) (K := K) h1 (h2 ▸ hU) h3
    rwa [h2] at this
  refine heq _ _ _ _ hNB.own hB ?_
  simp only [RR]
  refine c_laws_toBlockS hb ?_
  have hX1 : BlksH τ1 x X := (hNX.grow hNB.sub).own
  have heqx := fun K => lend_eqBlockS (τ := τ1) (v := x) (B := X) (K := K) hX1 (hX ▸ hb)
  rw [hX] at heqx
  refine heqx _ ?_
  simp only [RR]
  have hk1 := blksK_bC hb
  have hk2 := blksK_bC hU
  have hl1 := blksK_le bs 1
  have hl2 := blksK_le (fcBs bs tab) 1
  refine c_laws_markBlockSX hX1 hNX.nd (by decide) (hX ▸ hk1) fun τ2 hX2 hfr2 => ?_
  have hB2 : BlksH τ2 v B := hNB.own.keep fun ψ hψ => hfr2 ψ fun c => by
    obtain ⟨F, e⟩ := hNX.own.live c
    rw [hNB.fr ψ hψ] at e; cases e
  have g : ¬ blksK 1 (cont X) < 0 := by rw [hX]; omega
  simp only [jn, g, lodA_all (cs := [_, _]) (n := 2) rfl, RR]
  refine heq _ _ _ _ hB2 hB ?_
  simp only [RR]
  refine c_laws_markCodeResultX hB2 hNB.nd (by decide) (hB ▸ hk2) fun τ3 hB3 _ => ?_
  simp only [lodA_all (cs := [_, _]) (n := 2) rfl, RR]
  have hcm : cont (mkBk 1 B) = mkBksD 1 (fcBs bs tab) := by rw [cont_mkBk, hB]
  refine lend_held hB3 hcm (by decide) hk2 ?_
  have g2 : ¬ blksK 1 (fcBs bs tab) < 0 := by omega
  simp only [g2, hB, dec_self, RR]
  refine c_laws_toBlockS hb ?_
  simp only [RR]
  refine c_impl_FuseCode hb fun v' B' τ4 hB' hNB' => ?_
  refine new_frz rfl rfl rfl (one2 rfl hNB'.one) ?_
  simp only [lodA_all (cs := [_, _]) (n := 2) rfl, RR]
  refine heq _ _ _ _ hNB'.own hB' ?_
  simp only [lodA_all (cs := [_, _]) (n := 2) rfl, RR]
  have hB4 : BlksH τ4 v (mkBk 1 B) := (Kp.of_sub (F := []) hNB'.sub).blks hB3 fun _ _ c => by cases c
  refine lend_held hB4 hcm (by decide) hk2 ?_
  simp only [g2, dec_self, RR]
  exact hret _
end Go.Proofs.YtlggnigbemghgaaGreatDoor.E
