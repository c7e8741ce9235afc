/- Code that is owned: copies of arguments; what is lent. -/
import Derived.Test.YtlggnigbemghgaaGreatDoorO3
set_option linter.unusedSectionVars false
set_option linter.unusedSimpArgs false
set_option linter.unusedVariables false
namespace Go.Proofs.YtlggnigbemghgaaGreatDoor.E
open Go Go.RowKit
set_option maxRecDepth 100000
variable [L : Lam]
variable {σ τ τ' : AH} {R : AEnd → AH → Prop}
structure NewO (σ τ : AH) (v : AV) (its : Its) : Prop where
  own : OpsH τ v its
  nd : (opsF' v its).Nodup
  fr : ∀ ψ, ψ ∈ opsF' v its → σ ψ = none
  sub : AH.Sub σ τ
structure NewB (σ τ : AH) (v : AV) (bs : List BI) : Prop where
  own : BlksH τ v bs
  nd : (blksF v bs).Nodup
  fr : ∀ ψ, ψ ∈ blksF v bs → σ ψ = none
  sub : AH.Sub σ τ
theorem not_live {φ : Nat} {F : List Nat} (h : τ φ = none) (hl : ∀ ψ, ψ ∈ F → ∃ G, τ ψ = some G) : φ ∉ F := fun c => by obtain ⟨G, e⟩ := hl _ c; rw [h] at e; cases e
theorem c_laws_toOpSX {os : List OpD} (hb : bO 1048576 os) (h : ∀ v its τ, its.map (·.1) = os → NewO σ τ v its → R (.ret v) τ) : acall TP fn_laws_toOpS [roO os] σ R := by
  have hl := hb.1
  refine s_laws_toOpS_ok ?_
  unfold s_laws_toOpS
  simp only [RR, len_ro]
  refine mk_LRiiiiisLRiiisEE (by omega) (by omega) (by omega) fun φ hφ => ?_
  simp only [Int.toNat_natCast]
  refine lp_rel os.length (fun i x τ => ∃ its : Its, its.map (·.1) = os.take i ∧ x = (roO os, .own φ 0 0 os.length, iv (i : Int), ()) ∧ τ φ = some ⟨0, 7, its.map encIt ++ List.replicate (os.length - i) [iv 0, iv 0, iv 0, iv 0, iv 0, str ⟨#[]⟩, nilS]⟩ ∧
      AH.Sub σ τ ∧ ItsH τ its ∧ (itsF its).Nodup ∧ φ ∉ itsF its ∧ ∀ ψ, ψ ∈ itsF its → σ ψ = none) ⟨[], rfl, rfl, by rw [AH.set_same]; rfl, .set (.refl σ) _ hφ, (fun p hp => by cases hp), .nil, (fun c => by cases c), fun ψ c => by cases c⟩ ?_
  rintro i _ τ hi ⟨its, hits, rfl, hF, hsub, hI, hnd, hφi, hfr⟩ R' hR'
  have hil : its.length = i := by have := congrArg List.length hits; simpa [Nat.min_eq_left hi] using this
  by_cases hlt : i < os.length
  · have g : (i : Int) < (os.length : Int) := by omega
    simp only [len_ro, g, idx_ro hlt len_encOp, lodA_all (len_encOp _), RR]
    refine c_laws_toOp_own (hb.2 _ (List.getElem_mem hlt)).2.1 fun φd hd => ?_
    have hne : φ ≠ φd := by rintro rfl; rw [hF] at hd; cases hd
    have hdi : φd ∉ itsF its := not_live hd fun ψ hψ => hI.live hψ
    have hF2 : (τ.set φd ⟨0, 4, os[i].data.map encDat⟩) φ = some ⟨0, 7, its.map encIt ++ List.replicate (os.length - i) [iv 0, iv 0, iv 0, iv 0, iv 0, str ⟨#[]⟩, nilS]⟩ := by rw [AH.set_ne' hne]; exact hF
    have ix := idx_own (st := 0) (off := 0) hF2 hlt
    rw [Nat.zero_add] at ix
    simp only [ix, RR]
    have hrl : (its.map encIt).length = i := by simpa using hil
    refine sto_own (cs := encOpA os[i] (.own φd 0 0 os[i].data.length)) hF2 (by simp; omega) ?_ rfl rfl ?_ ?_
    · rw [getD_end hrl (by omega)]; rfl
    · intro y hy
      simp only [encOpA, List.mem_cons, List.not_mem_nil, or_false] at hy
      rcases hy with rfl | rfl | rfl | rfl | rfl | rfl | rfl <;> rfl
    rw [set_end hrl (by omega)]
    simp only [ibin_up hlt (by omega), RR]
    refine hR' _ _ _ hlt (.refl _) ⟨its ++ [(os[i], .own φd 0 0 os[i].data.length)], ?_, rfl, ?_, ?_, ?_, ?_, ?_, ?_⟩
    · rw [List.take_succ_eq_append_getElem hlt, List.map_append, hits]; rfl
    · rw [AH.set_same]
      simp only [List.map_append, List.append_assoc, List.map_cons, List.map_nil, List.singleton_append]
      rw [show os.length - i - 1 = os.length - (i + 1) by omega]
    · intro ψ F h1
      have n1 : ¬ ψ = φ := by rintro rfl; rw [hφ] at h1; cases h1
      have h2 := hsub ψ F h1
      have n2 : ¬ ψ = φd := by rintro rfl; rw [hd] at h2; cases h2
      rw [AH.set_ne' n1, AH.set_ne' n2]; exact h2
    · intro p hp
      rcases List.mem_append.1 hp with hp | hp
      · refine buf_keep (hI p hp) fun ψ hψ => ?_
        have hm : ψ ∈ itsF its := List.mem_flatMap.2 ⟨p, hp, hψ⟩
        rw [AH.set_ne' (by rintro rfl; exact hφi hm), AH.set_ne' (by rintro rfl; exact hdi hm)]
      · obtain rfl : p = (os[i], .own φd 0 0 os[i].data.length) := by simpa using hp
        exact .inr ⟨φd, 0, by simp, by rw [AH.set_ne' (Ne.symm hne), AH.set_same]⟩
    · rw [itsF_append, nodup_app]
      refine ⟨hnd, by simp [itsF, famL], fun x hx c => ?_⟩
      obtain rfl : x = φd := by simpa [itsF, famL] using c
      exact hdi hx
    · rw [itsF_append]
      intro c
      rcases List.mem_append.1 c with c | c
      · exact hφi c
      · exact hne (by simpa [itsF, famL] using c)
    · intro ψ hψ
      rw [itsF_append] at hψ
      rcases List.mem_append.1 hψ with c | c
      · exact hfr ψ c
      · obtain rfl : ψ = φd := by simpa [itsF, famL] using c
        exact hsub.none hd
  · have g : ¬ (i : Int) < (os.length : Int) := by omega
    obtain rfl : i = os.length := by omega
    simp only [len_ro, g, RR]
    rw [Nat.sub_self, List.replicate_zero, List.append_nil] at hF
    rw [List.take_length] at hits
    refine ret_here (h _ its τ hits ⟨⟨.inr ⟨φ, 0, by simp [hil], hF⟩, hI⟩, ?_, ?_, hsub⟩)
    · rw [opsF', nodup_app]
      exact ⟨famL_nodup _, hnd, fun x hx c => hφi (by obtain rfl : x = φ := by simpa [famL] using hx
                                                      exact c)⟩
    · intro ψ hψ
      rcases List.mem_append.1 hψ with c | c
      · obtain rfl : ψ = φ := by simpa [famL] using c
        exact hφ
      · exact hfr ψ c
theorem NewO.one {v : AV} {its : Its} (h : NewO σ τ v its) : v.one = true := by
  rcases h.own.1 with ⟨rfl | rfl, _⟩ | ⟨φ, st, rfl, _⟩ <;> rfl
theorem c_laws_toBlockX {b : Blk} (hb : bO 1048576 b.ops) (h : ∀ a its τ, its.map (·.1) = b.ops → NewO σ τ a its → R (.ret (.agg [iv b.args, a])) τ) : acall TP fn_laws_toBlock [.agg (encBlk b)] σ R := by
  refine s_laws_toBlock_ok ?_
  unfold s_laws_toBlock
  refine conv_frame rfl fun φ2 φ3 hne h2 h3 => ?_
  simp only [RR, RT]
  refine sto_cell (by decide) rfl ?_
  refine c_laws_toOpSX hb fun a its τ hits hN => ?_
  have h23 : ∀ ψ, ((σ.set φ2 ⟨0, [AV.val (Value.int IntKind.i64 0), AV.val (Value.slice none 0 0)].length, [[AV.val (Value.int IntKind.i64 0), AV.val (Value.slice none 0 0)]]⟩).set φ3 ⟨0, 2, [[AV.val (Value.int IntKind.i64 0), AV.val (Value.slice none 0 0)].set 0 (iv b.args)]⟩) ψ = none ↔ ψ ≠ φ3 ∧ ψ ≠ φ2 ∧ σ ψ = none := fun ψ => by rw [AH.set_none, AH.set_none]
  have hF3 : τ φ3 = some ⟨0, 2, [[iv b.args, nilS]]⟩ := hN.sub _ _ (AH.set_same ..)
  have hF2 : τ φ2 = some ⟨0, 2, [[iv 0, nilS]]⟩ := hN.sub _ _ (by rw [AH.set_ne' hne, AH.set_same]; rfl)
  have ha1 : a.one = true := hN.one
  simp only [RR]
  refine sto_fld hF3 rfl (by decide) (acells_one ha1) ha1 ?_
  have hd3 : ∀ ψ, ψ ≠ φ3 → ((τ.set φ3 ⟨0, 2, [[iv b.args, a]]⟩).del φ3) ψ = τ ψ := fun ψ hn => by rw [AH.del_ne _ hn, AH.set_ne' hn]
  refine ⟨.rop [iv b.args, a] 0, (τ.set φ3 ⟨0, 2, [[iv b.args, a]]⟩).del φ3, .del _ _, .ptr (AH.set_same ..) (AH.del_same ..) rfl (by simp) rfl rfl (fun j hj => .same _), ?_⟩
  simp only [lodA_all (cs := [iv b.args, a]) (n := 2) rfl, RR]
  refine sto_own (es := [[iv 0, nilS]]) (cs := [iv b.args, a]) (by rw [hd3 _ hne]; exact hF2) (by simp) rfl rfl rfl (one2 rfl ha1) ?_
  have e := lodA_at (σ := ((τ.set φ3 ⟨0, 2, [[iv b.args, a]]⟩).del φ3).set φ2 ⟨0, 2, [[iv 0, nilS]].set 0 [iv b.args, a]⟩) (φ := φ2) (st := 0) (i := 0) (n := 2) (cs := [iv b.args, a]) (AH.set_same ..) rfl rfl rfl
  simp only [e, RR]
  have hmv : ∀ ψ, ψ ≠ φ3 → ψ ≠ φ2 → (((τ.set φ3 ⟨0, 2, [[iv b.args, a]]⟩).del φ3).set φ2 ⟨0, 2, [[iv 0, nilS]].set 0 [iv b.args, a]⟩) ψ = τ ψ := fun ψ n3 n2 => by rw [AH.set_ne' n2, hd3 _ n3]
  refine ret_here (h a its _ hits ⟨hN.own.keep fun ψ hψ => ?_, hN.nd, fun ψ hψ => ((h23 ψ).1 (hN.fr ψ hψ)).2.2, fun ψ F hF => ?_⟩)
  · have := (h23 ψ).1 (hN.fr ψ hψ)
    exact hmv ψ this.1 this.2.1
  have n3 : ψ ≠ φ3 := by rintro rfl; rw [h3] at hF; cases hF
  have n2 : ψ ≠ φ2 := by rintro rfl; rw [h2] at hF; cases hF
  rw [hmv ψ n3 n2]
  refine hN.sub ψ F ?_
  rw [AH.set_ne' n3, AH.set_ne' n2]
  exact hF
theorem BisH.keep {bs : List BI} (h : BisH τ bs) (k : ∀ ψ, ψ ∈ bsF bs → τ' ψ = τ ψ) : BisH τ' bs := fun b hb => (h b hb).keep fun ψ hψ => k ψ (List.mem_flatMap.2 ⟨b, hb, hψ⟩)
theorem BisH.live {bs : List BI} (h : BisH τ bs) {ψ : Nat} (hm : ψ ∈ bsF bs) : ∃ F, τ ψ = some F := by
  obtain ⟨b, hb, hψ⟩ := List.mem_flatMap.1 hm
  exact (h b hb).live hψ
theorem c_laws_toBlockSX {bs : List Blk} (hb : bC 1048576 bs) (h : ∀ v B τ, cont B = bs → NewB σ τ v B → R (.ret v) τ) : acall TP fn_laws_toBlockS [roBk bs] σ R := by
  have hl := hb.1
  refine s_laws_toBlockS_ok ?_
  unfold s_laws_toBlockS
  simp only [RR, len_ro]
  refine mk_LRiLRiiiiisLRiiisEEE (by omega) (by omega) (by omega) fun φ hφ => ?_
  simp only [Int.toNat_natCast]
  refine lp_rel bs.length (fun i x τ => ∃ B : List BI, cont B = bs.take i ∧ x = (roBk bs, .own φ 0 0 bs.length, iv (i : Int), ()) ∧ τ φ = some ⟨0, 2, B.map encBI ++ List.replicate (bs.length - i) [iv 0, nilS]⟩ ∧
      AH.Sub σ τ ∧ BisH τ B ∧ (bsF B).Nodup ∧ φ ∉ bsF B ∧ ∀ ψ, ψ ∈ bsF B → σ ψ = none) ⟨[], rfl, rfl, by rw [AH.set_same]; rfl, .set (.refl σ) _ hφ, (fun p hp => by cases hp), .nil, (fun c => by cases c), fun ψ c => by cases c⟩ ?_
  rintro i _ τ hi ⟨B, hits, rfl, hF, hsub, hI, hnd, hφi, hfr⟩ R' hR'
  have hil : B.length = i := by have := congrArg List.length hits; simpa [cont, Nat.min_eq_left hi] using this
  by_cases hlt : i < bs.length
  · have g : (i : Int) < (bs.length : Int) := by omega
    simp only [len_ro, g, idx_ro hlt len_encBlk, lodA_all (len_encBlk _), RR]
    refine c_laws_toBlockX (hb.2 _ (List.getElem_mem hlt)) fun a its τ2 hits2 hN => ?_
    have hF2 : τ2 φ = some ⟨0, 2, B.map encBI ++ List.replicate (bs.length - i) [iv 0, nilS]⟩ := hN.sub _ _ hF
    have hφo : φ ∉ opsF' a its := fun c => by have := hN.fr φ c; rw [hF] at this; cases this
    have hdj : ∀ ψ, ψ ∈ bsF B → ψ ∉ opsF' a its := fun ψ h1 h2 => by obtain ⟨F, e⟩ := hI.live h1; rw [hN.fr ψ h2] at e; cases e
    have ix := idx_own (st := 0) (off := 0) hF2 hlt
    rw [Nat.zero_add] at ix
    simp only [ix, RR]
    have hrl : (B.map encBI).length = i := by simpa using hil
    refine sto_own (cs := [iv bs[i].args, a]) hF2 (by simp; omega) ?_ rfl rfl (one2 rfl hN.one) ?_
    · rw [getD_end hrl (by omega)]; rfl
    rw [set_end hrl (by omega)]
    simp only [ibin_up hlt (by omega), RR]
    refine hR' _ _ _ hlt (.refl _) ⟨B ++ [⟨bs[i].args, a, its⟩], ?_, rfl, ?_, ?_, ?_, ?_, ?_, ?_⟩
    · rw [List.take_succ_eq_append_getElem hlt, cont, List.map_append, ← cont, hits]
      simp only [List.map_cons, List.map_nil, hits2]
    · rw [AH.set_same]
      simp only [List.map_append, List.append_assoc, List.map_cons, List.map_nil, List.singleton_append]
      rw [show bs.length - i - 1 = bs.length - (i + 1) by omega]
    · intro ψ F h1
      have n1 : ¬ ψ = φ := by rintro rfl; rw [hφ] at h1; cases h1
      rw [AH.set_ne' n1]; exact hN.sub _ _ (hsub ψ F h1)
    · intro p hp
      rcases List.mem_append.1 hp with hp | hp
      · refine (hI p hp).keep fun ψ hψ => ?_
        have hm : ψ ∈ bsF B := List.mem_flatMap.2 ⟨p, hp, hψ⟩
        obtain ⟨F, e⟩ := hI.live hm
        rw [AH.set_ne' (by rintro rfl; exact hφi hm), e]
        exact hN.sub _ _ e
      · obtain rfl : p = ⟨bs[i].args, a, its⟩ := by simpa using hp
        exact hN.own.keep fun ψ hψ => AH.set_ne' (by rintro rfl; exact hφo hψ)
    · rw [bsF_app, nodup_app]
      refine ⟨hnd, by simpa [bsF, biF] using hN.nd, fun x hx c => hdj x hx (by simpa [bsF, biF] using c)⟩
    · rw [bsF_app]
      intro c
      rcases List.mem_append.1 c with c | c
      · exact hφi c
      · exact hφo (by simpa [bsF, biF] using c)
    · intro ψ hψ
      rw [bsF_app] at hψ
      rcases List.mem_append.1 hψ with c | c
      · exact hfr ψ c
      · exact hsub.none (hN.fr ψ (by simpa [bsF, biF] using c))
  · have g : ¬ (i : Int) < (bs.length : Int) := by omega
    obtain rfl : i = bs.length := by omega
    simp only [len_ro, g, RR]
    rw [Nat.sub_self, List.replicate_zero, List.append_nil] at hF
    rw [List.take_length] at hits
    refine ret_here (h _ B τ hits ⟨⟨.inr ⟨φ, 0, by simp [hil], hF⟩, hI⟩, ?_, ?_, hsub⟩)
    · rw [blksF, nodup_app]
      exact ⟨famL_nodup _, hnd, fun x hx c => hφi (by obtain rfl : x = φ := by simpa [famL] using hx
                                                      exact c)⟩
    · intro ψ hψ
      rcases List.mem_append.1 hψ with c | c
      · obtain rfl : ψ = φ := by simpa [famL] using c
        exact hφ
      · exact hfr ψ c
theorem NewB.one {v : AV} {bs : List BI} (h : NewB σ τ v bs) : v.one = true := by
  rcases h.own.1 with ⟨rfl | rfl, _⟩ | ⟨φ, st, rfl, _⟩ <;> rfl
/-! ### lent -/
theorem nomH_none : NomH ah0 := fun φ F h => by cases h
theorem thaw_none (σ : AH) : thaw ah0 σ ah0 = σ := by
  funext φ
  unfold thaw
  cases e : σ φ <;> simp [ah0]
theorem sub_none (τ : AH) : AH.Sub ah0 τ := fun φ F h => by cases h
/-- A call that only reads. -/
theorem lend_val {f : FuncId} {args args' : List AV} {v : AV} {K : AEnd → AH → Prop} (hv : Nom v) (hl : args.length = args'.length) (hf : ∀ i, i < args.length → Fz ah0 τ (args.getD i .any) (args'.getD i .any))
    (h : ∀ R : AEnd → AH → Prop, R (.ret v) ah0 → acall TP f args' ah0 R) (hK : K (.ret v) τ) : acall TP f args τ K := by
  refine (acall_lend (σ0 := ah0) (args := args) (args' := args') (Q := fun e σ1 => e = .ret v ∧ σ1 = ah0) (sub_none τ) hl hf (h _ ⟨hv, nomH_none, rfl, rfl⟩)).mono ?_
  rintro e σ' ⟨σ1, ⟨rfl, rfl⟩, rfl, _⟩
  rw [thaw_none]
  exact hK
theorem fz0_blks {v : AV} {bs : List BI} (h : BlksH τ v bs) : Fz ah0 τ v (roBk (cont bs)) := fz_blks h fun _ _ => rfl
theorem lend_eqCodeResult {c : Int} {v : AV} {B : List BI} {K : AEnd → AH → Prop} (h : BlksH τ v B) (hb : bC 1048576 (cont B)) (hK : K (.ret (bv true)) τ) : acall TP fn_laws_eqCodeResult [.agg [iv c, v], .agg [iv c, roBk (cont B)]] τ K := by
  refine lend_val (args' := [.agg [iv c, roBk (cont B)], .agg [iv c, roBk (cont B)]]) (.val _) rfl (fun i hi => ?_) (fun R hR => c_laws_eqCodeResult hb hR) hK
  match i, hi with
  | 0, _ => exact Fz.agg2 (.same _) (fz0_blks h)
  | 1, _ => exact .same _
theorem lend_eqBlockS {v : AV} {B : List BI} {K : AEnd → AH → Prop} (h : BlksH τ v B) (hb : bC 1048576 (cont B)) (hK : K (.ret (bv true)) τ) : acall TP fn_laws_eqBlockS [v, roBk (cont B)] τ K := by
  refine lend_val (args' := [roBk (cont B), roBk (cont B)]) (.val _) rfl (fun i hi => ?_) (fun R hR => c_laws_eqBlockS hb hR) hK
  match i, hi with
  | 0, _ => exact fz0_blks h
  | 1, _ => exact .same _
theorem lend_held {c k : Int} {v : AV} {B : List BI} {bs : List Blk} {K : AEnd → AH → Prop} (h : BlksH τ v B) (hB : cont B = mkBksD k bs) (h0 : 0 ≤ k) (h1 : blksK k bs ≤ 9000000000000000000) (hK : K (.ret (iv (blksK k bs))) τ) : acall TP fn_laws_heldCodeResult [.agg [iv c, v], iv k] τ K := by
  refine lend_val (args' := [.agg [iv c, roBk (mkBksD k bs)], iv k]) (.val _) rfl (fun i hi => ?_) (fun R hR => c_laws_heldCodeResult h0 h1 hR) hK
  match i, hi with
  | 0, _ => exact Fz.agg2 (.same _) (hB ▸ fz0_blks h)
  | 1, _ => exact .same _
end Go.Proofs.YtlggnigbemghgaaGreatDoor.E
