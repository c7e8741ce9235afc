/- Cores as arguments: how large, copies, sameness, marks. -/
import Derived.Test.YtmmhaiidcfgbbaaGreatDoorV1
set_option linter.unusedSectionVars false
set_option linter.unusedSimpArgs false
set_option linter.unusedVariables false
namespace Go.Proofs.YtmmhaiidcfgbbaaGreatDoor.E
open Go Go.RowKit
set_option maxRecDepth 100000
def bCo (N : Nat) (cs : List Cor) : Prop := cs.length ≤ N ∧ ∀ x, x ∈ cs → x.name.size ≤ N ∧ bD N x.data
variable [L : Lam]
variable {σ τ τ' : AH} {R : AEnd → AH → Prop}
theorem c_laws_szCore {o : Cor} {l : Int} (h0 : 0 ≤ l) (h1 : l ≤ 1048576) (hb : o.name.size ≤ 9223372036854775807 ∧ bD 9223372036854775807 o.data) (h : ∀ v : Int, -1 ≤ v → v ≤ l → (0 ≤ v → o.name.size ≤ 1048576 ∧ bD 1048576 o.data) → R (.ret (iv v)) σ) : acall TP fn_laws_szCore [.agg (encCor o), iv l] σ R := by
  refine s_laws_szCore_ok ?_
  unfold s_laws_szCore
  refine box_encCor ?_
  have := hb.1
  have e : ibin .sub (iv l) (.val (.int .i64 o.name.size)) = some (iv (l - o.name.size)) := ibin_sub (by omega) (by omega)
  simp only [RR, RT, e]
  refine apick_cases (fun c => ?_) (fun c => ?_)
  · exact ret_here (h _ (by omega) (by omega) (fun h => by omega))
  have := of_decide_eq_false c
  refine c_laws_szDatumS (by omega) (by omega) hb.2 fun v h1 h2 h3 => ?_
  simp only [RR]
  refine apick_cases (fun c => ?_) (fun c => ?_)
  · exact ret_here (h _ (by omega) (by omega) (fun h => by omega))
  · exact ret_here (h _ (by omega) (by omega) (fun h4 => ⟨by omega, h3 h4⟩))
theorem c_laws_szCoreS {os : List Cor} {l : Int} (h0 : 0 ≤ l) (h1 : l ≤ 1048576) (hb : bCo 9223372036854775807 os) (h : ∀ v : Int, -1 ≤ v → v ≤ l → (0 ≤ v → bCo 1048576 os) → R (.ret (iv v)) σ) : acall TP fn_laws_szCoreS [roC os, iv l] σ R := by
  refine s_laws_szCoreS_ok ?_
  unfold s_laws_szCoreS
  have := hb.1
  have e : ibin .sub (iv l) (.val (.int .i64 os.length)) = some (iv (l - os.length)) := ibin_sub (by omega) (by omega)
  simp only [RR, len_ro, e]
  refine apick_cases (fun c => ?_) (fun c => ?_)
  · exact ret_here (h _ (by omega) (by omega) (fun h => by omega))
  have := of_decide_eq_false c
  exact count_ro (f := fn_laws_szCore) (Q := fun x => x.name.size ≤ 1048576 ∧ bD 1048576 x.data) len_encCor hb.1 (by omega) (fun x hx σ R l h0 h1 h => c_laws_szCore h0 h1 (hb.2 x hx) h) (fun v h1 h2 h3 => h v h1 (by omega) fun h4 => ⟨by omega, h3 h4⟩) (by omega)
theorem c_laws_toCore {o : Cor} (hb : o.data.length ≤ 1048576) (h : R (.ret (.agg (encCor o))) σ) : acall TP fn_laws_toCore [.agg (encCor o)] σ R := by
  refine s_laws_toCore_ok ?_
  unfold s_laws_toCore
  refine conv_frame rfl fun φ2 φ3 hne h2 h3 => ?_
  simp only [RR, RT]
  refine sto_cell (by decide) rfl ?_
  refine sto_cell (by decide) rfl ?_
  refine sto_cell (by decide) rfl ?_
  refine sto_cell (by decide) rfl ?_
  refine sto_cell (by decide) rfl ?_
  refine c_laws_toDatumS hb ?_
  simp only [RR]
  refine sto_cell (by decide) rfl ?_
  exact conv_end hne h2 h3 rfl (len_encCor o) (one_encCor o) h
theorem c_laws_toCoreS {os : List Cor} (hb : bCo 1048576 os) (h : R (.ret (roC os)) σ) : acall TP fn_laws_toCoreS [roC os] σ R := by
  have hl := hb.1
  refine s_laws_toCoreS_ok ?_
  unfold s_laws_toCoreS
  simp only [RR, len_ro]
  refine mk_LRiiiisLRiiisEE (by omega) (by omega) (by omega) fun φ hφ => ?_
  simp only [Int.toNat_natCast]
  exact copy_ro (f := fn_laws_toCore) (z := [iv 0, iv 0, iv 0, iv 0, str ⟨#[]⟩, nilS]) len_encCor one_encCor rfl hl (fun x hx σ R h => c_laws_toCore (hb.2 x hx).2.1 h) hφ h
theorem c_laws_eqCore {o : Cor} (hb : o.data.length ≤ 1048576) (h : R (.ret (bv true)) σ) : acall TP fn_laws_eqCore [.agg (encCor o), .agg (encCor o)] σ R := by
  refine s_laws_eqCore_ok ?_
  unfold s_laws_eqCore
  refine box2_frz rfl rfl ?_
  simp only [RR, RT, dec_self, sbin_neq']
  refine c_laws_eqDatumS hb ?_
  simp only [RR]
  exact ret_here h
theorem c_laws_eqCoreS {os : List Cor} (hb : bCo 1048576 os) (h : R (.ret (bv true)) σ) : acall TP fn_laws_eqCoreS [roC os, roC os] σ R := by
  refine s_laws_eqCoreS_ok ?_
  unfold s_laws_eqCoreS
  simp only [RR, len_ro, dec_self]
  exact same_ro (f := fn_laws_eqCore) len_encCor hb.1 (fun x hx σ R h => c_laws_eqCore (hb.2 x hx).2.1 h) h
/-! ### cores that are owned -/
def encCorA (c : Cor) (a : AV) : List AV := [iv c.kind, iv c.parent, iv c.a, iv c.b, str c.name, a]
abbrev innC (c : Cor) : List (List AV) := c.data.map encDat
theorem one_corA {c : Cor} {a : AV} (h : a.one = true) : ∀ y, y ∈ encCorA c a → y.one = true := by
  intro y hy
  simp only [encCorA, List.mem_cons, List.not_mem_nil, or_false] at hy
  rcases hy with rfl | rfl | rfl | rfl | rfl | rfl <;> first | rfl | exact h
theorem c_laws_toCore_own {o : Cor} (hb : o.data.length ≤ 1048576) (h : ∀ φ, σ φ = none → R (.ret (.agg (encCorA o (.own φ 0 0 o.data.length)))) (σ.set φ ⟨0, 4, o.data.map encDat⟩)) : acall TP fn_laws_toCore [.agg (encCor o)] σ R := by
  refine s_laws_toCore_ok ?_
  unfold s_laws_toCore
  refine conv_frame rfl fun φ2 φ3 hne h2 h3 => ?_
  simp only [RR, RT]
  refine sto_cell (by decide) rfl ?_
  refine sto_cell (by decide) rfl ?_
  refine sto_cell (by decide) rfl ?_
  refine sto_cell (by decide) rfl ?_
  refine sto_cell (by decide) rfl ?_
  refine c_laws_toDatumS_own hb fun φd hd => ?_
  rw [AH.set_none, AH.set_none] at hd
  simp only [RR]
  rw [AH.set_comm _ _ _ (Ne.symm hd.1), AH.set_comm _ _ _ (Ne.symm hd.2.1)]
  refine sto_cell (by decide) rfl ?_
  exact conv_end (cs := encCorA o (.own φd 0 0 o.data.length)) hne (AH.set_none.2 ⟨Ne.symm hd.2.1, h2⟩) (AH.set_none.2 ⟨Ne.symm hd.1, h3⟩) rfl rfl (one_corA rfl) (h φd hd.2.2)
theorem c_laws_toCoreSX {os : List Cor} (hb : bCo 1048576 os) (h : ∀ v (bs : List (Cor × AV)) τ, bs.map (·.1) = os → N2 encCorA 6 innC 4 σ τ v bs → R (.ret v) τ) : acall TP fn_laws_toCoreS [roC os] σ R := by
  have hl := hb.1
  refine s_laws_toCoreS_ok ?_
  unfold s_laws_toCoreS
  simp only [RR, len_ro]
  refine mk_LRiiiisLRiiisEE (by omega) (by omega) (by omega) fun φ hφ => ?_
  simp only [Int.toNat_natCast]
  refine lp_rel os.length (fun i x τ => ∃ its : List (Cor × AV), its.map (·.1) = os.take i ∧ x = (roC os, .own φ 0 0 os.length, iv (i : Int), ()) ∧ τ φ = some ⟨0, 6, (its.map fun p => encCorA p.1 p.2) ++ List.replicate (os.length - i) [iv 0, iv 0, iv 0, iv 0, str ⟨#[]⟩, nilS]⟩ ∧
      AH.Sub σ τ ∧ (∀ p, p ∈ its → Buf τ 4 p.2 (innC p.1)) ∧ (l2F its).Nodup ∧ φ ∉ l2F its ∧ ∀ ψ, ψ ∈ l2F its → σ ψ = none) ⟨[], rfl, rfl, by rw [AH.set_same]; rfl, .set (.refl σ) _ hφ, (fun p hp => by cases hp), .nil, (fun c => by cases c), fun ψ c => by cases c⟩ ?_
  rintro i _ τ hi ⟨its, hits, rfl, hF, hsub, hI, hnd, hφi, hfr⟩ R' hR'
  have hil : its.length = i := by have := congrArg List.length hits; simpa [Nat.min_eq_left hi] using this
  have live : ∀ ψ, ψ ∈ l2F its → ∃ F, τ ψ = some F := fun ψ hψ => by
    obtain ⟨p, hp, hm⟩ := List.mem_flatMap.1 hψ
    exact buf_live (hI p hp) hm
  by_cases hlt : i < os.length
  · have g : (i : Int) < (os.length : Int) := by omega
    simp only [len_ro, g, idx_ro hlt len_encCor, lodA_all (len_encCor _), RR]
    refine c_laws_toCore_own (hb.2 _ (List.getElem_mem hlt)).2.1 fun φd hd => ?_
    have hne : φ ≠ φd := by rintro rfl; rw [hF] at hd; cases hd
    have hdi : φd ∉ l2F its := not_live hd live
    have hF2 : (τ.set φd ⟨0, 4, os[i].data.map encDat⟩) φ = some ⟨0, 6, (its.map fun p => encCorA p.1 p.2) ++ List.replicate (os.length - i) [iv 0, iv 0, iv 0, iv 0, str ⟨#[]⟩, nilS]⟩ := by rw [AH.set_ne' hne]; exact hF
    have ix := idx_own (st := 0) (off := 0) hF2 hlt
    rw [Nat.zero_add] at ix
    simp only [ix, RR]
    have hrl : (its.map fun p => encCorA p.1 p.2).length = i := by simpa using hil
    refine sto_own (cs := encCorA os[i] (.own φd 0 0 os[i].data.length)) hF2 (by simp; omega) ?_ rfl rfl (one_corA rfl) ?_
    · rw [getD_end hrl (by omega)]; rfl
    rw [set_end hrl (by omega)]
    simp only [ibin_up hlt (by omega), RR]
    refine hR' _ _ _ hlt (.refl _) ⟨its ++ [(os[i], .own φd 0 0 os[i].data.length)], ?_, rfl, ?_, ?_, ?_, ?_, ?_, ?_⟩
    · rw [List.take_succ_eq_append_getElem hlt, List.map_append, hits]; rfl
    · rw [AH.set_same]
      simp only [List.map_append, List.append_assoc, List.map_cons, List.map_nil, List.singleton_append]
      rw [show os.length - i - 1 = os.length - (i + 1) by omega]
    · intro ψ F h1
      have n1 : ¬ ψ = φ := by rintro rfl; rw [hφ] at h1; cases h1
      have h2 := hsub ψ F h1
      have n2 : ¬ ψ = φd := by rintro rfl; rw [hd] at h2; cases h2
      rw [AH.set_ne' n1, AH.set_ne' n2]; exact h2
    · intro p hp
      rcases List.mem_append.1 hp with hp | hp
      · refine buf_keep (hI p hp) fun ψ hψ => ?_
        have hm : ψ ∈ l2F its := l2F_mem hp hψ
        rw [AH.set_ne' (by rintro rfl; exact hφi hm), AH.set_ne' (by rintro rfl; exact hdi hm)]
      · obtain rfl : p = (os[i], .own φd 0 0 os[i].data.length) := by simpa using hp
        exact .inr ⟨φd, 0, by simp, by rw [AH.set_ne' (Ne.symm hne), AH.set_same]⟩
    · rw [l2F_app, nodup_app]
      refine ⟨hnd, by simp [l2F, famL], fun x hx c => ?_⟩
      obtain rfl : x = φd := by simpa [l2F, famL] using c
      exact hdi hx
    · rw [l2F_app]
      intro c
      rcases List.mem_append.1 c with c | c
      · exact hφi c
      · exact hne (by simpa [l2F, famL] using c)
    · intro ψ hψ
      rw [l2F_app] at hψ
      rcases List.mem_append.1 hψ with c | c
      · exact hfr ψ c
      · obtain rfl : ψ = φd := by simpa [l2F, famL] using c
        exact hsub.none hd
  · have g : ¬ (i : Int) < (os.length : Int) := by omega
    obtain rfl : i = os.length := by omega
    simp only [len_ro, g, RR]
    rw [Nat.sub_self, List.replicate_zero, List.append_nil] at hF
    rw [List.take_length] at hits
    refine ret_here (h _ its τ hits ⟨.inr ⟨φ, 0, by simp [hil], hF⟩, hI, ?_, ?_, hsub⟩)
    · rw [nodup_app]
      exact ⟨famL_nodup _, hnd, fun x hx c => hφi (by obtain rfl : x = φ := by simpa [famL] using hx
                                                      exact c)⟩
    · intro ψ hψ
      rcases List.mem_append.1 hψ with c | c
      · obtain rfl : ψ = φ := by simpa [famL] using c
        exact hφ
      · exact hfr ψ c
theorem fz_cores {v : AV} {bs : List (Cor × AV)} (h : N2 encCorA 6 innC 4 σ τ v bs) : Fz ah0 τ v (roC (bs.map (·.1))) := by
  have h0 : N2 encCorA 6 innC 4 ah0 τ v bs := ⟨h.out, h.ins, h.nd, fun _ _ => rfl, sub_none τ⟩
  have := h0.fz (fun _ _ => rfl) (fun x c hc => by obtain ⟨o, _, rfl⟩ := List.mem_map.1 hc; rfl) (fun _ _ _ => trivial) (fun x a b j hf => by
    match j with
    | 0 => exact .same _
    | 1 => exact .same _
    | 2 => exact .same _
    | 3 => exact .same _
    | 4 => exact .same _
    | 5 => exact hf
    | j + 6 => exact .same _)
  have e : (bs.map fun p => encCorA p.1 (.ro (innC p.1))) = (bs.map (·.1)).map encCor := by simp [encCorA, encCor]
  rw [e] at this
  exact this
end Go.Proofs.YtmmhaiidcfgbbaaGreatDoor.E
