/- Code that is taken apart: the reference's way. -/
import Derived.Test.YtlggnigbemghgaaGreatDoorS1
set_option linter.unusedSectionVars false
set_option linter.unusedSimpArgs false
set_option linter.unusedVariables false
namespace Go.Proofs.YtlggnigbemghgaaGreatDoor.E
open Go Go.RowKit
set_option maxRecDepth 100000
variable [L : Lam]
variable {σ τ τ' : AH} {R : AEnd → AH → Prop}
theorem bslR2 {z r1 r2 : List AV} {x y : AV} {k : AV → Prop} (he : afillS 7 [z, z] [(0, x), (1, y)] = some [r1, r2]) (h1 : r1.length = 7) (h2 : r2.length = 7) (h : k (.ro [r1, r2])) : og (bslR 7 z 2 [(0, x), (1, y)]) k := by
  have e : List.replicate 2 z = [z, z] := rfl
  have e2 : bslR 7 z 2 [(0, x), (1, y)] = some (.ro [r1, r2]) := by
    unfold bslR
    rw [e, he]
    simp only
    rw [if_pos ⟨by omega, by intro c hc; simp at hc; rcases hc with rfl | rfl <;> assumption⟩]
    rfl
  rw [e2]
  exact h
set_option maxHeartbeats 1000000 in
theorem c_spec_l11Split {o : OpD} {a : AV} {φ st i : Nat} {F : Fam} (hF : σ φ = some F) (hst : F.st = st) (hr : F.es[i]? = some (encOpA o a)) (hA : Buf σ 4 a (o.data.map encDat))
    (h : ∀ x τ', aelems τ' x = some ((splitP (o, a)).map encIt) → AH.Sub σ τ' → R (.ret x) τ') : acall TP fn_spec_l11Split [.ptr φ st i 0] σ R := by
  have ha1 := hA.av1
  have hrg : F.es.getD i [] = encOpA o a := by simp [List.getD, hr]
  refine s_spec_l11Split_ok ?_
  unfold s_spec_l11Split
  have lo : ∀ (k : Nat) (v : AV), (encOpA o a)[k]? = some v → lod (.ptr φ st i k) σ = some v := fun k v h => lod_at hF hst (by rw [hrg]; exact h)
  have l0 := lo 0 _ rfl
  have l1 := lo 1 _ rfl
  have l2 := lo 2 _ rfl
  have l3 := lo 3 _ rfl
  have l4 := lo 4 _ rfl
  have l6 := lo 6 _ rfl
  have b1 : bld [(.val (.int .i64 0)), (.val (.int .i64 0)), (.val (.int .i64 0)), (.val (.int .i64 0)), (.val (.int .i64 0)), (.val (.string ⟨#[]⟩)), (.val (.slice none 0 0))] [(0, 1), (1, 1), (2, 1), (3, 1), (4, 1), (5, 1), (6, 1)] [(0, (.val (.int .i64 2))), (1, iv o.a), (2, iv o.b)] = some (.agg (encOpA (locO o) nilS)) := rfl
  have b2 : bld [(.val (.int .i64 0)), (.val (.int .i64 0)), (.val (.int .i64 0)), (.val (.int .i64 0)), (.val (.int .i64 0)), (.val (.string ⟨#[]⟩)), (.val (.slice none 0 0))] [(0, 1), (1, 1), (2, 1), (3, 1), (4, 1), (5, 1), (6, 1)] [(0, (.val (.int .i64 12)))] = some (.agg (encOpA retO nilS)) := rfl
  have b3 : bld [(.val (.int .i64 0)), (.val (.int .i64 0)), (.val (.int .i64 0)), (.val (.int .i64 0)), (.val (.int .i64 0)), (.val (.string ⟨#[]⟩)), (.val (.slice none 0 0))] [(0, 1), (1, 1), (2, 1), (3, 1), (4, 1), (5, 1), (6, 1)] [(0, (.val (.int .i64 2))), (1, iv o.c), (2, iv o.d)] = some (.agg (encOpA (loc2 o) nilS)) := rfl
  have b4 : bld [(.val (.int .i64 0)), (.val (.int .i64 0)), (.val (.int .i64 0)), (.val (.int .i64 0)), (.val (.int .i64 0)), (.val (.string ⟨#[]⟩)), (.val (.slice none 0 0))] [(0, 1), (1, 1), (2, 1), (3, 1), (4, 1), (5, 1), (6, 1)] [(0, (.val (.int .i64 6))), (1, iv o.c)] = some (.agg (encOpA (ifnO o) nilS)) := rfl
  have b5 := bld_data (o := o) hA
  have eL : ∀ τ, lodA 7 (.rop (encOpA (locO o) nilS) 0) τ = some (.agg (encOpA (locO o) nilS)) := fun _ => rfl
  have eA : lodA 7 (.ptr φ st i 0) σ = some (.agg (encOpA o a)) := lodA_at hF hst hr rfl
  simp only [l1, l2, b1, true_and, RR]
  refine new_frz rfl rfl rfl (one7 rfl) ?_
  simp only [l0, RR]
  unfold splitP at h
  by_cases c1 : o.kind = 13
  · rw [if_pos c1] at h
    simp only [c1, l6, b5, b2, Int.reduceEq, RR]
    refine bsl2 (sz := 7) rfl (by omega) fun ψ hψ => ?_
    exact ret_here (h _ _ (ael_n (es := [_, _])) (.set (.refl σ) _ hψ))
  rw [if_neg c1] at h
  by_cases c2 : o.kind = 14
  · rw [if_pos c2] at h
    simp only [c2, eL, b2, Int.reduceEq, RR]
    refine bsl2 (sz := 7) rfl (by omega) fun ψ hψ => ?_
    exact ret_here (h _ _ (ael_n (es := [_, _])) (.set (.refl σ) _ hψ))
  rw [if_neg c2] at h
  by_cases c3 : o.kind = 15
  · rw [if_pos c3] at h
    simp only [c3, eL, l3, l4, b3, Int.reduceEq, RR]
    refine bslR2 rfl rfl rfl ?_
    exact ret_here (h _ _ rfl (.refl σ))
  rw [if_neg c3] at h
  by_cases c4 : o.kind = 16
  · rw [if_pos c4] at h
    simp only [c4, eL, l3, b4, Int.reduceEq, RR]
    refine bslR2 rfl rfl rfl ?_
    exact ret_here (h _ _ rfl (.refl σ))
  rw [if_neg c4] at h
  simp only [c1, c2, c3, c4, eA, RR]
  refine bsl1 (sz := 7) rfl (by omega) fun ψ hψ => ?_
  exact ret_here (h _ _ (ael_n (es := [_])) (.set (.refl σ) _ hψ))
theorem c_spec_l11Turn {w u : AV} {W : Its} {xs : List Int} (hW : Buf τ 7 w (W.map encIt)) (hu : Buf τ 1 u (ivs xs)) (hd : ∀ ψ, ψ ∈ famL w → ψ ∉ famL u) (ht : ∀ p, p ∈ W → 0 ≤ p.1.a ∧ 0 ≤ p.1.c ∧ okT xs.length p.1) (hl : W.length ≤ 4294967296)
    (h : ∀ τ', Buf τ' 7 w ((W.map (turnP xs)).map encIt) → (∀ ψ, ψ ∉ famL w → τ' ψ = τ ψ) → R (.ret w) τ') : acall TP fn_spec_l11Turn [w, u] τ R := by
  refine s_spec_l11Turn_ok ?_
  unfold s_spec_l11Turn
  have hlen := buf_len hW
  rw [show (W.map encIt).length = W.length by simp] at hlen
  refine lp_by (fun n x τ' => ∃ don rest : Its, W = don ++ rest ∧ rest.length = n ∧ x = (w, u, iv (don.length : Int), ()) ∧ Buf τ' 7 w ((don.map (turnP xs) ++ rest).map encIt) ∧ ∀ ψ, ψ ∉ famL w → τ' ψ = τ ψ) W.length ⟨[], W, rfl, rfl, rfl, hW, fun _ _ => rfl⟩ ?_
  rintro n x τ1 ⟨don, rest, hit, hrl, rfl, hB, hfr⟩ R' hR'
  simp only [hlen, RR]
  cases rest with
  | nil =>
    rw [List.append_nil] at hit
    subst hit
    rw [List.append_nil] at hB
    have g : ¬ (W.length : Int) < (W.length : Int) := by omega
    simp only [g, RR]
    exact ret_here (h τ1 hB hfr)
  | cons p r =>
    have hi : don.length < W.length := by rw [hit]; simp
    have g : (don.length : Int) < (W.length : Int) := by omega
    have hu1 : Buf τ1 1 u (ivs xs) := buf_keep hu fun ψ hψ => hfr ψ fun c => hd ψ c hψ
    have hle : ((don.map (turnP xs) ++ p :: r).map encIt).length = W.length := by rw [hit]; simp
    obtain ⟨φ, st, hw, hF⟩ := buf_own hB (by simp)
    rw [hle] at hw
    subst hw
    have hpl : ((don.map (turnP xs)).map encIt).length = don.length := by simp
    have hset : τ1 = τ1.set φ ⟨st, 7, (don.map (turnP xs)).map encIt ++ encIt p :: r.map encIt⟩ := by
      rw [AH.set_self]; rw [hF]; simp
    have hrow : ((don.map (turnP xs) ++ p :: r).map encIt).getD don.length [] = encOpA p.1 p.2 := by simp [List.getD]
    obtain ⟨ha0, hc0, hto⟩ := ht p (by rw [hit]; simp)
    have fin : ∀ (q : OpD × AV) (row : List AV), row = encIt q → q = turnP xs p → R' (.own φ st 0 W.length, u, iv ((don.length + 1 : Nat) : Int), ()) (τ1.set φ ⟨st, 7, (don.map (turnP xs)).map encIt ++ row :: r.map encIt⟩) := by
      rintro q row rfl rfl
      refine hR' _ _ r.length _ (by rw [← hrl]; simp) (.refl _) ⟨don ++ [p], r, by simp [hit], rfl, by simp; rfl, .inr ⟨φ, st, by rw [hit]; simp, by rw [AH.set_same]; simp⟩, fun ψ hψ => ?_⟩
      rw [AH.set_ne' (by rintro rfl; exact hψ (by simp [famL]))]
      exact hfr ψ hψ
    have ix := idx_own (st := st) (off := 0) hF hi
    rw [Nat.zero_add] at ix
    have l0 : lod (.ptr φ st don.length 0) τ1 = some (iv p.1.kind) := lod_at hF rfl (by rw [hrow]; rfl)
    simp only [g, jn, ix, l0, RR]
    unfold okT tgtN at hto
    by_cases c1 : p.1.kind = 5 ∨ p.1.kind = 6
    · rw [if_pos c1] at hto
      have l1 : lod (.ptr φ st don.length 1) τ1 = some (iv p.1.a) := lod_at hF rfl (by rw [hrow]; rfl)
      obtain ⟨q, q1, q2⟩ := buf_rd (j := p.1.a.toNat) hu1 (by omega)
      rw [Int.toNat_of_nonneg ha0] at q1
      have goal : ∀ K : AH → Prop, (K (τ1.set φ ⟨st, 7, (don.map (turnP xs)).map encIt ++ (encIt p).set 1 (iv (atH xs p.1.a.toNat)) :: r.map encIt⟩)) → sto 1 (.ptr φ st don.length 1) (iv (atH xs p.1.a.toNat)) τ1 K := by
        intro K hK
        rw [hset]
        refine sto_at hpl (by omega) rfl ?_
        exact hK
      have fin1 := fin (turnP xs p) ((encIt p).set 1 (iv (atH xs p.1.a.toNat))) (by simp [turnP, turnO, c1, encOpA]) rfl
      by_cases c5 : p.1.kind = 5
      · simp only [c5, Int.reduceEq, l1, q1, q2, ix, RR]
        refine goal _ ?_
        simp only [ibin_up hi (by omega), RR]
        exact fin1
      · have c6 : p.1.kind = 6 := c1.resolve_left c5
        simp only [c6, Int.reduceEq, l1, q1, q2, ix, RR]
        refine goal _ ?_
        simp only [ibin_up hi (by omega), RR]
        exact fin1
    have n5 : ¬ p.1.kind = 5 := fun c => c1 (.inl c)
    have n6 : ¬ p.1.kind = 6 := fun c => c1 (.inr c)
    rw [if_neg c1] at hto
    by_cases c2 : p.1.kind = 16
    · rw [if_pos c2] at hto
      have l1 : lod (.ptr φ st don.length 3) τ1 = some (iv p.1.c) := lod_at hF rfl (by rw [hrow]; rfl)
      obtain ⟨q, q1, q2⟩ := buf_rd (j := p.1.c.toNat) hu1 (by omega)
      rw [Int.toNat_of_nonneg hc0] at q1
      simp only [c2, Int.reduceEq, l1, q1, q2, ix, RR]
      rw [hset]
      refine sto_at hpl (by omega) rfl ?_
      simp only [ibin_up hi (by omega), RR]
      exact fin (turnP xs p) _ (by simp [turnP, turnO, c2, encOpA]) rfl
    simp only [n5, n6, c2, ibin_up hi (by omega), RR]
    rw [hset]
    exact fin p _ rfl (by simp [turnP, turnO, c1, c2])
end Go.Proofs.YtlggnigbemghgaaGreatDoor.E
