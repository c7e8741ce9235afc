/- Targets. -/
import Derived.Test.YtmmhaiidcfgbbaaGreatDoorP9
set_option linter.unusedSectionVars false
set_option linter.unusedSimpArgs false
set_option linter.unusedVariables false
namespace Go.Proofs.YtmmhaiidcfgbbaaGreatDoor.E
open Go Go.RowKit
variable [L : Lam]
variable {σ : AH} {R : AEnd → AH → Prop}
abbrev ivs (xs : List Int) : List (List AV) := xs.map fun x => [iv x]
/-- A slice that is at the end of its family takes one number more. -/
theorem push_own {φ st off n : Nat} {es : List (List AV)} {x : Int} {k : AV → AH → Prop} (hF : σ φ = some ⟨st, 1, es⟩) (hl : es.length = off + n) (hb : n + 1 ≤ 4294967296)
    (h : ∀ ψ st', σ ψ = none → k (.own φ st' off (n + 1)) ((σ.set ψ ⟨0, 1, [[iv x]]⟩).set φ ⟨st', 1, es ++ [[iv x]]⟩)) : bsl 1 [iv 0] 1 [(0, iv x)] σ fun v σ => app 1 (.own φ st off n) v σ k := by
  refine ⟨by decide, ?_⟩
  rw [if_neg (by decide)]
  intro ψ hψ
  have hne : φ ≠ ψ := by rintro rfl; rw [hF] at hψ; cases hψ
  show app 1 (.own φ st off n) (.own ψ 0 0 1) (σ.set ψ ⟨0, 1, [[iv x]]⟩) k
  unfold app
  have e : aelems (σ.set ψ ⟨0, 1, [[iv x]]⟩) (.own ψ 0 0 1) = some [[iv x]] := by simp [aelems]
  have e2 : (σ.set ψ ⟨0, 1, [[iv x]]⟩) φ = some ⟨st, 1, es⟩ := by rw [AH.set_ne' hne]; exact hF
  rw [e]
  simp only [e2]
  refine ⟨by simp, trivial, trivial, by omega, by simpa using hb, by intro c hc y hy; simp at hc; subst hc; simp at hy; subst hy; rfl, ?_⟩
  have c : ¬ off + n + [[iv x]].length ≤ es.length := by simp; omega
  simp only [if_neg c]
  have e3 : es.take (off + n) ++ [[iv x]] ++ es.drop (off + n + [[iv x]].length) = es ++ [[iv x]] := by
    rw [List.take_of_length_le (by omega), List.drop_eq_nil_of_le (by simp; omega)]; simp
  rw [e3]
  exact h ψ (st + 1) hψ
/-- The first number of a slice. -/
theorem push_emp {x : Int} {k : AV → AH → Prop} (h : ∀ ψ φ, σ ψ = none → σ φ = none → φ ≠ ψ → k (.own φ 0 0 1) ((σ.set ψ ⟨0, 1, [[iv x]]⟩).set φ ⟨0, 1, [[iv x]]⟩)) : bsl 1 [iv 0] 1 [(0, iv x)] σ fun v σ => app 1 .emp v σ k := by
  refine ⟨by decide, ?_⟩
  rw [if_neg (by decide)]
  intro ψ hψ
  show app 1 .emp (.own ψ 0 0 1) (σ.set ψ ⟨0, 1, [[iv x]]⟩) k
  unfold app
  have e : aelems (σ.set ψ ⟨0, 1, [[iv x]]⟩) (.own ψ 0 0 1) = some [[iv x]] := by simp [aelems]
  rw [e]
  refine ⟨by simp, by simp, by simp, fun _ φ hφ => ?_⟩
  rw [AH.set_none] at hφ
  exact h ψ φ hψ hφ.2 hφ.1
/-- A slice that only grows: none yet, or the whole of a family that is nobody else's. -/
def Gr (σ τ : AH) (a : AV) (xs : List Int) : Prop := (a = .emp ∧ xs = [] ∧ τ = σ) ∨ ∃ φ st, σ φ = none ∧ a = .own φ st 0 xs.length ∧ τ = σ.set φ ⟨st, 1, ivs xs⟩
theorem Gr.push {τ : AH} {a : AV} {xs : List Int} {x : Int} {k : AV → AH → Prop} (h : Gr σ τ a xs) (hb : xs.length + 1 ≤ 4294967296) (hk : ∀ a' τ' τ'', Gr σ τ' a' (xs ++ [x]) → AH.Sub τ' τ'' → k a' τ'') : bsl 1 [iv 0] 1 [(0, iv x)] τ fun v τ => app 1 a v τ k := by
  rcases h with ⟨rfl, rfl, rfl⟩ | ⟨φ, st, hφ, rfl, rfl⟩
  · refine push_emp fun ψ φ h1 h2 h3 => hk _ (τ.set φ ⟨0, 1, [[iv x]]⟩) _ (.inr ⟨φ, 0, h2, rfl, rfl⟩) ?_
    exact AH.Sub.set_both (.set (.refl τ) _ h1) _ _
  · refine push_own (AH.set_same ..) (by simp) (by simpa using hb) fun ψ st' h1 => ?_
    rw [AH.set_none] at h1
    have e : ((σ.set φ ⟨st, 1, ivs xs⟩).set ψ ⟨0, 1, [[iv x]]⟩).set φ ⟨st', 1, ivs xs ++ [[iv x]]⟩ = (σ.set ψ ⟨0, 1, [[iv x]]⟩).set φ ⟨st', 1, ivs (xs ++ [x])⟩ := by
      rw [AH.set_comm _ _ _ (Ne.symm h1.1), AH.set_set]; simp [ivs]
    rw [e]
    exact hk _ (σ.set φ ⟨st', 1, ivs (xs ++ [x])⟩) _ (.inr ⟨φ, st', hφ, by simp, rfl⟩) (AH.Sub.set_both (.set (.refl σ) _ h1.2) _ _)
def tgts (os : List OpD) : List Int := (os.map tgtN).filter fun t => decide (0 ≤ t)
theorem tgts_take {os : List OpD} {i : Nat} (h : i < os.length) : tgts (os.take (i + 1)) = tgts (os.take i) ++ if 0 ≤ tgtN os[i] then [tgtN os[i]] else [] := by
  unfold tgts
  rw [List.take_succ_eq_append_getElem h, List.map_append, List.filter_append]
  congr 1
  simp only [List.map_cons, List.map_nil, List.filter_cons, List.filter_nil, decide_eq_true_eq]
theorem tgts_len (os : List OpD) : (tgts os).length ≤ os.length := by
  unfold tgts
  exact Nat.le_trans (List.length_filter_le _ _) (by simp)
theorem mem_tgts {os : List OpD} {t : Int} : t ∈ tgts os ↔ 0 ≤ t ∧ ∃ o, o ∈ os ∧ tgtN o = t := by
  unfold tgts
  rw [List.mem_filter, List.mem_map, decide_eq_true_eq]
  constructor
  · rintro ⟨⟨o, h1, h2⟩, h3⟩; exact ⟨h3, o, h1, h2⟩
  · rintro ⟨h3, o, h1, h2⟩; exact ⟨⟨o, h1, h2⟩, h3⟩
theorem fz_ints {φ st n : Nat} {es : List (List AV)} {xs : List Int} (hφ : σ φ = none) (hn : xs.length = n) (h : ∀ (i : Nat) (hi : i < xs.length), es[i]? = some [iv xs[i]]) : Fz σ (σ.set φ ⟨st, 1, es⟩) (.own φ st 0 n) (.ro (ivs xs)) := by
  have hl : xs.length ≤ es.length := by
    rcases Nat.lt_or_ge es.length xs.length with c | c
    · have := (List.getElem?_eq_some_iff.1 (h es.length c)).1; omega
    · exact c
  refine .own (AH.set_same ..) hφ rfl (by simp only; omega) (by simp [hn]) (fun i hi => ?_) (fun i j hi hj => ?_)
  · have : i < xs.length := by omega
    simp [this]
  · have hi' : i < xs.length := by omega
    have hj : j < 1 := hj
    obtain rfl : j = 0 := by omega
    have e1 : (es.getD (0 + i) []).getD 0 .any = iv xs[i] := by simp [List.getD, h i hi']
    have e2 : ((ivs xs).getD i []).getD 0 .any = iv xs[i] := by simp [hi']
    simp only
    rw [e1, e2]
    exact .same _
theorem len_own {φ st off n : Nat} : lenS (.own φ st off n) = some (iv (n : Int)) := rfl
end Go.Proofs.YtmmhaiidcfgbbaaGreatDoor.E
