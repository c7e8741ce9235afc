/- Code that is owned: lists of blocks, of operations, of data, each in a family of its own. -/
import Derived.Test.YtmmhaiidcfgbbaaGreatDoorP19
set_option linter.unusedSectionVars false
set_option linter.unusedSimpArgs false
set_option linter.unusedVariables false
namespace Go.Proofs.YtmmhaiidcfgbbaaGreatDoor.E
open Go Go.RowKit
set_option maxRecDepth 100000
/-- The families in which a slice lies. -/
def famL : AV → List Nat
  | .own φ _ _ _ => [φ]
  | _ => []
theorem famL_mem {a : AV} {ψ : Nat} : ψ ∈ famL a ↔ Buf.fam a ψ := by
  constructor
  · intro h
    cases a with
    | own φ st off n =>
      obtain rfl : ψ = φ := by simpa [famL] using h
      exact ⟨st, off, n, rfl⟩
    | _ => simp [famL] at h
  · rintro ⟨st, off, n, rfl⟩
    simp [famL]
/-- Operations: what they say, and the slice of each one's data. -/
abbrev Its := List (OpD × AV)
def itsF (its : Its) : List Nat := its.flatMap fun p => famL p.2
def opsF' (v : AV) (its : Its) : List Nat := famL v ++ itsF its
structure BI where
  args : Int
  av : AV
  its : Its
def biF (b : BI) : List Nat := opsF' b.av b.its
def blksF (v : AV) (bs : List BI) : List Nat := famL v ++ bs.flatMap biF
section
variable [L : Lam]
variable {σ τ τ' : AH} {R : AEnd → AH → Prop}
def ItsH (τ : AH) (its : Its) : Prop := ∀ p, p ∈ its → Buf τ 4 p.2 (p.1.data.map encDat)
def OpsH (τ : AH) (v : AV) (its : Its) : Prop := Buf τ 7 v (its.map fun p => encOpA p.1 p.2) ∧ ItsH τ its
def BlksH (τ : AH) (v : AV) (bs : List BI) : Prop := Buf τ 2 v (bs.map fun b => [iv b.args, b.av]) ∧ ∀ b, b ∈ bs → OpsH τ b.av b.its
theorem buf_keep {sz : Nat} {a : AV} {es : List (List AV)} (h : Buf τ sz a es) (k : ∀ ψ, ψ ∈ famL a → τ' ψ = τ ψ) : Buf τ' sz a es := h.keep fun ψ hf => k ψ (famL_mem.2 hf)
theorem ItsH.keep {its : Its} (h : ItsH τ its) (k : ∀ ψ, ψ ∈ itsF its → τ' ψ = τ ψ) : ItsH τ' its :=
  fun p hp => buf_keep (h p hp) fun ψ hψ => k ψ (List.mem_flatMap.2 ⟨p, hp, hψ⟩)
theorem OpsH.keep {v : AV} {its : Its} (h : OpsH τ v its) (k : ∀ ψ, ψ ∈ opsF' v its → τ' ψ = τ ψ) : OpsH τ' v its :=
  ⟨buf_keep h.1 fun ψ hψ => k ψ (List.mem_append_left _ hψ), h.2.keep fun ψ hψ => k ψ (List.mem_append_right _ hψ)⟩
theorem BlksH.keep {v : AV} {bs : List BI} (h : BlksH τ v bs) (k : ∀ ψ, ψ ∈ blksF v bs → τ' ψ = τ ψ) : BlksH τ' v bs :=
  ⟨buf_keep h.1 fun ψ hψ => k ψ (List.mem_append_left _ hψ), fun b hb => (h.2 b hb).keep fun ψ hψ => k ψ (List.mem_append_right _ (List.mem_flatMap.2 ⟨b, hb, hψ⟩))⟩
theorem buf_live {sz : Nat} {a : AV} {es : List (List AV)} (h : Buf τ sz a es) {ψ : Nat} (hm : ψ ∈ famL a) : ∃ F, τ ψ = some F := h.fam_some (famL_mem.1 hm)
theorem ItsH.live {its : Its} (h : ItsH τ its) {ψ : Nat} (hm : ψ ∈ itsF its) : ∃ F, τ ψ = some F := by
  obtain ⟨p, hp, hψ⟩ := List.mem_flatMap.1 hm
  exact buf_live (h p hp) hψ
theorem OpsH.live {v : AV} {its : Its} (h : OpsH τ v its) {ψ : Nat} (hm : ψ ∈ opsF' v its) : ∃ F, τ ψ = some F := by
  rcases List.mem_append.1 hm with hm | hm
  · exact buf_live h.1 hm
  · exact h.2.live hm
theorem BlksH.live {v : AV} {bs : List BI} (h : BlksH τ v bs) {ψ : Nat} (hm : ψ ∈ blksF v bs) : ∃ F, τ ψ = some F := by
  rcases List.mem_append.1 hm with hm | hm
  · exact buf_live h.1 hm
  · obtain ⟨b, hb, hψ⟩ := List.mem_flatMap.1 hm
    exact (h.2 b hb).live hψ
/-! ### frozen -/
theorem buf_own {sz : Nat} {a : AV} {es : List (List AV)} (h : Buf τ sz a es) (hn : es ≠ []) : ∃ φ st, a = .own φ st 0 es.length ∧ τ φ = some ⟨st, sz, es⟩ := by
  rcases h with ⟨_, e⟩ | h
  · exact absurd e hn
  · exact h
theorem fz_row {sz : Nat} {a : AV} {es fs : List (List AV)} (h : Buf τ sz a es) (h0 : ∀ ψ, ψ ∈ famL a → σ ψ = none) (hl : fs.length = es.length) (hz : ∀ c, c ∈ fs → c.length = sz)
    (hc : ∀ i j, i < es.length → j < sz → Fz σ τ ((es.getD i []).getD j .any) ((fs.getD i []).getD j .any)) : Fz σ τ a (.ro fs) := by
  rcases h with ⟨e1, e⟩ | ⟨φ, st, rfl, hF⟩
  · subst e
    have : fs = [] := List.length_eq_zero_iff.1 hl
    subst this
    rcases e1 with rfl | rfl
    · exact .nil
    · exact .emp
  · refine .own hF (h0 φ (by simp [famL])) rfl (by simp) hl (fun i hi => ?_) (fun i j hi hj => ?_)
    · have hi' : i < fs.length := by omega
      have e : fs.getD i [] = fs[i] := by simp [List.getD, hi']
      rw [e]; exact hz _ (List.getElem_mem hi')
    · rw [Nat.zero_add]; exact hc i j hi hj
theorem fz_data {a : AV} {ds : List Dat} (h : Buf τ 4 a (ds.map encDat)) (h0 : ∀ ψ, ψ ∈ famL a → σ ψ = none) : Fz σ τ a (roD ds) :=
  fz_row h h0 rfl (by intro c hc; obtain ⟨x, _, rfl⟩ := List.mem_map.1 hc; rfl) fun _ _ _ _ => .same _
theorem fz_ops {v : AV} {its : Its} (h : OpsH τ v its) (h0 : ∀ ψ, ψ ∈ opsF' v its → σ ψ = none) : Fz σ τ v (roO (its.map (·.1))) := by
  refine fz_row h.1 (fun ψ hψ => h0 ψ (List.mem_append_left _ hψ)) (by simp) (by intro c hc; obtain ⟨x, _, rfl⟩ := List.mem_map.1 hc; rfl) fun i j hi hj => ?_
  have hi' : i < its.length := by simpa using hi
  have e1 : (its.map fun p => encOpA p.1 p.2).getD i [] = encOpA its[i].1 its[i].2 := by simp [List.getD, hi']
  have e2 : ((its.map (·.1)).map encOp).getD i [] = encOp its[i].1 := by simp [List.getD, hi']
  rw [e1, e2]
  match j, hj with
  | 0, _ => exact .same _
  | 1, _ => exact .same _
  | 2, _ => exact .same _
  | 3, _ => exact .same _
  | 4, _ => exact .same _
  | 5, _ => exact .same _
  | 6, _ => exact fz_data (h.2 _ (List.getElem_mem hi')) fun ψ hψ => h0 ψ (List.mem_append_right _ (List.mem_flatMap.2 ⟨_, List.getElem_mem hi', hψ⟩))
/-- What the blocks say. -/
def cont (bs : List BI) : List Blk := bs.map fun b => ⟨b.args, b.its.map (·.1)⟩
theorem fz_blks {v : AV} {bs : List BI} (h : BlksH τ v bs) (h0 : ∀ ψ, ψ ∈ blksF v bs → σ ψ = none) : Fz σ τ v (roBk (cont bs)) := by
  refine fz_row h.1 (fun ψ hψ => h0 ψ (List.mem_append_left _ hψ)) (by simp [cont]) (by intro c hc; obtain ⟨x, _, rfl⟩ := List.mem_map.1 hc; rfl) fun i j hi hj => ?_
  have hi' : i < bs.length := by simpa using hi
  have e1 : (bs.map fun b => [iv b.args, b.av]).getD i [] = [iv bs[i].args, bs[i].av] := by simp [List.getD, hi']
  have e2 : ((cont bs).map encBlk).getD i [] = [iv bs[i].args, roO (bs[i].its.map (·.1))] := by simp [cont, List.getD, hi', encBlk]
  rw [e1, e2]
  match j, hj with
  | 0, _ => exact .same _
  | 1, _ => exact fz_ops (h.2 _ (List.getElem_mem hi')) fun ψ hψ => h0 ψ (List.mem_append_right _ (List.mem_flatMap.2 ⟨_, List.getElem_mem hi', hψ⟩))
/-! ### lists and their families -/
theorem itsF_append (a b : Its) : itsF (a ++ b) = itsF a ++ itsF b := by simp [itsF]
theorem itsF_cons (p : OpD × AV) (r : Its) : itsF (p :: r) = famL p.2 ++ itsF r := by simp [itsF]
theorem nodup_app {a b : List Nat} : (a ++ b).Nodup ↔ a.Nodup ∧ b.Nodup ∧ ∀ x, x ∈ a → x ∉ b := by
  rw [List.nodup_append]
  constructor
  · rintro ⟨h1, h2, h3⟩
    exact ⟨h1, h2, fun x hx hb => h3 x hx x hb rfl⟩
  · rintro ⟨h1, h2, h3⟩
    exact ⟨h1, h2, fun x hx y hy e => h3 x hx (e ▸ hy)⟩
theorem famL_nodup (a : AV) : (famL a).Nodup := by cases a <;> simp [famL]
end
end Go.Proofs.YtmmhaiidcfgbbaaGreatDoor.E
