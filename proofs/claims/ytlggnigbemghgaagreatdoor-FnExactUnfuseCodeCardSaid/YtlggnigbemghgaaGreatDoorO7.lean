/- Code that is taken apart: the program's way, its parts. -/
import Derived.Test.YtlggnigbemghgaaGreatDoorO6
set_option linter.unusedSectionVars false
set_option linter.unusedSimpArgs false
set_option linter.unusedVariables false
namespace Go.Proofs.YtlggnigbemghgaaGreatDoor.E
open Go Go.RowKit
set_option maxRecDepth 100000
variable [L : Lam]
variable {σ τ τ' : AH} {R : AEnd → AH → Prop}
def locO (o : OpD) : OpD := ⟨2, o.a, o.b, 0, 0, ⟨#[]⟩, []⟩
def retO : OpD := ⟨12, 0, 0, 0, 0, ⟨#[]⟩, []⟩
def loc2 (o : OpD) : OpD := ⟨2, o.c, o.d, 0, 0, ⟨#[]⟩, []⟩
def ifnO (o : OpD) : OpD := ⟨6, o.c, 0, 0, 0, ⟨#[]⟩, []⟩
def conO (o : OpD) : OpD := ⟨1, 0, 0, 0, 0, ⟨#[]⟩, o.data⟩
def splitP (p : OpD × AV) : Its :=
  if p.1.kind = 13 then [(conO p.1, p.2), (retO, nilS)] else if p.1.kind = 14 then [(locO p.1, nilS), (retO, nilS)] else if p.1.kind = 15 then [(locO p.1, nilS), (loc2 p.1, nilS)] else if p.1.kind = 16 then [(locO p.1, nilS), (ifnO p.1, nilS)] else [p]
def splitO (o : OpD) : List OpD :=
  if o.kind = 13 then [conO o, retO] else if o.kind = 14 then [locO o, retO] else if o.kind = 15 then [locO o, loc2 o] else if o.kind = 16 then [locO o, ifnO o] else [o]
theorem splitP_fst (p : OpD × AV) : (splitP p).map (·.1) = splitO p.1 := by unfold splitP splitO; (repeat' split) <;> rfl
theorem splits_fst (its : Its) : (its.flatMap splitP).map (·.1) = (its.map (·.1)).flatMap splitO := by
  induction its with
  | nil => rfl
  | cons p r ih => simp only [List.flatMap_cons, List.map_append, List.map_cons, ih, splitP_fst]
theorem splitP_fam (p : OpD × AV) : (itsF (splitP p)).Sublist (famL p.2) := by
  unfold splitP
  repeat' split
  all_goals simp [itsF, famL]
theorem splits_fam (its : Its) : (itsF (its.flatMap splitP)).Sublist (itsF its) := by
  induction its with
  | nil => exact .slnil
  | cons p r ih => rw [List.flatMap_cons, itsF_append, itsF_cons]; exact (splitP_fam p).append ih
theorem splitO_len (o : OpD) : 1 ≤ (splitO o).length ∧ (splitO o).length ≤ 2 := by
  unfold splitO
  repeat' split
  all_goals simp
theorem splits_len (os : List OpD) : (os.flatMap splitO).length ≤ 2 * os.length := by
  induction os with
  | nil => simp
  | cons o r ih => have := splitO_len o; simp only [List.flatMap_cons, List.length_append, List.length_cons]; omega
theorem nil_buf {sz : Nat} : Buf τ sz nilS [] := .inl ⟨.inl rfl, rfl⟩
theorem splitP_own {p : OpD × AV} (h : Buf τ 4 p.2 (p.1.data.map encDat)) : ItsH τ (splitP p) := by
  intro q hq
  unfold splitP at hq
  repeat' split at hq
  all_goals simp only [List.mem_cons, List.not_mem_nil, or_false] at hq
  all_goals first
    | (rcases hq with rfl | rfl <;> first | exact h | exact nil_buf)
    | (subst hq; exact h)
theorem splitP_one {p : OpD × AV} (h : p.2.one = true) : ∀ q, q ∈ splitP p → q.2.one = true := by
  intro q hq
  unfold splitP at hq
  repeat' split at hq
  all_goals simp only [List.mem_cons, List.not_mem_nil, or_false] at hq
  all_goals first
    | (rcases hq with rfl | rfl <;> first | exact h | rfl)
    | (subst hq; exact h)
theorem bld_data {a : AV} {es : List (List AV)} {o : OpD} (h : Buf τ 4 a es) : bld [(.val (.int .i64 0)), (.val (.int .i64 0)), (.val (.int .i64 0)), (.val (.int .i64 0)), (.val (.int .i64 0)), (.val (.string ⟨#[]⟩)), (.val (.slice none 0 0))] [(0, 1), (1, 1), (2, 1), (3, 1), (4, 1), (5, 1), (6, 1)] [(0, (.val (.int .i64 1))), (6, a)] = some (.agg (encOpA (conO o) a)) := by
  rcases h with ⟨rfl | rfl, _⟩ | ⟨φ, st, rfl, _⟩ <;> rfl
theorem bsl2 {sz : Nat} {z r1 r2 : List AV} {x y : AV} {k : AV → AH → Prop} (he : afillS sz [z, z] [(0, x), (1, y)] = some [r1, r2]) (hs : sz ≤ 1000) (h : ∀ ψ, τ ψ = none → k (.own ψ 0 0 2) (τ.set ψ ⟨0, sz, [r1, r2]⟩)) : bsl sz z 2 [(0, x), (1, y)] τ k := by
  unfold bsl
  have e : List.replicate 2 z = [z, z] := rfl
  rw [e, he]
  exact ⟨by omega, by rw [if_neg (by decide)]; exact h⟩
theorem c_impl_Op_apart {o : OpD} {a : AV} (hA : Buf σ 4 a (o.data.map encDat)) (h : ∀ ψ, σ ψ = none → R (.ret (.own ψ 0 0 (splitP (o, a)).length)) (σ.set ψ ⟨0, 7, (splitP (o, a)).map encIt⟩)) : acall TP fn_impl_Op_apart [.agg (encOpA o a)] σ R := by
  have ha1 := hA.av1
  refine s_impl_Op_apart_ok ?_
  unfold s_impl_Op_apart
  refine box_frz rfl ?_
  have l0 : ∀ τ, lod (.rop (encOpA o a) 0) τ = some (iv o.kind) := fun _ => rfl
  have l1 : ∀ τ, lod (.rop (encOpA o a) 1) τ = some (iv o.a) := fun _ => rfl
  have l2 : ∀ τ, lod (.rop (encOpA o a) 2) τ = some (iv o.b) := fun _ => rfl
  have l3 : ∀ τ, lod (.rop (encOpA o a) 3) τ = some (iv o.c) := fun _ => rfl
  have l4 : ∀ τ, lod (.rop (encOpA o a) 4) τ = some (iv o.d) := fun _ => rfl
  have l6 : ∀ τ, lod (.rop (encOpA o a) 6) τ = some a := fun _ => rfl
  have b1 : bld [(.val (.int .i64 0)), (.val (.int .i64 0)), (.val (.int .i64 0)), (.val (.int .i64 0)), (.val (.int .i64 0)), (.val (.string ⟨#[]⟩)), (.val (.slice none 0 0))] [(0, 1), (1, 1), (2, 1), (3, 1), (4, 1), (5, 1), (6, 1)] [(0, (.val (.int .i64 2))), (1, iv o.a), (2, iv o.b)] = some (.agg (encOpA (locO o) nilS)) := rfl
  have b2 : bld [(.val (.int .i64 0)), (.val (.int .i64 0)), (.val (.int .i64 0)), (.val (.int .i64 0)), (.val (.int .i64 0)), (.val (.string ⟨#[]⟩)), (.val (.slice none 0 0))] [(0, 1), (1, 1), (2, 1), (3, 1), (4, 1), (5, 1), (6, 1)] [(0, (.val (.int .i64 12)))] = some (.agg (encOpA retO nilS)) := rfl
  have b3 : bld [(.val (.int .i64 0)), (.val (.int .i64 0)), (.val (.int .i64 0)), (.val (.int .i64 0)), (.val (.int .i64 0)), (.val (.string ⟨#[]⟩)), (.val (.slice none 0 0))] [(0, 1), (1, 1), (2, 1), (3, 1), (4, 1), (5, 1), (6, 1)] [(0, (.val (.int .i64 2))), (1, iv o.c), (2, iv o.d)] = some (.agg (encOpA (loc2 o) nilS)) := rfl
  have b4 : bld [(.val (.int .i64 0)), (.val (.int .i64 0)), (.val (.int .i64 0)), (.val (.int .i64 0)), (.val (.int .i64 0)), (.val (.string ⟨#[]⟩)), (.val (.slice none 0 0))] [(0, 1), (1, 1), (2, 1), (3, 1), (4, 1), (5, 1), (6, 1)] [(0, (.val (.int .i64 6))), (1, iv o.c)] = some (.agg (encOpA (ifnO o) nilS)) := rfl
  have b5 := bld_data (o := o) hA
  simp only [l0, l1, l2, b1, RR]
  refine new_frz rfl rfl rfl (one7 rfl) ?_
  have eL : ∀ τ, lodA 7 (.rop (encOpA (locO o) nilS) 0) τ = some (.agg (encOpA (locO o) nilS)) := fun _ => rfl
  have eA : ∀ τ, lodA 7 (.rop (encOpA o a) 0) τ = some (.agg (encOpA o a)) := fun _ => rfl
  unfold splitP at h
  by_cases c1 : o.kind = 13
  · rw [if_pos c1] at h
    simp only [c1, l6, b5, b2, RR]
    refine bsl2 (sz := 7) rfl (by omega) fun ψ hψ => ?_
    exact ret_here (h ψ hψ)
  rw [if_neg c1] at h
  by_cases c2 : o.kind = 14
  · rw [if_pos c2] at h
    simp only [c2, eL, b2, Int.reduceEq, RR]
    refine bsl2 (sz := 7) rfl (by omega) fun ψ hψ => ?_
    exact ret_here (h ψ hψ)
  rw [if_neg c2] at h
  by_cases c3 : o.kind = 15
  · rw [if_pos c3] at h
    simp only [c3, eL, l3, l4, b3, Int.reduceEq, RR]
    refine bsl2 (sz := 7) rfl (by omega) fun ψ hψ => ?_
    exact ret_here (h ψ hψ)
  rw [if_neg c3] at h
  by_cases c4 : o.kind = 16
  · rw [if_pos c4] at h
    simp only [c4, eL, l3, b4, Int.reduceEq, RR]
    refine bsl2 (sz := 7) rfl (by omega) fun ψ hψ => ?_
    exact ret_here (h ψ hψ)
  rw [if_neg c4] at h
  simp only [c1, c2, c3, c4, eA, RR]
  exact bsl1 (sz := 7) rfl (by omega) fun ψ hψ => ret_here (h ψ hψ)
/-! ### targets that are moved -/
def turnO (xs : List Int) (o : OpD) : OpD := if o.kind = 5 ∨ o.kind = 6 then { o with a := atH xs o.a.toNat } else if o.kind = 16 then { o with c := atH xs o.c.toNat } else o
def turnP (xs : List Int) (p : OpD × AV) : OpD × AV := (turnO xs p.1, p.2)
theorem turnO_data (xs : List Int) (o : OpD) : (turnO xs o).data = o.data := by unfold turnO; (repeat' split) <;> rfl
theorem turnP_fst (xs : List Int) (its : Its) : (its.map (turnP xs)).map (·.1) = (its.map (·.1)).map (turnO xs) := by simp [turnP]
theorem turnP_fam (xs : List Int) (its : Its) : itsF (its.map (turnP xs)) = itsF its := by
  induction its with
  | nil => rfl
  | cons p r ih => rw [List.map_cons, itsF_cons, itsF_cons, ih]; rfl
theorem turnP_own {xs : List Int} {its : Its} (h : ItsH τ its) : ItsH τ (its.map (turnP xs)) := by
  intro q hq
  obtain ⟨p, hp, rfl⟩ := List.mem_map.1 hq
  have := h p hp
  simpa [turnP, turnO_data] using this
theorem neq_ptr {T : Tab} {t : TypeId} {φ st i off : Nat} {k : AV → Prop} (hu : isPt T t = true) (h : k (bv true)) : abin T .neq t (.ptr φ st i off) (.val (.pointer none)) k := by
  unfold isPt at hu
  split at hu
  case h_2 => cases hu
  rename_i ti ht
  split at hu
  case h_2 => cases hu
  rename_i e he
  unfold abin
  simp only
  unfold aeql
  simp only [ht, he]
  exact h
theorem buf_rd {u : AV} {xs : List Int} {j : Nat} (h : Buf τ 1 u (ivs xs)) (hj : j < xs.length) : ∃ p, idx 1 u (iv (j : Int)) τ = some p ∧ lod p τ = some (iv (atH xs j)) := by
  obtain ⟨φ, st, rfl, hF⟩ := buf_own h (by intro c; rw [List.map_eq_nil_iff] at c; subst c; cases hj)
  have hl : (ivs xs).length = xs.length := by simp
  rw [hl]
  exact ⟨_, own_rd hF hj⟩
theorem own_target {o : OpD} {a : AV} {φ st i : Nat} {F : Fam} (hF : σ φ = some F) (hst : F.st = st) (hr : F.es.getD i [] = encOpA o a) (h : R (.ret (if o.kind = 5 ∨ o.kind = 6 then .ptr φ st i 1 else if o.kind = 16 then .ptr φ st i 3 else .val (.pointer none))) σ) : acall TP fn_impl_Op_target [.ptr φ st i 0] σ R := by
  refine s_impl_Op_target_ok ?_
  unfold s_impl_Op_target
  have l0 : lod (.ptr φ st i 0) σ = some (iv o.kind) := lod_at hF hst (by rw [hr]; rfl)
  simp only [RR, l0, jn]
  by_cases c1 : o.kind = 5
  · rw [if_pos (by omega)] at h; simp only [c1, RR]; exact ret_here h
  by_cases c2 : o.kind = 6
  · rw [if_pos (by omega)] at h; simp only [c2, RR]; exact ret_here h
  rw [if_neg (by omega)] at h
  by_cases c3 : o.kind = 16
  · rw [if_pos c3] at h; simp only [c3, RR]; exact ret_here h
  rw [if_neg c3] at h
  simp only [c1, c2, c3, RR]; exact ret_here h
theorem isPt_77 : isPt TT ty_pointer77 = true := by kernel_rfl
def okT (n : Nat) (o : OpD) : Prop := -1 ≤ tgtN o ∧ tgtN o < n
theorem c_impl_moved {w u : AV} {W : Its} {xs : List Int} (hW : Buf τ 7 w (W.map encIt)) (hu : Buf τ 1 u (ivs xs)) (hd : ∀ ψ, ψ ∈ famL w → ψ ∉ famL u) (ht : ∀ p, p ∈ W → 0 ≤ p.1.a ∧ 0 ≤ p.1.c ∧ okT xs.length p.1) (hl : W.length ≤ 4294967296)
    (h : ∀ τ', Buf τ' 7 w ((W.map (turnP xs)).map encIt) → (∀ ψ, ψ ∉ famL w → τ' ψ = τ ψ) → R (.ret (.tup [])) τ') : acall TP fn_impl_moved [w, u] τ R := by
  refine s_impl_moved_ok ?_
  unfold s_impl_moved
  have hlen := buf_len hW
  rw [show (W.map encIt).length = W.length by simp] at hlen
  simp only [hlen, RR]
  refine lp_by (fun n x τ' => ∃ don rest : Its, W = don ++ rest ∧ rest.length = n ∧ x = (w, u, iv (W.length : Int), iv (don.length : Int), ()) ∧ Buf τ' 7 w ((don.map (turnP xs) ++ rest).map encIt) ∧ ∀ ψ, ψ ∉ famL w → τ' ψ = τ ψ) W.length ⟨[], W, rfl, rfl, rfl, hW, fun _ _ => rfl⟩ ?_
  rintro n x τ1 ⟨don, rest, hit, hrl, rfl, hB, hfr⟩ R' hR'
  cases rest with
  | nil =>
    rw [List.append_nil] at hit
    subst hit
    rw [List.append_nil] at hB
    have g : ¬ (W.length : Int) < (W.length : Int) := by omega
    simp only [g, RR]
    exact ret_here (h τ1 hB hfr)
  | cons p r =>
    have hi : don.length < W.length := by rw [hit]; simp
    have g : (don.length : Int) < (W.length : Int) := by omega
    have hu1 : Buf τ1 1 u (ivs xs) := buf_keep hu fun ψ hψ => hfr ψ fun c => hd ψ c hψ
    have hle : ((don.map (turnP xs) ++ p :: r).map encIt).length = W.length := by rw [hit]; simp
    obtain ⟨φ, st, hw, hF⟩ := buf_own hB (by simp)
    rw [hle] at hw
    subst hw
    have hpl : ((don.map (turnP xs)).map encIt).length = don.length := by simp
    have hset : τ1 = τ1.set φ ⟨st, 7, (don.map (turnP xs)).map encIt ++ encIt p :: r.map encIt⟩ := by
      rw [AH.set_self]; rw [hF]; simp
    have hrow : ((don.map (turnP xs) ++ p :: r).map encIt).getD don.length [] = encOpA p.1 p.2 := by simp [List.getD]
    obtain ⟨ha0, hc0, hto⟩ := ht p (by rw [hit]; simp)
    have fin : ∀ (q : OpD × AV) (row : List AV), row = encIt q → q = turnP xs p → R' (.own φ st 0 W.length, u, iv (W.length : Int), iv ((don.length + 1 : Nat) : Int), ()) (τ1.set φ ⟨st, 7, (don.map (turnP xs)).map encIt ++ row :: r.map encIt⟩) := by
      rintro q row rfl rfl
      refine hR' _ _ r.length _ (by rw [← hrl]; simp) (.refl _) ⟨don ++ [p], r, by simp [hit], rfl, by simp; rfl, .inr ⟨φ, st, by rw [hit]; simp, by rw [AH.set_same]; simp⟩, fun ψ hψ => ?_⟩
      rw [AH.set_ne' (by rintro rfl; exact hψ (by simp [famL]))]
      exact hfr ψ hψ
    have ix := idx_own (st := st) (off := 0) hF hi
    rw [Nat.zero_add] at ix
    simp only [g, jn, ix, RR]
    refine own_target hF rfl hrow ?_
    unfold okT tgtN at hto
    by_cases c1 : p.1.kind = 5 ∨ p.1.kind = 6
    · rw [if_pos c1] at hto ⊢
      simp only [RR]
      refine neq_ptr isPt_77 ?_
      have l1 : lod (.ptr φ st don.length 1) τ1 = some (iv p.1.a) := lod_at hF rfl (by rw [hrow]; rfl)
      obtain ⟨q, q1, q2⟩ := buf_rd (j := p.1.a.toNat) hu1 (by omega)
      rw [Int.toNat_of_nonneg ha0] at q1
      simp only [l1, q1, q2, RR]
      rw [hset]
      refine sto_at hpl (by omega) rfl ?_
      simp only [ibin_up hi (by omega), RR]
      exact fin (turnP xs p) _ (by simp [turnP, turnO, c1, encOpA]) rfl
    rw [if_neg c1] at hto ⊢
    by_cases c2 : p.1.kind = 16
    · rw [if_pos c2] at hto ⊢
      simp only [RR]
      refine neq_ptr isPt_77 ?_
      have l1 : lod (.ptr φ st don.length 3) τ1 = some (iv p.1.c) := lod_at hF rfl (by rw [hrow]; rfl)
      obtain ⟨q, q1, q2⟩ := buf_rd (j := p.1.c.toNat) hu1 (by omega)
      rw [Int.toNat_of_nonneg hc0] at q1
      simp only [l1, q1, q2, RR]
      rw [hset]
      refine sto_at hpl (by omega) rfl ?_
      simp only [ibin_up hi (by omega), RR]
      exact fin (turnP xs p) _ (by simp [turnP, turnO, c2, encOpA]) rfl
    rw [if_neg c2] at hto ⊢
    simp only [RR]
    refine neq_nul isPt_77 ?_
    simp only [ibin_up hi (by omega), RR]
    rw [hset]
    exact fin p _ rfl (by simp [turnP, turnO, c1, c2])
end Go.Proofs.YtlggnigbemghgaaGreatDoor.E
