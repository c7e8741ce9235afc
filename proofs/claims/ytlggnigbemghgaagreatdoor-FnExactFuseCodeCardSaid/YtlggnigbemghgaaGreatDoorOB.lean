import Derived.Test.YtlggnigbemghgaaGreatDoorOA
import Derived.Test.YtlggnigbemghgaaGreatDoorP17
/- Code that is owned: the program's copy. -/
set_option linter.unusedSectionVars false
set_option linter.unusedSimpArgs false
set_option linter.unusedVariables false
namespace Go.Proofs.YtlggnigbemghgaaGreatDoor.E
open Go Go.RowKit
set_option maxRecDepth 100000
variable [L : Lam]
variable {σ τ τ' : AH} {R : AEnd → AH → Prop}
theorem Buf.av1 {sz : Nat} {a : AV} {es : List (List AV)} (h : Buf τ sz a es) : a.one = true := by
  rcases h with ⟨rfl | rfl, _⟩ | ⟨φ, st, rfl, _⟩ <;> rfl
theorem bld_buf {n : Int} {w : AV} {sz : Nat} {es : List (List AV)} (h : Buf τ sz w es) : bld [(.val (.int .i64 0)), (.val (.slice none 0 0))] [(0, 1), (1, 1)] [(0, iv n), (1, w)] = some (.agg [iv n, w]) := by
  rcases h with ⟨rfl | rfl, _⟩ | ⟨φ, st, rfl, _⟩ <;> rfl
theorem one7 {o : OpD} {a : AV} (h : a.one = true) : ∀ y, y ∈ encOpA o a → y.one = true := by
  intro y hy
  simp only [encOpA, List.mem_cons, List.not_mem_nil, or_false] at hy
  rcases hy with rfl | rfl | rfl | rfl | rfl | rfl | rfl <;> first | rfl | exact h
theorem NewB.trans {v : AV} {B : List BI} {σ0 : AH} (h : NewB σ τ v B) (hs : AH.Sub σ0 σ) : NewB σ0 τ v B := ⟨h.own, h.nd, fun ψ hψ => hs.none (h.fr ψ hψ), hs.trans h.sub⟩
set_option maxHeartbeats 1000000 in
theorem c_impl_copiedCode {bs : List Blk} (hl : bs.length ≤ 1048576) (hb : ∀ b, b ∈ bs → b.ops.length ≤ 1048576 ∧ ∀ o, o ∈ b.ops → o.data.length ≤ 1048576) (h : ∀ v B τ, cont B = bs → NewB σ τ v B → R (.ret v) τ) : acall TP fn_impl_copiedCode [roBk bs] σ R := by
  refine s_impl_copiedCode_ok ?_
  unfold s_impl_copiedCode
  refine bsl0 ?_
  simp only [len_ro, RR]
  refine lp_rel bs.length (fun i x τ => ∃ v B, x = (v, roBk bs, iv (bs.length : Int), iv (i : Int), ()) ∧ cont B = bs.take i ∧ NewB σ τ v B) ⟨.emp, [], rfl, rfl, .emp (.refl σ)⟩ ?_
  rintro i _ τ hi ⟨v, B, rfl, hcB, hN⟩ R' hR'
  by_cases hlt : i < bs.length
  · have g : (i : Int) < (bs.length : Int) := by omega
    obtain ⟨hol, hod⟩ := hb _ (List.getElem_mem hlt)
    simp only [g, idx_ro hlt len_encBlk, lodA_all (len_encBlk _), RR]
    refine new_encBlk rfl ?_
    refine bsl0 ?_
    simp only [RR, RT, len_ro]
    refine lp_rel bs[i].ops.length (fun j x τ' => ∃ w its, x = (v, .rop (encBlk bs[i]) 0, w, roBk bs, iv (bs.length : Int), iv (i : Int), roO bs[i].ops, iv (bs[i].ops.length : Int), iv (j : Int), ()) ∧ its.map (·.1) = bs[i].ops.take j ∧ NewO τ τ' w its) ⟨.emp, [], rfl, rfl, .emp (.refl τ)⟩ ?_
    rintro j _ τ1 hj ⟨w, its, rfl, hits, hO⟩ R2 hR2
    have hil : its.length = j := by have := congrArg List.length hits; simpa [Nat.min_eq_left hj] using this
    by_cases hlt2 : j < bs[i].ops.length
    · have g2 : (j : Int) < (bs[i].ops.length : Int) := by omega
      have hdl := hod _ (List.getElem_mem hlt2)
      simp only [g2, idx_ro hlt2 len_encOp, lodA_all (len_encOp _), RR]
      intro φ hφ
      refine sto_own (es := [[iv 0, iv 0, iv 0, iv 0, iv 0, str ⟨#[]⟩, nilS]]) (cs := encOp bs[i].ops[j]) (by rw [AH.set_same]; rfl) (by simp) rfl rfl rfl (one_encOp _) ?_
      simp only [List.set_cons_zero, AH.set_set, RR]
      have el : lod (.ptr φ 0 0 6) (τ1.set φ ⟨0, 7, [encOp bs[i].ops[j]]⟩) = some (roD bs[i].ops[j].data) := lod_at (AH.set_same ..) rfl rfl
      simp only [el, RR]
      refine c_slices_Clone (by omega) fun a τ2 hA hAf hAs => ?_
      simp only [RR]
      have hF2 : τ2 φ = some ⟨0, 7, [encOp bs[i].ops[j]]⟩ := hAs _ _ (AH.set_same ..)
      refine sto_fld hF2 rfl (by decide) (acells_one hA.av1) hA.av1 ?_
      have hφa : φ ∉ famL a := fun c => by have := hAf φ c; rw [AH.set_same] at this; cases this
      refine ⟨.rop (encOpA bs[i].ops[j] a) 0, (τ2.set φ ⟨0, 7, [encOpA bs[i].ops[j] a]⟩).del φ, .del _ _, .ptr (AH.set_same ..) (AH.del_same ..) rfl (by simp) rfl rfl (fun j hj => .same _), ?_⟩
      generalize hτ3 : (τ2.set φ ⟨0, 7, [encOpA bs[i].ops[j] a]⟩).del φ = τ3
      have h3 : ∀ ψ, ψ ≠ φ → τ3 ψ = τ2 ψ := fun ψ hn => by rw [← hτ3, AH.del_ne _ hn, AH.set_ne' hn]
      have hs3 : AH.Sub τ1 τ3 := fun ψ F hF => by
        have hn : ψ ≠ φ := by rintro rfl; rw [hφ] at hF; cases hF
        rw [h3 ψ hn]
        exact hAs _ _ (by rw [AH.set_ne' hn]; exact hF)
      have hA3 : Buf τ3 4 a (bs[i].ops[j].data.map encDat) := buf_keep hA fun ψ hψ => h3 ψ (by rintro rfl; exact hφa hψ)
      have hAf1 : ∀ ψ, ψ ∈ famL a → τ1 ψ = none := fun ψ hψ => (AH.set_none.1 (hAf ψ hψ)).2
      simp only [lodA_all (cs := encOpA bs[i].ops[j] a) (n := 7) rfl, RR]
      refine (hO.grow hs3).push (p := (bs[i].ops[j], a)) rfl hA3 (fun ψ hψ c => ?_) (fun ψ hψ => hO.sub.none (hAf1 ψ hψ)) hA.av1 (by omega) fun w' τ4 hN4 hK4 _ => ?_
      · obtain ⟨F, e⟩ := hO.own.live c
        rw [hAf1 ψ hψ] at e; cases e
      simp only [ibin_up hlt2 (by omega), RR]
      exact hR2 _ _ _ hlt2 (.refl _) ⟨w', its ++ [(bs[i].ops[j], a)], rfl, by rw [List.take_succ_eq_append_getElem hlt2, List.map_append, hits]; rfl, hN4⟩
    · have g2 : ¬ (j : Int) < (bs[i].ops.length : Int) := by omega
      obtain rfl : j = bs[i].ops.length := by omega
      rw [List.take_length] at hits
      have eb := bld_buf (n := bs[i].args) hO.own.1
      simp only [g2, RR, RT, eb]
      have hN1 := hN.grow hO.sub
      refine hN1.push (its := its) rfl hO.own hO.nd (fun ψ hψ c => ?_) (fun ψ hψ => hN.sub.none (hO.fr ψ hψ)) hO.one ?_ fun v' τ4 hN4 => ?_
      · obtain ⟨F, e⟩ := hN.own.live c
        rw [hO.fr ψ hψ] at e; cases e
      · have := congrArg List.length hcB
        simp [cont] at this
        omega
      simp only [ibin_up hlt (by omega), RR]
      refine hR' _ _ _ hlt (.refl _) ⟨v', B ++ [⟨bs[i].args, w, its⟩], rfl, ?_, hN4⟩
      rw [List.take_succ_eq_append_getElem hlt, cont, List.map_append, ← cont, hcB]
      simp only [List.map_cons, List.map_nil, hits]
  · have g : ¬ (i : Int) < (bs.length : Int) := by omega
    obtain rfl : i = bs.length := by omega
    rw [List.take_length] at hcB
    simp only [g, RR]
    exact ret_here (h v B τ hcB hN)
end Go.Proofs.YtlggnigbemghgaaGreatDoor.E
/- Code that is taken apart: the program's way, its parts. -/
set_option linter.unusedSectionVars false
set_option linter.unusedSimpArgs false
set_option linter.unusedVariables false
namespace Go.Proofs.YtlggnigbemghgaaGreatDoor.E
open Go Go.RowKit
set_option maxRecDepth 100000
variable [L : Lam]
variable {σ τ τ' : AH} {R : AEnd → AH → Prop}
def locO (o : OpD) : OpD := ⟨2, o.a, o.b, 0, 0, ⟨#[]⟩, []⟩
def retO : OpD := ⟨12, 0, 0, 0, 0, ⟨#[]⟩, []⟩
def loc2 (o : OpD) : OpD := ⟨2, o.c, o.d, 0, 0, ⟨#[]⟩, []⟩
def ifnO (o : OpD) : OpD := ⟨6, o.c, 0, 0, 0, ⟨#[]⟩, []⟩
def conO (o : OpD) : OpD := ⟨1, 0, 0, 0, 0, ⟨#[]⟩, o.data⟩
def splitP (p : OpD × AV) : Its :=
  if p.1.kind = 13 then [(conO p.1, p.2), (retO, nilS)] else if p.1.kind = 14 then [(locO p.1, nilS), (retO, nilS)] else if p.1.kind = 15 then [(locO p.1, nilS), (loc2 p.1, nilS)] else if p.1.kind = 16 then [(locO p.1, nilS), (ifnO p.1, nilS)] else [p]
def splitO (o : OpD) : List OpD :=
  if o.kind = 13 then [conO o, retO] else if o.kind = 14 then [locO o, retO] else if o.kind = 15 then [locO o, loc2 o] else if o.kind = 16 then [locO o, ifnO o] else [o]
theorem splitP_fst (p : OpD × AV) : (splitP p).map (·.1) = splitO p.1 := by unfold splitP splitO; (repeat' split) <;> rfl
theorem splits_fst (its : Its) : (its.flatMap splitP).map (·.1) = (its.map (·.1)).flatMap splitO := by
  induction its with
  | nil => rfl
  | cons p r ih => simp only [List.flatMap_cons, List.map_append, List.map_cons, ih, splitP_fst]
theorem splitP_fam (p : OpD × AV) : (itsF (splitP p)).Sublist (famL p.2) := by
  unfold splitP
  repeat' split
  all_goals simp [itsF, famL]
theorem splits_fam (its : Its) : (itsF (its.flatMap splitP)).Sublist (itsF its) := by
  induction its with
  | nil => exact .slnil
  | cons p r ih => rw [List.flatMap_cons, itsF_append, itsF_cons]; exact (splitP_fam p).append ih
theorem splitO_len (o : OpD) : 1 ≤ (splitO o).length ∧ (splitO o).length ≤ 2 := by
  unfold splitO
  repeat' split
  all_goals simp
theorem splits_len (os : List OpD) : (os.flatMap splitO).length ≤ 2 * os.length := by
  induction os with
  | nil => simp
  | cons o r ih => have := splitO_len o; simp only [List.flatMap_cons, List.length_append, List.length_cons]; omega
theorem nil_buf {sz : Nat} : Buf τ sz nilS [] := .inl ⟨.inl rfl, rfl⟩
theorem splitP_own {p : OpD × AV} (h : Buf τ 4 p.2 (p.1.data.map encDat)) : ItsH τ (splitP p) := by
  intro q hq
  unfold splitP at hq
  repeat' split at hq
  all_goals simp only [List.mem_cons, List.not_mem_nil, or_false] at hq
  all_goals first
    | (rcases hq with rfl | rfl <;> first | exact h | exact nil_buf)
    | (subst hq; exact h)
theorem splitP_one {p : OpD × AV} (h : p.2.one = true) : ∀ q, q ∈ splitP p → q.2.one = true := by
  intro q hq
  unfold splitP at hq
  repeat' split at hq
  all_goals simp only [List.mem_cons, List.not_mem_nil, or_false] at hq
  all_goals first
    | (rcases hq with rfl | rfl <;> first | exact h | rfl)
    | (subst hq; exact h)
theorem bld_data {a : AV} {es : List (List AV)} {o : OpD} (h : Buf τ 4 a es) : bld [(.val (.int .i64 0)), (.val (.int .i64 0)), (.val (.int .i64 0)), (.val (.int .i64 0)), (.val (.int .i64 0)), (.val (.string ⟨#[]⟩)), (.val (.slice none 0 0))] [(0, 1), (1, 1), (2, 1), (3, 1), (4, 1), (5, 1), (6, 1)] [(0, (.val (.int .i64 1))), (6, a)] = some (.agg (encOpA (conO o) a)) := by
  rcases h with ⟨rfl | rfl, _⟩ | ⟨φ, st, rfl, _⟩ <;> rfl
theorem bsl2 {sz : Nat} {z r1 r2 : List AV} {x y : AV} {k : AV → AH → Prop} (he : afillS sz [z, z] [(0, x), (1, y)] = some [r1, r2]) (hs : sz ≤ 1000) (h : ∀ ψ, τ ψ = none → k (.own ψ 0 0 2) (τ.set ψ ⟨0, sz, [r1, r2]⟩)) : bsl sz z 2 [(0, x), (1, y)] τ k := by
  unfold bsl
  have e : List.replicate 2 z = [z, z] := rfl
  rw [e, he]
  exact ⟨by omega, by rw [if_neg (by decide)]; exact h⟩
def turnO (xs : List Int) (o : OpD) : OpD := if o.kind = 5 ∨ o.kind = 6 then { o with a := atH xs o.a.toNat } else if o.kind = 16 then { o with c := atH xs o.c.toNat } else o
def turnP (xs : List Int) (p : OpD × AV) : OpD × AV := (turnO xs p.1, p.2)
theorem turnO_data (xs : List Int) (o : OpD) : (turnO xs o).data = o.data := by unfold turnO; (repeat' split) <;> rfl
theorem turnP_fst (xs : List Int) (its : Its) : (its.map (turnP xs)).map (·.1) = (its.map (·.1)).map (turnO xs) := by simp [turnP]
theorem turnP_fam (xs : List Int) (its : Its) : itsF (its.map (turnP xs)) = itsF its := by
  induction its with
  | nil => rfl
  | cons p r ih => rw [List.map_cons, itsF_cons, itsF_cons, ih]; rfl
theorem turnP_own {xs : List Int} {its : Its} (h : ItsH τ its) : ItsH τ (its.map (turnP xs)) := by
  intro q hq
  obtain ⟨p, hp, rfl⟩ := List.mem_map.1 hq
  have := h p hp
  simpa [turnP, turnO_data] using this
theorem neq_ptr {T : Tab} {t : TypeId} {φ st i off : Nat} {k : AV → Prop} (hu : isPt T t = true) (h : k (bv true)) : abin T .neq t (.ptr φ st i off) (.val (.pointer none)) k := by
  unfold isPt at hu
  split at hu
  case h_2 => cases hu
  rename_i ti ht
  split at hu
  case h_2 => cases hu
  rename_i e he
  unfold abin
  simp only
  unfold aeql
  simp only [ht, he]
  exact h
theorem buf_rd {u : AV} {xs : List Int} {j : Nat} (h : Buf τ 1 u (ivs xs)) (hj : j < xs.length) : ∃ p, idx 1 u (iv (j : Int)) τ = some p ∧ lod p τ = some (iv (atH xs j)) := by
  obtain ⟨φ, st, rfl, hF⟩ := buf_own h (by intro c; rw [List.map_eq_nil_iff] at c; subst c; cases hj)
  have hl : (ivs xs).length = xs.length := by simp
  rw [hl]
  exact ⟨_, own_rd hF hj⟩
theorem own_target {o : OpD} {a : AV} {φ st i : Nat} {F : Fam} (hF : σ φ = some F) (hst : F.st = st) (hr : F.es.getD i [] = encOpA o a) (h : R (.ret (if o.kind = 5 ∨ o.kind = 6 then .ptr φ st i 1 else if o.kind = 16 then .ptr φ st i 3 else .val (.pointer none))) σ) : acall TP fn_impl_Op_target [.ptr φ st i 0] σ R := by
  refine s_impl_Op_target_ok ?_
  unfold s_impl_Op_target
  have l0 : lod (.ptr φ st i 0) σ = some (iv o.kind) := lod_at hF hst (by rw [hr]; rfl)
  simp only [RR, l0, jn]
  by_cases c1 : o.kind = 5
  · rw [if_pos (by omega)] at h; simp only [c1, RR]; exact ret_here h
  by_cases c2 : o.kind = 6
  · rw [if_pos (by omega)] at h; simp only [c2, RR]; exact ret_here h
  rw [if_neg (by omega)] at h
  by_cases c3 : o.kind = 16
  · rw [if_pos c3] at h; simp only [c3, RR]; exact ret_here h
  rw [if_neg c3] at h
  simp only [c1, c2, c3, RR]; exact ret_here h
theorem isPt_77 : isPt TT ty_pointer77 = true := by kernel_rfl
def okT (n : Nat) (o : OpD) : Prop := -1 ≤ tgtN o ∧ tgtN o < n
theorem c_impl_moved {w u : AV} {W : Its} {xs : List Int} (hW : Buf τ 7 w (W.map encIt)) (hu : Buf τ 1 u (ivs xs)) (hd : ∀ ψ, ψ ∈ famL w → ψ ∉ famL u) (ht : ∀ p, p ∈ W → 0 ≤ p.1.a ∧ 0 ≤ p.1.c ∧ okT xs.length p.1) (hl : W.length ≤ 4294967296)
    (h : ∀ τ', Buf τ' 7 w ((W.map (turnP xs)).map encIt) → (∀ ψ, ψ ∉ famL w → τ' ψ = τ ψ) → R (.ret (.tup [])) τ') : acall TP fn_impl_moved [w, u] τ R := by
  refine s_impl_moved_ok ?_
  unfold s_impl_moved
  have hlen := buf_len hW
  rw [show (W.map encIt).length = W.length by simp] at hlen
  simp only [hlen, RR]
  refine lp_by (fun n x τ' => ∃ don rest : Its, W = don ++ rest ∧ rest.length = n ∧ x = (w, u, iv (W.length : Int), iv (don.length : Int), ()) ∧ Buf τ' 7 w ((don.map (turnP xs) ++ rest).map encIt) ∧ ∀ ψ, ψ ∉ famL w → τ' ψ = τ ψ) W.length ⟨[], W, rfl, rfl, rfl, hW, fun _ _ => rfl⟩ ?_
  rintro n x τ1 ⟨don, rest, hit, hrl, rfl, hB, hfr⟩ R' hR'
  cases rest with
  | nil =>
    rw [List.append_nil] at hit
    subst hit
    rw [List.append_nil] at hB
    have g : ¬ (W.length : Int) < (W.length : Int) := by omega
    simp only [g, RR]
    exact ret_here (h τ1 hB hfr)
  | cons p r =>
    have hi : don.length < W.length := by rw [hit]; simp
    have g : (don.length : Int) < (W.length : Int) := by omega
    have hu1 : Buf τ1 1 u (ivs xs) := buf_keep hu fun ψ hψ => hfr ψ fun c => hd ψ c hψ
    have hle : ((don.map (turnP xs) ++ p :: r).map encIt).length = W.length := by rw [hit]; simp
    obtain ⟨φ, st, hw, hF⟩ := buf_own hB (by simp)
    rw [hle] at hw
    subst hw
    have hpl : ((don.map (turnP xs)).map encIt).length = don.length := by simp
    have hset : τ1 = τ1.set φ ⟨st, 7, (don.map (turnP xs)).map encIt ++ encIt p :: r.map encIt⟩ := by
      rw [AH.set_self]; rw [hF]; simp
    have hrow : ((don.map (turnP xs) ++ p :: r).map encIt).getD don.length [] = encOpA p.1 p.2 := by simp [List.getD]
    obtain ⟨ha0, hc0, hto⟩ := ht p (by rw [hit]; simp)
    have fin : ∀ (q : OpD × AV) (row : List AV), row = encIt q → q = turnP xs p → R' (.own φ st 0 W.length, u, iv (W.length : Int), iv ((don.length + 1 : Nat) : Int), ()) (τ1.set φ ⟨st, 7, (don.map (turnP xs)).map encIt ++ row :: r.map encIt⟩) := by
      rintro q row rfl rfl
      refine hR' _ _ r.length _ (by rw [← hrl]; simp) (.refl _) ⟨don ++ [p], r, by simp [hit], rfl, by simp; rfl, .inr ⟨φ, st, by rw [hit]; simp, by rw [AH.set_same]; simp⟩, fun ψ hψ => ?_⟩
      rw [AH.set_ne' (by rintro rfl; exact hψ (by simp [famL]))]
      exact hfr ψ hψ
    have ix := idx_own (st := st) (off := 0) hF hi
    rw [Nat.zero_add] at ix
    simp only [g, jn, ix, RR]
    refine own_target hF rfl hrow ?_
    unfold okT tgtN at hto
    by_cases c1 : p.1.kind = 5 ∨ p.1.kind = 6
    · rw [if_pos c1] at hto ⊢
      simp only [RR]
      refine neq_ptr isPt_77 ?_
      have l1 : lod (.ptr φ st don.length 1) τ1 = some (iv p.1.a) := lod_at hF rfl (by rw [hrow]; rfl)
      obtain ⟨q, q1, q2⟩ := buf_rd (j := p.1.a.toNat) hu1 (by omega)
      rw [Int.toNat_of_nonneg ha0] at q1
      simp only [l1, q1, q2, RR]
      rw [hset]
      refine sto_at hpl (by omega) rfl ?_
      simp only [ibin_up hi (by omega), RR]
      exact fin (turnP xs p) _ (by simp [turnP, turnO, c1, encOpA]) rfl
    rw [if_neg c1] at hto ⊢
    by_cases c2 : p.1.kind = 16
    · rw [if_pos c2] at hto ⊢
      simp only [RR]
      refine neq_ptr isPt_77 ?_
      have l1 : lod (.ptr φ st don.length 3) τ1 = some (iv p.1.c) := lod_at hF rfl (by rw [hrow]; rfl)
      obtain ⟨q, q1, q2⟩ := buf_rd (j := p.1.c.toNat) hu1 (by omega)
      rw [Int.toNat_of_nonneg hc0] at q1
      simp only [l1, q1, q2, RR]
      rw [hset]
      refine sto_at hpl (by omega) rfl ?_
      simp only [ibin_up hi (by omega), RR]
      exact fin (turnP xs p) _ (by simp [turnP, turnO, c2, encOpA]) rfl
    rw [if_neg c2] at hto ⊢
    simp only [RR]
    refine neq_nul isPt_77 ?_
    simp only [ibin_up hi (by omega), RR]
    rw [hset]
    exact fin p _ rfl (by simp [turnP, turnO, c1, c2])
end Go.Proofs.YtlggnigbemghgaaGreatDoor.E
/- Code that is taken apart: the program's way. -/
set_option linter.unusedSectionVars false
set_option linter.unusedSimpArgs false
set_option linter.unusedVariables false
namespace Go.Proofs.YtlggnigbemghgaaGreatDoor.E
open Go Go.RowKit
set_option maxRecDepth 100000
variable [L : Lam]
variable {σ τ τ' : AH} {R : AEnd → AH → Prop}
def plcN (os : List OpD) (j : Nat) : List Int := (List.range j).map fun i => (((os.take i).flatMap splitO).length : Int)
theorem plcN_succ (os : List OpD) (j : Nat) : plcN os (j + 1) = plcN os j ++ [(((os.take j).flatMap splitO).length : Int)] := by simp [plcN, List.range_succ]
theorem plcN_len (os : List OpD) (j : Nat) : (plcN os j).length = j := by simp [plcN]
def unfO (os : List OpD) : List OpD := (os.flatMap splitO).map (turnO (plcN os os.length))
def unfL (os : List OpD) : Nat := (os.flatMap splitO).length
def unfB (b : Blk) : Blk := ⟨b.args, unfO b.ops⟩
open Classical in
noncomputable def unfC (bs : List Blk) : Int := if codeF bs ≠ 0 then codeF bs else if ∃ b, b ∈ bs ∧ 200 < unfL b.ops then 2 else 0
theorem split_ok {n : Nat} {o q : OpD} (hs : smO o) (ht : tgtN o < n) (hq : q ∈ splitO o) : 0 ≤ q.a ∧ 0 ≤ q.c ∧ okT n q := by
  obtain ⟨h1, h2, h3, h4, h5, h6, h7, h8⟩ := hs
  unfold tgtN at ht
  unfold splitO at hq
  unfold okT
  split at hq
  · simp only [List.mem_cons, List.not_mem_nil, or_false] at hq
    rcases hq with rfl | rfl <;> simp [conO, retO, tgtN] <;> omega
  split at hq
  · simp only [List.mem_cons, List.not_mem_nil, or_false] at hq
    rcases hq with rfl | rfl <;> simp [locO, retO, tgtN] <;> omega
  split at hq
  · simp only [List.mem_cons, List.not_mem_nil, or_false] at hq
    rcases hq with rfl | rfl <;> simp [locO, loc2, tgtN] <;> omega
  split at hq
  · rename_i c
    rw [if_neg (by omega), if_pos c] at ht
    simp only [List.mem_cons, List.not_mem_nil, or_false] at hq
    rcases hq with rfl | rfl <;> simp [locO, ifnO, tgtN] <;> omega
  · obtain rfl : q = o := by simpa using hq
    refine ⟨h1, h5, ?_, ?_⟩
    · unfold tgtN; repeat' split <;> omega
    · exact ht
theorem buf_push {sz : Nat} {z row : List AV} {x a : AV} {es : List (List AV)} {k : AV → AH → Prop} (h : Buf τ sz a es) (he : afillS sz [z] [(0, x)] = some [row]) (hl : row.length = sz) (ho : ∀ y, y ∈ row → y.one = true) (hs : sz ≤ 16777216) (hn : es.length + 1 ≤ 4294967296)
    (hk : ∀ a' τ', Buf τ' sz a' (es ++ [row]) → Kp (famL a) τ τ' → (∀ ψ, ψ ∈ famL a' → ψ ∈ famL a ∨ τ ψ = none) → k a' τ') : bsl sz z 1 [(0, x)] τ fun v τ => E.app sz a v τ k := by
  refine bsl1 he hs fun ψ hψ => ?_
  have hs : AH.Sub τ (τ.set ψ ⟨0, sz, [row]⟩) := .set (.refl τ) _ hψ
  have e1 : ∀ c, c ∈ [row] → c.length = sz := fun c hc => by rw [List.mem_singleton.1 hc]; exact hl
  have e2 : ∀ c, c ∈ [row] → ∀ y, y ∈ c → y.one = true := fun c hc => by rw [List.mem_singleton.1 hc]; exact ho
  refine buf_app ((Kp.of_sub (F := []) hs).buf h fun _ _ c => by cases c) ael1 e1 e2 (by simpa using hn) fun a' τ' h1 h2 h3 => hk a' τ' h1 ?_ ?_
  · exact fun χ hχ hn => by rw [h2 χ hχ (by rw [AH.set_ne' (by rintro rfl; exact hn hψ)]; exact hn), AH.set_ne' (by rintro rfl; exact hn hψ)]
  · exact fun χ hχ => (h3 χ hχ).imp id hs.none
theorem NewO.kp {v : AV} {its : Its} {F : List Nat} (h : NewO σ τ v its) (k : Kp F τ τ') (hd : ∀ ψ, ψ ∈ opsF' v its → ψ ∉ F) (hf : ∀ ψ, ψ ∈ F → σ ψ = none) : NewO σ τ' v its :=
  ⟨k.ops h.own hd, h.nd, h.fr, k.sub h.sub hf⟩
theorem nodup_repl {V A y X X' C w : List Nat} (h : (V ++ (A ++ ((y ++ X) ++ C))).Nodup) (hs : X'.Sublist X) (hw : w.Nodup) (hd : ∀ ψ, ψ ∈ w → ψ ∉ V ∧ ψ ∉ A ∧ ψ ∉ X' ∧ ψ ∉ C) : (V ++ (A ++ ((w ++ X') ++ C))).Nodup := by
  have h0 : (V ++ (A ++ (X' ++ C))).Nodup := h.sublist ((List.Sublist.refl V).append ((List.Sublist.refl A).append ((hs.trans (List.sublist_append_right y X)).append (List.Sublist.refl C))))
  have hp : (V ++ (A ++ ((w ++ X') ++ C))).Perm (w ++ (V ++ (A ++ (X' ++ C)))) := List.perm_iff_count.2 fun a => by simp only [List.count_append]; omega
  rw [hp.nodup_iff, nodup_app]
  refine ⟨hw, h0, fun x hx c => ?_⟩
  obtain ⟨d1, d2, d3, d4⟩ := hd x hx
  simp only [List.mem_append] at c
  rcases c with c | c | c | c
  · exact d1 c
  · exact d2 c
  · exact d3 c
  · exact d4 c
/-- A block's operations are put in the place of others. -/
theorem NewB.repl {v w : AV} {BA BC : List BI} {b : BI} {W : Its} {τ0 : AH} (h : NewB σ τ0 v (BA ++ b :: BC)) (hO : OpsH τ w W) (hsub : (itsF W).Sublist (itsF b.its)) (hw : ∀ ψ, ψ ∈ famL w → τ0 ψ = none) (hk : ∀ ψ, ψ ∉ famL w → τ0 ψ ≠ none → τ ψ = τ0 ψ)
    (h1 : w.one = true) : ∃ φ st, v = .own φ st 0 (BA.length + (BC.length + 1)) ∧ τ0 φ ≠ none ∧ (σ φ = none) ∧ idx 2 v (iv (BA.length : Int)) τ = some (.ptr φ st BA.length 0) ∧ ∀ k : AH → Prop, (∀ τ', NewB σ τ' v (BA ++ ⟨b.args, w, W⟩ :: BC) → k τ') → sto 1 (.ptr φ st BA.length 1) w τ k := by
  obtain ⟨φ, st, hv, hF⟩ := buf_own h.own.1 (by simp)
  have hl : ((BA ++ b :: BC).map encBI).length = BA.length + (BC.length + 1) := by simp
  have hl' : ((BA ++ b :: BC).map fun b => [iv b.args, b.av]).length = BA.length + (BC.length + 1) := by simp
  rw [hl'] at hv
  subst hv
  have hlive : ∀ ψ, ψ ∈ blksF (.own φ st 0 (BA.length + (BC.length + 1))) (BA ++ b :: BC) → τ0 ψ ≠ none := fun ψ hψ => live_ne (h.own.live hψ)
  have hφv : φ ∈ blksF (.own φ st 0 (BA.length + (BC.length + 1))) (BA ++ b :: BC) := List.mem_append_left _ (by simp [famL])
  have hnd : (famL (.own φ st 0 (BA.length + (BC.length + 1))) ++ (bsF BA ++ ((famL b.av ++ itsF b.its) ++ bsF BC))).Nodup := by
    have := h.nd
    rw [blksF] at this
    have e : bsF (BA ++ b :: BC) = bsF BA ++ ((famL b.av ++ itsF b.its) ++ bsF BC) := by rw [bsF_app, bsF_cons]; rfl
    rw [← e]
    exact this
  have mem : ∀ ψ, ψ ∈ blksF (.own φ st 0 (BA.length + (BC.length + 1))) (BA ++ b :: BC) ↔ ψ = φ ∨ ψ ∈ bsF BA ∨ ψ ∈ famL b.av ∨ ψ ∈ itsF b.its ∨ ψ ∈ bsF BC := by
    intro ψ
    have e : bsF (BA ++ b :: BC) = bsF BA ++ ((famL b.av ++ itsF b.its) ++ bsF BC) := by rw [bsF_app, bsF_cons]; rfl
    have e2 : blksF (.own φ st 0 (BA.length + (BC.length + 1))) (BA ++ b :: BC) = famL (.own φ st 0 (BA.length + (BC.length + 1))) ++ bsF (BA ++ b :: BC) := rfl
    rw [e2, e]
    simp [famL]
  have hwn : ∀ ψ, ψ ∈ famL w → ψ ∉ blksF (.own φ st 0 (BA.length + (BC.length + 1))) (BA ++ b :: BC) := fun ψ hψ c => hlive ψ c (hw ψ hψ)
  have hφw : φ ∉ famL w := fun c => hwn φ c hφv
  have hFτ : τ φ = some ⟨st, 2, (BA ++ b :: BC).map encBI⟩ := by rw [hk φ hφw (hlive φ hφv)]; exact hF
  have ix := idx_own (st := st) (off := 0) hFτ (show BA.length < BA.length + (BC.length + 1) by omega)
  rw [Nat.zero_add] at ix
  refine ⟨φ, st, rfl, hlive φ hφv, h.fr φ hφv, ix, fun k hR => ?_⟩
  have hset : τ = τ.set φ ⟨st, 2, BA.map encBI ++ encBI b :: BC.map encBI⟩ := by rw [AH.set_self]; rw [hFτ]; simp
  rw [hset]
  refine sto_at (by simp) (by omega) h1 ?_
  have er : (encBI b).set 1 w = [iv b.args, w] := rfl
  rw [er]
  have h2 : ∀ ψ, ψ ≠ φ → (τ.set φ ⟨st, 2, BA.map encBI ++ [iv b.args, w] :: BC.map encBI⟩) ψ = τ ψ := fun ψ hψ => AH.set_ne' hψ
  obtain ⟨_, hnd3, hnd4⟩ := nodup_app.1 hnd
  have keep : ∀ q, q ∈ BA ++ b :: BC → q ≠ b ∨ True → (q ∈ BA ∨ q ∈ BC) → OpsH (τ.set φ ⟨st, 2, BA.map encBI ++ [iv b.args, w] :: BC.map encBI⟩) q.av q.its := by
    intro q hq _ hq2
    refine (h.own.2 q hq).keep fun ψ hψ => ?_
    have hm : ψ ∈ bsF BA ∨ ψ ∈ bsF BC := hq2.imp (fun c => List.mem_flatMap.2 ⟨q, c, hψ⟩) fun c => List.mem_flatMap.2 ⟨q, c, hψ⟩
    have hmb : ψ ∈ blksF (.own φ st 0 (BA.length + (BC.length + 1))) (BA ++ b :: BC) := (mem ψ).2 (by rcases hm with c | c <;> simp [c])
    have hne : ψ ≠ φ := by
      rintro rfl
      refine hnd4 ψ (by simp [famL]) ?_
      rcases hm with c | c <;> simp [c]
    rw [h2 ψ hne]
    exact hk ψ (fun c => hwn ψ c hmb) (hlive ψ hmb)
  refine hR _ ⟨⟨.inr ⟨φ, st, by simp, by rw [AH.set_same]; simp⟩, ?_⟩, ?_, ?_, ?_⟩
  · intro q hq
    rcases List.mem_append.1 hq with c | c
    · exact keep q (List.mem_append_left _ c) (.inr trivial) (.inl c)
    rcases List.mem_cons.1 c with rfl | c
    · refine hO.keep fun ψ hψ => h2 ψ ?_
      rintro rfl
      rcases List.mem_append.1 hψ with c | c
      · exact hφw c
      · exact hnd4 ψ (by simp [famL]) (by simp [hsub.subset c])
    · exact keep q (List.mem_append_right _ (List.mem_cons_of_mem _ c)) (.inr trivial) (.inr c)
  · have := nodup_repl hnd hsub (famL_nodup w) fun ψ hψ => ⟨fun c => ?_, fun c => ?_, fun c => ?_, fun c => ?_⟩
    · have e : blksF (.own φ st 0 (BA.length + (BC.length + 1))) (BA ++ ⟨b.args, w, W⟩ :: BC) = famL (.own φ st 0 (BA.length + (BC.length + 1))) ++ (bsF BA ++ ((famL w ++ itsF W) ++ bsF BC)) := by
        have : bsF (BA ++ ⟨b.args, w, W⟩ :: BC) = bsF BA ++ ((famL w ++ itsF W) ++ bsF BC) := by rw [bsF_app, bsF_cons]; rfl
        rw [← this]; rfl
      rw [e]; exact this
    · obtain rfl : ψ = φ := by simpa [famL] using c
      exact hφw hψ
    · exact hwn ψ hψ ((mem ψ).2 (by simp [c]))
    · exact hwn ψ hψ ((mem ψ).2 (by simp [hsub.subset c]))
    · exact hwn ψ hψ ((mem ψ).2 (by simp [c]))
  · intro ψ hψ
    have e : blksF (.own φ st 0 (BA.length + (BC.length + 1))) (BA ++ ⟨b.args, w, W⟩ :: BC) = famL (.own φ st 0 (BA.length + (BC.length + 1))) ++ (bsF BA ++ ((famL w ++ itsF W) ++ bsF BC)) := by
      have : bsF (BA ++ ⟨b.args, w, W⟩ :: BC) = bsF BA ++ ((famL w ++ itsF W) ++ bsF BC) := by rw [bsF_app, bsF_cons]; rfl
      rw [← this]; rfl
    rw [e] at hψ
    simp only [List.mem_append] at hψ
    rcases hψ with c | c | (c | c) | c
    · exact h.fr ψ ((mem ψ).2 (by simp only [famL, List.mem_singleton] at c; simp [c]))
    · exact h.fr ψ ((mem ψ).2 (by simp [c]))
    · exact h.sub.none (hw ψ c)
    · exact h.fr ψ ((mem ψ).2 (by simp [hsub.subset c]))
    · exact h.fr ψ ((mem ψ).2 (by simp [c]))
  · intro ψ G hG
    have hn : ψ ≠ φ := by rintro rfl; rw [h.fr ψ hφv] at hG; cases hG
    have h0 := h.sub _ _ hG
    rw [h2 ψ hn, hk ψ (fun c => by rw [hw ψ c] at h0; cases h0) (by rw [h0]; simp), h0]
end Go.Proofs.YtlggnigbemghgaaGreatDoor.E
/- Code that is taken apart: the program's UnfuseCode. -/
set_option linter.unusedSectionVars false
set_option linter.unusedSimpArgs false
set_option linter.unusedVariables false
namespace Go.Proofs.YtlggnigbemghgaaGreatDoor.E
open Go Go.RowKit
set_option maxRecDepth 100000
variable [L : Lam]
variable {σ τ τ' : AH} {R : AEnd → AH → Prop}
/-- A result is put together and handed back. -/
theorem fin_cr {φ : Nat} {z cs : List AV} (hF : τ φ = some ⟨0, 2, [z]⟩) (hz : z.length = 2) (hc : cs.length = 2) (h1 : ∀ y, y ∈ cs → y.one = true) (h : aret (.agg cs) (τ.set φ ⟨0, 2, [cs]⟩) R) :
    sto 2 (.ptr φ 0 0 0) (.agg cs) τ fun σ => og (lodA 2 (.ptr φ 0 0 0) σ) fun r => aret r σ R := by
  refine sto_own (es := [z]) (cs := cs) hF (by simp) (by simpa using hz) rfl hc h1 ?_
  simp only [List.set_cons_zero]
  have e := lodA_at (σ := τ.set φ ⟨0, 2, [cs]⟩) (φ := φ) (st := 0) (i := 0) (n := 2) (cs := cs) (AH.set_same ..) rfl rfl hc
  rw [e]
  exact h
theorem itsF_take (its : Its) (j : Nat) : (itsF (its.take j)).Sublist (itsF its) := by
  have e : itsF its = itsF (its.take j) ++ itsF (its.drop j) := by rw [← itsF_append, List.take_append_drop]
  rw [e]; exact List.sublist_append_left _ _
theorem ael_n {ψ sz : Nat} {es : List (List AV)} : aelems (τ.set ψ ⟨0, sz, es⟩) (.own ψ 0 0 es.length) = some es := by simp [aelems]
theorem buf_at {sz i : Nat} {a : AV} {es : List (List AV)} (h : Buf τ sz a es) (hi : i < es.length) (hl : es[i].length = sz) : ∃ p, idx sz a (iv (i : Int)) τ = some p ∧ lodA sz p τ = some (.agg es[i]) := by
  obtain ⟨φ, st, rfl, hF⟩ := buf_own h (by rintro rfl; cases hi)
  have ix := idx_own (st := st) (off := 0) hF hi
  rw [Nat.zero_add] at ix
  exact ⟨_, ix, lodA_at hF rfl (List.getElem?_eq_getElem hi) hl⟩
theorem bld_c (c : Int) : bld [(.val (.int .i64 0)), (.val (.slice none 0 0))] [(0, 1), (1, 1)] [(0, iv c)] = some (.agg [iv c, nilS]) := rfl
theorem bld_b {w : AV} {sz : Nat} {es : List (List AV)} (h : Buf τ sz w es) : bld [(.val (.int .i64 0)), (.val (.slice none 0 0))] [(0, 1), (1, 1)] [(1, w)] = some (.agg [iv 0, w]) := by
  rcases h with ⟨rfl | rfl, _⟩ | ⟨φ, st, rfl, _⟩ <;> rfl
theorem OpsH.av1 {v : AV} {its : Its} (h : OpsH τ v its) : v.one = true := h.1.av1
/-- The list of blocks of which some are turned already. -/
theorem cont_split {B : List BI} {xs ys : List Blk} {y : Blk} (h : cont B = xs ++ y :: ys) : ∃ BA b BC, B = BA ++ b :: BC ∧ cont BA = xs ∧ blkOf b = y ∧ cont BC = ys ∧ BA.length = xs.length := by
  have h' : B.map blkOf = xs ++ y :: ys := h
  obtain ⟨BA, B2, rfl, h1, h2⟩ := List.map_eq_append_iff.1 h'
  obtain ⟨b, BC, rfl, h3, h4⟩ := List.map_eq_cons_iff.1 h2
  exact ⟨BA, b, BC, rfl, h1, h3, h4, by rw [← h1]; simp⟩
end Go.Proofs.YtlggnigbemghgaaGreatDoor.E
/- Code that is copied and taken apart: the reference's way. -/
set_option linter.unusedSectionVars false
set_option linter.unusedSimpArgs false
set_option linter.unusedVariables false
namespace Go.Proofs.YtlggnigbemghgaaGreatDoor.E
open Go Go.RowKit
set_option maxRecDepth 100000
variable [L : Lam]
variable {σ τ τ' : AH} {R : AEnd → AH → Prop}
set_option maxHeartbeats 1000000 in
theorem c_spec_l9Copy {bs : List Blk} (hl : bs.length ≤ 1048576) (hb : ∀ b, b ∈ bs → b.ops.length ≤ 1048576 ∧ ∀ o, o ∈ b.ops → o.data.length ≤ 1048576) (h : ∀ v B τ, cont B = bs → NewB σ τ v B → R (.ret v) τ) : acall TP fn_spec_l9Copy [roBk bs] σ R := by
  refine s_spec_l9Copy_ok ?_
  unfold s_spec_l9Copy
  refine bsl0 ?_
  refine lp_rel bs.length (fun i x τ => ∃ v B, x = (roBk bs, v, iv (i : Int), ()) ∧ cont B = bs.take i ∧ NewB σ τ v B) ⟨.emp, [], rfl, rfl, .emp (.refl σ)⟩ ?_
  rintro i _ τ hi ⟨v, B, rfl, hcB, hN⟩ R' hR'
  simp only [len_ro, RR]
  by_cases hlt : i < bs.length
  · have g : (i : Int) < (bs.length : Int) := by omega
    obtain ⟨hol, hod⟩ := hb _ (List.getElem_mem hlt)
    have eb : bld [(.val (.int .i64 0)), (.val (.slice none 0 0))] [(0, 1), (1, 1)] [(0, iv bs[i].args)] = some (.agg [iv bs[i].args, nilS]) := rfl
    simp only [g, idx_ro hlt len_encBlk, eb, RR, RT]
    intro φ hφ
    refine sto_own (es := [[iv 0, nilS]]) (cs := [iv bs[i].args, nilS]) (by rw [AH.set_same]; rfl) (by simp) rfl rfl rfl (one2 rfl rfl) ?_
    simp only [List.set_cons_zero, AH.set_set]
    refine lp_rel bs[i].ops.length (fun j x τ' => ∃ w its, x = (roBk bs, v, iv (i : Int), .ptr φ 0 0 0, iv (j : Int), ()) ∧ its.map (·.1) = bs[i].ops.take j ∧ NewO τ τ' w its ∧ τ' φ = some ⟨0, 2, [[iv bs[i].args, w]]⟩ ∧ φ ∉ opsF' w its)
      ⟨nilS, [], rfl, rfl, ⟨⟨nil_buf, fun p hp => by cases hp⟩, .nil, (fun ψ c => by cases c), .set (.refl τ) _ hφ⟩, AH.set_same .., fun c => by cases c⟩ ?_
    rintro j _ τ1 hj ⟨w, its, rfl, hits, hO, hF, hφo⟩ R2 hR2
    have hil : its.length = j := by have := congrArg List.length hits; simpa [Nat.min_eq_left hj] using this
    simp only [idx_ro hlt len_encBlk, len_ro, RR, RT]
    by_cases hlt2 : j < bs[i].ops.length
    · have g2 : (j : Int) < (bs[i].ops.length : Int) := by omega
      have hdl := hod _ (List.getElem_mem hlt2)
      simp only [g2, idx_ro hlt2 len_encOp, lodA_all (len_encOp _), RR]
      intro χ hχ
      refine sto_own (es := [[iv 0, iv 0, iv 0, iv 0, iv 0, str ⟨#[]⟩, nilS]]) (cs := encOp bs[i].ops[j]) (by rw [AH.set_same]; rfl) (by simp) rfl rfl rfl (one_encOp _) ?_
      simp only [List.set_cons_zero, AH.set_set]
      refine bsl0 ?_
      have el : lod (.ptr χ 0 0 6) (τ1.set χ ⟨0, 7, [encOp bs[i].ops[j]]⟩) = some (roD bs[i].ops[j].data) := lod_at (AH.set_same ..) rfl rfl
      simp only [el, RR]
      refine buf_app (es := []) (xs := bs[i].ops[j].data.map encDat) (.inl ⟨.inr rfl, rfl⟩) rfl (by intro c hc; obtain ⟨x, _, rfl⟩ := List.mem_map.1 hc; rfl) (by intro c hc y hy; obtain ⟨x, _, rfl⟩ := List.mem_map.1 hc; exact one_encDat x y hy) (by simp; omega) fun a τ2 hA hAk hAf => ?_
      rw [List.nil_append] at hA
      have hAs : AH.Sub (τ1.set χ ⟨0, 7, [encOp bs[i].ops[j]]⟩) τ2 := hAk.sub (.refl _) fun ψ c => by cases c
      have hAf : ∀ ψ, ψ ∈ famL a → (τ1.set χ ⟨0, 7, [encOp bs[i].ops[j]]⟩) ψ = none := fun ψ hψ => (hAf ψ hψ).elim (fun c => by cases c) id
      have hF2 : τ2 χ = some ⟨0, 7, [encOp bs[i].ops[j]]⟩ := hAs _ _ (AH.set_same ..)
      refine sto_fld hF2 rfl (by decide) (acells_one hA.av1) hA.av1 ?_
      have hφa : χ ∉ famL a := fun c => by have := hAf χ c; rw [AH.set_same] at this; cases this
      refine ⟨.rop (encOpA bs[i].ops[j] a) 0, (τ2.set χ ⟨0, 7, [encOpA bs[i].ops[j] a]⟩).del χ, .del _ _, .ptr (AH.set_same ..) (AH.del_same ..) rfl (by simp) rfl rfl (fun j hj => .same _), ?_⟩
      generalize hτ3 : (τ2.set χ ⟨0, 7, [encOpA bs[i].ops[j] a]⟩).del χ = τ3
      have h3 : ∀ ψ, ψ ≠ χ → τ3 ψ = τ2 ψ := fun ψ hn => by rw [← hτ3, AH.del_ne _ hn, AH.set_ne' hn]
      have hs3 : AH.Sub τ1 τ3 := fun ψ F hF => by
        have hn : ψ ≠ χ := by rintro rfl; rw [hχ] at hF; cases hF
        rw [h3 ψ hn]
        exact hAs _ _ (by rw [AH.set_ne' hn]; exact hF)
      have hA3 : Buf τ3 4 a (bs[i].ops[j].data.map encDat) := buf_keep hA fun ψ hψ => h3 ψ (by rintro rfl; exact hφa hψ)
      have hAf1 : ∀ ψ, ψ ∈ famL a → τ1 ψ = none := fun ψ hψ => (AH.set_none.1 (hAf ψ hψ)).2
      have hF3 : τ3 φ = some ⟨0, 2, [[iv bs[i].args, w]]⟩ := hs3 _ _ hF
      have el2 : lod (.ptr φ 0 0 1) τ3 = some w := lod_at hF3 rfl rfl
      simp only [el2, lodA_all (cs := encOpA bs[i].ops[j] a) (n := 7) rfl, RR]
      refine (hO.grow hs3).push (p := (bs[i].ops[j], a)) rfl hA3 (fun ψ hψ c => ?_) (fun ψ hψ => hO.sub.none (hAf1 ψ hψ)) hA.av1 (by omega) fun w' τ4 hN4 hK4 hf4 => ?_
      · obtain ⟨F, e⟩ := hO.own.live c
        rw [hAf1 ψ hψ] at e; cases e
      have hφw : φ ∉ famL w := fun c => hφo (List.mem_append_left _ c)
      have hF4 : τ4 φ = some ⟨0, 2, [[iv bs[i].args, w]]⟩ := by rw [hK4 φ hφw (by rw [hF3]; simp)]; exact hF3
      have hφo4 : φ ∉ opsF' w' (its ++ [(bs[i].ops[j], a)]) := by
        intro c
        rcases List.mem_append.1 c with c | c
        · rcases hf4 φ c with d | d
          · exact hφw d
          · rw [hF3] at d; cases d
        · rw [itsF_append] at c
          rcases List.mem_append.1 c with c | c
          · exact hφo (List.mem_append_right _ c)
          · have : φ ∈ famL a := by simpa [itsF] using c
            have := hAf1 φ this
            rw [hF] at this; cases this
      refine sto_fld hF4 rfl (by decide) (acells_one hN4.one) hN4.one ?_
      simp only [ibin_up hlt2 (by omega), RR]
      have hkp : Kp [φ] τ4 (τ4.set φ ⟨0, 2, [[iv bs[i].args, w]].set 0 ([iv bs[i].args, w].set 1 w')⟩) := fun ψ hψ _ => AH.set_ne' (by rintro rfl; exact hψ (by simp))
      exact hR2 _ _ _ hlt2 (.refl _) ⟨w', its ++ [(bs[i].ops[j], a)], rfl, by rw [List.take_succ_eq_append_getElem hlt2, List.map_append, hits]; rfl,
        hN4.kp hkp (fun ψ hψ c => hφo4 (by obtain rfl : ψ = φ := by simpa using c
                                           exact hψ)) (fun ψ hψ => by obtain rfl : ψ = φ := by simpa using hψ
                                                                      exact hφ), AH.set_same .., hφo4⟩
    · have g2 : ¬ (j : Int) < (bs[i].ops.length : Int) := by omega
      obtain rfl : j = bs[i].ops.length := by omega
      rw [List.take_length] at hits
      have el3 : lodA 2 (.ptr φ 0 0 0) τ1 = some (.agg [iv bs[i].args, w]) := lodA_at hF rfl rfl rfl
      simp only [g2, el3, RR]
      have hN1 := hN.grow hO.sub
      refine hN1.push (its := its) rfl hO.own hO.nd (fun ψ hψ c => ?_) (fun ψ hψ => hN.sub.none (hO.fr ψ hψ)) hO.one ?_ fun v' τ4 hN4 => ?_
      · obtain ⟨F, e⟩ := hN.own.live c
        rw [hO.fr ψ hψ] at e; cases e
      · have := congrArg List.length hcB
        simp [cont] at this
        omega
      simp only [ibin_up hlt (by omega), RR]
      refine hR' _ _ _ hlt (.refl _) ⟨v', B ++ [⟨bs[i].args, w, its⟩], rfl, ?_, hN4⟩
      rw [List.take_succ_eq_append_getElem hlt, cont, List.map_append, ← cont, hcB]
      simp only [List.map_cons, List.map_nil, hits]
  · have g : ¬ (i : Int) < (bs.length : Int) := by omega
    obtain rfl : i = bs.length := by omega
    rw [List.take_length] at hcB
    simp only [g, RR]
    exact ret_here (h v B τ hcB hN)
end Go.Proofs.YtlggnigbemghgaaGreatDoor.E
/- Code that is taken apart: the reference's way. -/
set_option linter.unusedSectionVars false
set_option linter.unusedSimpArgs false
set_option linter.unusedVariables false
namespace Go.Proofs.YtlggnigbemghgaaGreatDoor.E
open Go Go.RowKit
set_option maxRecDepth 100000
variable [L : Lam]
variable {σ τ τ' : AH} {R : AEnd → AH → Prop}
theorem bslR2 {z r1 r2 : List AV} {x y : AV} {k : AV → Prop} (he : afillS 7 [z, z] [(0, x), (1, y)] = some [r1, r2]) (h1 : r1.length = 7) (h2 : r2.length = 7) (h : k (.ro [r1, r2])) : og (bslR 7 z 2 [(0, x), (1, y)]) k := by
  have e : List.replicate 2 z = [z, z] := rfl
  have e2 : bslR 7 z 2 [(0, x), (1, y)] = some (.ro [r1, r2]) := by
    unfold bslR
    rw [e, he]
    simp only
    rw [if_pos ⟨by omega, by intro c hc; simp at hc; rcases hc with rfl | rfl <;> assumption⟩]
    rfl
  rw [e2]
  exact h
set_option maxHeartbeats 1000000 in
theorem c_spec_l11Turn {w u : AV} {W : Its} {xs : List Int} (hW : Buf τ 7 w (W.map encIt)) (hu : Buf τ 1 u (ivs xs)) (hd : ∀ ψ, ψ ∈ famL w → ψ ∉ famL u) (ht : ∀ p, p ∈ W → 0 ≤ p.1.a ∧ 0 ≤ p.1.c ∧ okT xs.length p.1) (hl : W.length ≤ 4294967296)
    (h : ∀ τ', Buf τ' 7 w ((W.map (turnP xs)).map encIt) → (∀ ψ, ψ ∉ famL w → τ' ψ = τ ψ) → R (.ret w) τ') : acall TP fn_spec_l11Turn [w, u] τ R := by
  refine s_spec_l11Turn_ok ?_
  unfold s_spec_l11Turn
  have hlen := buf_len hW
  rw [show (W.map encIt).length = W.length by simp] at hlen
  refine lp_by (fun n x τ' => ∃ don rest : Its, W = don ++ rest ∧ rest.length = n ∧ x = (w, u, iv (don.length : Int), ()) ∧ Buf τ' 7 w ((don.map (turnP xs) ++ rest).map encIt) ∧ ∀ ψ, ψ ∉ famL w → τ' ψ = τ ψ) W.length ⟨[], W, rfl, rfl, rfl, hW, fun _ _ => rfl⟩ ?_
  rintro n x τ1 ⟨don, rest, hit, hrl, rfl, hB, hfr⟩ R' hR'
  simp only [hlen, RR]
  cases rest with
  | nil =>
    rw [List.append_nil] at hit
    subst hit
    rw [List.append_nil] at hB
    have g : ¬ (W.length : Int) < (W.length : Int) := by omega
    simp only [g, RR]
    exact ret_here (h τ1 hB hfr)
  | cons p r =>
    have hi : don.length < W.length := by rw [hit]; simp
    have g : (don.length : Int) < (W.length : Int) := by omega
    have hu1 : Buf τ1 1 u (ivs xs) := buf_keep hu fun ψ hψ => hfr ψ fun c => hd ψ c hψ
    have hle : ((don.map (turnP xs) ++ p :: r).map encIt).length = W.length := by rw [hit]; simp
    obtain ⟨φ, st, hw, hF⟩ := buf_own hB (by simp)
    rw [hle] at hw
    subst hw
    have hpl : ((don.map (turnP xs)).map encIt).length = don.length := by simp
    have hset : τ1 = τ1.set φ ⟨st, 7, (don.map (turnP xs)).map encIt ++ encIt p :: r.map encIt⟩ := by
      rw [AH.set_self]; rw [hF]; simp
    have hrow : ((don.map (turnP xs) ++ p :: r).map encIt).getD don.length [] = encOpA p.1 p.2 := by simp [List.getD]
    obtain ⟨ha0, hc0, hto⟩ := ht p (by rw [hit]; simp)
    have fin : ∀ (q : OpD × AV) (row : List AV), row = encIt q → q = turnP xs p → R' (.own φ st 0 W.length, u, iv ((don.length + 1 : Nat) : Int), ()) (τ1.set φ ⟨st, 7, (don.map (turnP xs)).map encIt ++ row :: r.map encIt⟩) := by
      rintro q row rfl rfl
      refine hR' _ _ r.length _ (by rw [← hrl]; simp) (.refl _) ⟨don ++ [p], r, by simp [hit], rfl, by simp; rfl, .inr ⟨φ, st, by rw [hit]; simp, by rw [AH.set_same]; simp⟩, fun ψ hψ => ?_⟩
      rw [AH.set_ne' (by rintro rfl; exact hψ (by simp [famL]))]
      exact hfr ψ hψ
    have ix := idx_own (st := st) (off := 0) hF hi
    rw [Nat.zero_add] at ix
    have l0 : lod (.ptr φ st don.length 0) τ1 = some (iv p.1.kind) := lod_at hF rfl (by rw [hrow]; rfl)
    simp only [g, jn, ix, l0, RR]
    unfold okT tgtN at hto
    by_cases c1 : p.1.kind = 5 ∨ p.1.kind = 6
    · rw [if_pos c1] at hto
      have l1 : lod (.ptr φ st don.length 1) τ1 = some (iv p.1.a) := lod_at hF rfl (by rw [hrow]; rfl)
      obtain ⟨q, q1, q2⟩ := buf_rd (j := p.1.a.toNat) hu1 (by omega)
      rw [Int.toNat_of_nonneg ha0] at q1
      have goal : ∀ K : AH → Prop, (K (τ1.set φ ⟨st, 7, (don.map (turnP xs)).map encIt ++ (encIt p).set 1 (iv (atH xs p.1.a.toNat)) :: r.map encIt⟩)) → sto 1 (.ptr φ st don.length 1) (iv (atH xs p.1.a.toNat)) τ1 K := by
        intro K hK
        rw [hset]
        refine sto_at hpl (by omega) rfl ?_
        exact hK
      have fin1 := fin (turnP xs p) ((encIt p).set 1 (iv (atH xs p.1.a.toNat))) (by simp [turnP, turnO, c1, encOpA]) rfl
      by_cases c5 : p.1.kind = 5
      · simp only [c5, Int.reduceEq, l1, q1, q2, ix, RR]
        refine goal _ ?_
        simp only [ibin_up hi (by omega), RR]
        exact fin1
      · have c6 : p.1.kind = 6 := c1.resolve_left c5
        simp only [c6, Int.reduceEq, l1, q1, q2, ix, RR]
        refine goal _ ?_
        simp only [ibin_up hi (by omega), RR]
        exact fin1
    have n5 : ¬ p.1.kind = 5 := fun c => c1 (.inl c)
    have n6 : ¬ p.1.kind = 6 := fun c => c1 (.inr c)
    rw [if_neg c1] at hto
    by_cases c2 : p.1.kind = 16
    · rw [if_pos c2] at hto
      have l1 : lod (.ptr φ st don.length 3) τ1 = some (iv p.1.c) := lod_at hF rfl (by rw [hrow]; rfl)
      obtain ⟨q, q1, q2⟩ := buf_rd (j := p.1.c.toNat) hu1 (by omega)
      rw [Int.toNat_of_nonneg hc0] at q1
      simp only [c2, Int.reduceEq, l1, q1, q2, ix, RR]
      rw [hset]
      refine sto_at hpl (by omega) rfl ?_
      simp only [ibin_up hi (by omega), RR]
      exact fin (turnP xs p) _ (by simp [turnP, turnO, c2, encOpA]) rfl
    simp only [n5, n6, c2, ibin_up hi (by omega), RR]
    rw [hset]
    exact fin p _ rfl (by simp [turnP, turnO, c1, c2])
end Go.Proofs.YtlggnigbemghgaaGreatDoor.E
/- UnfuseCode: the reference's. -/
set_option linter.unusedSectionVars false
set_option linter.unusedSimpArgs false
set_option linter.unusedVariables false
namespace Go.Proofs.YtlggnigbemghgaaGreatDoor.E
open Go Go.RowKit
set_option maxRecDepth 100000
variable [L : Lam]
variable {σ τ τ' : AH} {R : AEnd → AH → Prop}
set_option maxHeartbeats 2000000 in
noncomputable def unfBs (bs : List Blk) : List Blk := if unfC bs = 0 then bs.map unfB else []
theorem newB_nil : NewB σ σ nilS [] := ⟨⟨nil_buf, fun p hp => by cases hp⟩, .nil, (fun ψ c => by cases c), .refl σ⟩
theorem NewB.fz {v : AV} {B : List BI} (h : NewB σ τ v B) : Fz σ τ v (roBk (cont B)) := fz_blks h.own h.fr
theorem ret_frz {v v' : AV} (hs : AH.Sub σ τ) (hf : Fz σ τ v v') (h : R (.ret v') σ) : aret v τ R := ⟨v', σ, imp_freeze hs hf, h⟩
end Go.Proofs.YtlggnigbemghgaaGreatDoor.E
