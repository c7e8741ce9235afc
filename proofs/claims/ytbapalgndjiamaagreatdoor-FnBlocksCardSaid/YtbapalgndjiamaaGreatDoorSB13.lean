import Derived.Test.YtbapalgndjiamaaGreatDoorSB12
import Derived.Lib.ParseIntB
import Derived.Lib.ItoaNum
import Derived.Lib.ItoaMem
/- Targets. -/
set_option linter.unusedSectionVars false
set_option linter.unusedSimpArgs false
set_option linter.unusedVariables false
namespace Go.Proofs.YtbapalgndjiamaaGreatDoor.E
open Go Go.RowKit
variable [L : Lam]
variable {σ : AH} {R : AEnd → AH → Prop}
abbrev ivs (xs : List Int) : List (List AV) := xs.map fun x => [iv x]
theorem push_own {φ st off n : Nat} {es : List (List AV)} {x : Int} {k : AV → AH → Prop} (hF : σ φ = some ⟨st, 1, es⟩) (hl : es.length = off + n) (hb : n + 1 ≤ 4294967296)
  (h : ∀ ψ st', σ ψ = none → k (.own φ st' off (n + 1)) ((σ.set ψ ⟨0, 1, [[iv x]]⟩).set φ ⟨st', 1, es ++ [[iv x]]⟩)) : bsl 1 [iv 0] 1 [(0, iv x)] σ fun v σ => app 1 (.own φ st off n) v σ k := by
 refine ⟨by decide, ?_⟩
 rw [if_neg (by decide)]
 intro ψ hψ
 have hne : φ ≠ ψ := by rintro rfl; rw [hF] at hψ; cases hψ
 show app 1 (.own φ st off n) (.own ψ 0 0 1) (σ.set ψ ⟨0, 1, [[iv x]]⟩) k
 unfold app
 have e : aelems (σ.set ψ ⟨0, 1, [[iv x]]⟩) (.own ψ 0 0 1) = some [[iv x]] := by simp [aelems]
 have e2 : (σ.set ψ ⟨0, 1, [[iv x]]⟩) φ = some ⟨st, 1, es⟩ := by rw [AH.set_ne' hne]; exact hF
 rw [e]
 simp only [e2]
 refine ⟨by simp, trivial, trivial, by omega, by simpa using hb, by intro c hc y hy; simp at hc; subst hc; simp at hy; subst hy; rfl, ?_⟩
 have c : ¬ off + n + [[iv x]].length ≤ es.length := by simp; omega
 simp only [if_neg c]
 have e3 : es.take (off + n) ++ [[iv x]] ++ es.drop (off + n + [[iv x]].length) = es ++ [[iv x]] := by
  rw [List.take_of_length_le (by omega), List.drop_eq_nil_of_le (by simp; omega)]; simp
 rw [e3]
 exact h ψ (st + 1) hψ
theorem push_emp {x : Int} {k : AV → AH → Prop} (h : ∀ ψ φ, σ ψ = none → σ φ = none → φ ≠ ψ → k (.own φ 0 0 1) ((σ.set ψ ⟨0, 1, [[iv x]]⟩).set φ ⟨0, 1, [[iv x]]⟩)) : bsl 1 [iv 0] 1 [(0, iv x)] σ fun v σ => app 1 .emp v σ k := by
 refine ⟨by decide, ?_⟩
 rw [if_neg (by decide)]
 intro ψ hψ
 show app 1 .emp (.own ψ 0 0 1) (σ.set ψ ⟨0, 1, [[iv x]]⟩) k
 unfold app
 have e : aelems (σ.set ψ ⟨0, 1, [[iv x]]⟩) (.own ψ 0 0 1) = some [[iv x]] := by simp [aelems]
 rw [e]
 refine ⟨by simp, by simp, by simp, fun _ φ hφ => ?_⟩
 rw [AH.set_none] at hφ
 exact h ψ φ hψ hφ.2 hφ.1
def Gr (σ τ : AH) (a : AV) (xs : List Int) : Prop := (a = .emp ∧ xs = [] ∧ τ = σ) ∨ ∃ φ st, σ φ = none ∧ a = .own φ st 0 xs.length ∧ τ = σ.set φ ⟨st, 1, ivs xs⟩
theorem Gr.push {τ : AH} {a : AV} {xs : List Int} {x : Int} {k : AV → AH → Prop} (h : Gr σ τ a xs) (hb : xs.length + 1 ≤ 4294967296) (hk : ∀ a' τ' τ'', Gr σ τ' a' (xs ++ [x]) → AH.Sub τ' τ'' → k a' τ'') : bsl 1 [iv 0] 1 [(0, iv x)] τ fun v τ => app 1 a v τ k := by
 rcases h with ⟨rfl, rfl, rfl⟩ | ⟨φ, st, hφ, rfl, rfl⟩
 ·refine push_emp fun ψ φ h1 h2 h3 => hk _ (τ.set φ ⟨0, 1, [[iv x]]⟩) _ (.inr ⟨φ, 0, h2, rfl, rfl⟩) ?_
  exact AH.Sub.set_both (.set (.refl τ) _ h1) _ _
 ·refine push_own (AH.set_same ..) (by simp) (by simpa using hb) fun ψ st' h1 => ?_
  rw [AH.set_none] at h1
  have e : ((σ.set φ ⟨st, 1, ivs xs⟩).set ψ ⟨0, 1, [[iv x]]⟩).set φ ⟨st', 1, ivs xs ++ [[iv x]]⟩ = (σ.set ψ ⟨0, 1, [[iv x]]⟩).set φ ⟨st', 1, ivs (xs ++ [x])⟩ := by
   rw [AH.set_comm _ _ _ (Ne.symm h1.1), AH.set_set]; simp [ivs]
  rw [e]
  exact hk _ (σ.set φ ⟨st', 1, ivs (xs ++ [x])⟩) _ (.inr ⟨φ, st', hφ, by simp, rfl⟩) (AH.Sub.set_both (.set (.refl σ) _ h1.2) _ _)
def tgts (os : List OpD) : List Int := (os.map tgtN).filter fun t => decide (0 ≤ t)
theorem tgts_take {os : List OpD} {i : Nat} (h : i < os.length) : tgts (os.take (i + 1)) = tgts (os.take i) ++ if 0 ≤ tgtN os[i] then [tgtN os[i]] else [] := by
 unfold tgts
 rw [List.take_succ_eq_append_getElem h, List.map_append, List.filter_append]
 congr 1
 simp only [List.map_cons, List.map_nil, List.filter_cons, List.filter_nil, decide_eq_true_eq]
theorem tgts_len (os : List OpD) : (tgts os).length ≤ os.length := by
 unfold tgts
 exact Nat.le_trans (List.length_filter_le _ _) (by simp)
theorem mem_tgts {os : List OpD} {t : Int} : t ∈ tgts os ↔ 0 ≤ t ∧ ∃ o, o ∈ os ∧ tgtN o = t := by
 unfold tgts
 rw [List.mem_filter, List.mem_map, decide_eq_true_eq]
 constructor
 ·rintro ⟨⟨o, h1, h2⟩, h3⟩; exact ⟨h3, o, h1, h2⟩
 ·rintro ⟨h3, o, h1, h2⟩; exact ⟨⟨o, h1, h2⟩, h3⟩
def tgtL (os : List OpD) : List Int := Lib.compact ((tgts os).mergeSort fun x y => decide (x ≤ y))
theorem mem_tgtL {os : List OpD} {t : Int} : t ∈ tgtL os ↔ 0 ≤ t ∧ ∃ o, o ∈ os ∧ tgtN o = t := by
 unfold tgtL
 rw [mem_compact, List.mem_mergeSort, mem_tgts]
theorem tgtL_len (os : List OpD) : (tgtL os).length ≤ os.length := by
 unfold tgtL
 exact Nat.le_trans (compact_len _) (by simpa using tgts_len os)
theorem fz_ints {φ st n : Nat} {es : List (List AV)} {xs : List Int} (hφ : σ φ = none) (hn : xs.length = n) (h : ∀ (i : Nat) (hi : i < xs.length), es[i]? = some [iv xs[i]]) : Fz σ (σ.set φ ⟨st, 1, es⟩) (.own φ st 0 n) (.ro (ivs xs)) := by
 have hl : xs.length ≤ es.length := by
  rcases Nat.lt_or_ge es.length xs.length with c | c
  ·have := (List.getElem?_eq_some_iff.1 (h es.length c)).1; omega
  ·exact c
 refine .own (AH.set_same ..) hφ rfl (by simp only; omega) (by simp [hn]) (fun i hi => ?_) (fun i j hi hj => ?_)
 ·have : i < xs.length := by omega
  simp [this]
 ·have hi' : i < xs.length := by omega
  have hj : j < 1 := hj
  obtain rfl : j = 0 := by omega
  have e1 : (es.getD (0 + i) []).getD 0 .any = iv xs[i] := by simp [List.getD, h i hi']
  have e2 : ((ivs xs).getD i []).getD 0 .any = iv xs[i] := by simp [hi']
  simp only
  rw [e1, e2]
  exact .same _
theorem isPt_122 : isPt TT ty_pointer71 = true := by kernel_rfl
theorem c_impl_targets_own {b : Blk} (hs : smB b.ops) (hl : b.ops.length ≤ 200)
  (h0 : tgtL b.ops = [] → R (.ret .emp) σ)
  (h : ∀ φ st fs, σ φ = none → R (.ret (.own φ st 0 (tgtL b.ops).length)) (σ.set φ ⟨st, 1, ivs (tgtL b.ops ++ fs)⟩)) : acall TP fn_impl_targets [.agg (encBlk b)] σ R := by
 refine s_impl_targets_ok ?_
 unfold s_impl_targets
 refine box_encBlk ?_
 refine ⟨by decide, ?_⟩
 rw [if_pos rfl]
 simp only [RR, RT, len_ro]
 refine lp_rel b.ops.length (fun i x τ => ∃ a, x = (a, roO b.ops, iv (b.ops.length : Int), iv (i : Int), ()) ∧ Gr σ τ a (tgts (b.ops.take i))) ⟨.emp, rfl, .inl ⟨rfl, rfl, rfl⟩⟩ ?_
 rintro i _ τ hi ⟨a, rfl, hG⟩ R' hR'
 by_cases hlt : i < b.ops.length
 ·have g : (i : Int) < (b.ops.length : Int) := by omega
  have hso := hs _ (List.getElem_mem hlt)
  simp only [g, jn, idx_ro hlt len_encOp, RR, RT]
  refine new_encOp rfl ?_
  refine c_impl_Op_target ?_
  simp only [ibin_up hlt (by omega), RR]
  refine tgt_cases hso isPt_122 (fun h0 p hp hq => ?_) (fun h0 => ?_)
  ·simp only [hp, hq, RR]
   refine hG.push (by have := tgts_len (b.ops.take i); simp at this; omega) fun a' τ' τ'' hG' hsub => ?_
   exact hR' _ _ τ' hlt hsub ⟨a', rfl, by rw [tgts_take hlt, if_pos h0]; exact hG'⟩
  ·exact hR' _ _ τ hlt (.refl τ) ⟨a, rfl, by rw [tgts_take hlt, if_neg (by omega), List.append_nil]; exact hG⟩
 ·have g : ¬ (i : Int) < (b.ops.length : Int) := by omega
  obtain rfl : i = b.ops.length := by omega
  rw [List.take_length] at hG
  simp only [g, RR]
  rcases hG with ⟨rfl, he, rfl⟩ | ⟨φ, st, hφ, rfl, rfl⟩
  ·refine c_slices_Sort_emp ?_
   simp only [RR]
   refine c_slices_Compact_emp ?_
   simp only [RR]
   refine ret_here (h0 ?_)
   unfold tgtL
   rw [he]
   have := compact_len (([] : List Int).mergeSort fun x y => decide (x ≤ y))
   exact List.length_eq_zero_iff.1 (by simpa using this)
  ·have hlen : (tgts b.ops).length < 4611686018427387904 := by have := tgts_len b.ops; omega
   refine c_slices_Sort (AH.set_same ..) hlen ?_
   simp only [RR, AH.set_set]
   have e : (tgts b.ops).length = ((tgts b.ops).mergeSort fun x y => decide (x ≤ y)).length := by simp
   rw [e]
   refine c_slices_Compact (AH.set_same ..) (by rw [← e]; exact hlen) ?_
   simp only [RR, AH.set_set]
   exact ret_here (h φ st _ hφ)
theorem c_impl_targets {b : Blk} (hs : smB b.ops) (hl : b.ops.length ≤ 200) (h : R (.ret (.ro (ivs (tgtL b.ops)))) σ) : acall TP fn_impl_targets [.agg (encBlk b)] σ R := by
 refine acall_imp (c_impl_targets_own (σ := σ) (R := fun e σ' => (e = .ret .emp ∧ σ' = σ ∧ tgtL b.ops = []) ∨ ∃ φ st fs, σ φ = none ∧ e = .ret (.own φ st 0 (tgtL b.ops).length) ∧ σ' = σ.set φ ⟨st, 1, ivs (tgtL b.ops ++ fs)⟩) hs hl (fun h0 => .inl ⟨rfl, rfl, h0⟩) (fun φ st fs hφ => .inr ⟨φ, st, fs, hφ, rfl, rfl⟩)) ?_
 rintro e σ' (⟨rfl, rfl, h0⟩ | ⟨φ, st, fs, hφ, rfl, rfl⟩)
 ·refine ⟨_, rfl, _, σ', imp_freeze (.refl σ') .emp, ?_⟩
  rw [h0] at h
  exact h
 ·refine ⟨_, rfl, _, σ, imp_freeze (.set (.refl σ) _ hφ) (fz_ints (xs := tgtL b.ops) hφ rfl fun i hi => ?_), h⟩
  rw [List.getElem?_map, List.getElem?_append_left hi, List.getElem?_eq_getElem hi]
  rfl
end Go.Proofs.YtbapalgndjiamaaGreatDoor.E
/- heightsOf: its walk. -/
namespace Go.Proofs.YtbapalgndjiamaaGreatDoor.E
open Go Go.RowKit
variable [L : Lam]
variable {σ τ : AH} {R : AEnd → AH → Prop}
def GrS (σ τ : AH) (a : AV) (xs : List Int) : Prop := ∃ τ', Gr σ τ' a xs ∧ AH.Sub τ' τ
theorem Gr.base {τ' : AH} {a : AV} {xs : List Int} (h : Gr σ τ' a xs) : AH.Sub σ τ' := by
 rcases h with ⟨_, _, rfl⟩ | ⟨φ, st, hφ, _, rfl⟩
 ·exact .refl _
 ·exact .set (.refl σ) _ hφ
theorem GrS.base {a : AV} {xs : List Int} (h : GrS σ τ a xs) : AH.Sub σ τ := by
 obtain ⟨τ', h1, h2⟩ := h
 exact h1.base.trans h2
theorem GrS.emp (h : AH.Sub σ τ) : GrS σ τ .emp [] := ⟨σ, .inl ⟨rfl, rfl, rfl⟩, h⟩
theorem GrS.push {a : AV} {xs : List Int} {x : Int} {k : AV → AH → Prop} (h : GrS σ τ a xs) (hb : xs.length + 1 ≤ 4294967296) (hk : ∀ a' τ', GrS σ τ' a' (xs ++ [x]) → k a' τ') : bsl 1 [iv 0] 1 [(0, iv x)] τ fun v τ => app 1 a v τ k := by
 have hbase := h.base
 obtain ⟨τ1, h, hs⟩ := h
 rcases h with ⟨rfl, rfl, rfl⟩ | ⟨φ, st, hφ, rfl, rfl⟩
 ·refine push_emp fun ψ φ h1 h2 h3 => hk _ _ ⟨τ1.set φ ⟨0, 1, ivs [x]⟩, .inr ⟨φ, 0, hs.none h2, rfl, rfl⟩, AH.Sub.set_both (.set hs _ (hs.none h1)) _ _⟩
 ·have hF : τ φ = some ⟨st, 1, ivs xs⟩ := hs _ _ (AH.set_same ..)
  refine push_own hF (by simp) (by simpa using hb) fun ψ st' h1 => hk _ _ ⟨σ.set φ ⟨st', 1, ivs (xs ++ [x])⟩, .inr ⟨φ, st', hφ, by simp, rfl⟩, ?_⟩
  have e : ivs (xs ++ [x]) = ivs xs ++ [[iv x]] := by simp [ivs]
  rw [e]
  exact AH.Sub.set_both (.set hbase _ (hbase.none h1)) _ _
theorem GrS.len {a : AV} {xs : List Int} (h : GrS σ τ a xs) : lenS a = some (iv (xs.length : Int)) := by
 obtain ⟨τ1, h, _⟩ := h
 rcases h with ⟨rfl, rfl, _⟩ | ⟨φ, st, _, rfl, _⟩ <;> rfl
theorem own_rd {φ st i : Nat} {out : List Int} (hF : τ φ = some ⟨st, 1, ivs out⟩) (hi : i < out.length) : idx 1 (.own φ st 0 out.length) (iv (i : Int)) τ = some (.ptr φ st i 0) ∧ lod (.ptr φ st i 0) τ = some (iv (atH out i)) := by
 constructor
 ·have := idx_own (st := st) (off := 0) hF hi
  rwa [Nat.zero_add] at this
 ·refine lod_at hF rfl ?_
  simp [atH, List.getD, hi]
theorem own_wr {φ st i : Nat} {out : List Int} {v : Int} {k : AH → Prop} (hF : τ φ = some ⟨st, 1, ivs out⟩) (hi : i < out.length) (h : k (τ.set φ ⟨st, 1, ivs (out.set i v)⟩)) : sto 1 (.ptr φ st i 0) (iv v) τ k := by
 refine sto_own hF (by simpa using hi) ?_ (cs := [iv v]) rfl rfl (by simp; rfl) ?_
 ·simp [List.getD, hi]
 ·rw [show ivs (out.set i v) = (ivs out).set i [iv v] by simp [ivs, List.map_set]] at h
  exact h
theorem GrS.rd {a : AV} {xs : List Int} {j : Nat} {τ' : AH} (h : GrS σ τ a xs) (hj : j < xs.length) (hk : ∀ φ, σ φ = none → τ' φ = τ φ) : ∃ p, idx 1 a (iv (j : Int)) τ' = some p ∧ lod p τ' = some (iv xs[j]) := by
 obtain ⟨τ1, h, hs⟩ := h
 rcases h with ⟨rfl, rfl, _⟩ | ⟨φ, st, hφ, rfl, rfl⟩
 ·cases hj
 ·have hF : τ' φ = some ⟨st, 1, ivs xs⟩ := by rw [hk φ hφ]; exact hs _ _ (AH.set_same ..)
  obtain ⟨h1, h2⟩ := own_rd hF hj
  refine ⟨_, h1, ?_⟩
  rw [h2]
  simp [atH, List.getD, hj]
def negs (out : List Int) : Nat := (out.filter fun x => decide (x < 0)).length
theorem negs_set : ∀ (out : List Int) (i : Nat) (v : Int), i < out.length → atH out i < 0 → 0 ≤ v → negs (out.set i v) + 1 = negs out := by
 intro out
 induction out with
 | nil => intro i v h; cases h
 | cons x out ih =>
  intro i v hi h0 hv
  cases i with
  | zero =>
   have hx : x < 0 := by simpa [atH, List.getD] using h0
   unfold negs
   simp only [List.set_cons_zero, List.filter_cons]
   rw [if_neg (by simp; omega), if_pos (by simpa using hx)]
   rfl
  | succ i =>
   have := ih i v (by simpa using hi) (by simpa [atH, List.getD] using h0) hv
   unfold negs at this ⊢
   simp only [List.set_cons_succ, List.filter_cons]
   split
   ·simp only [List.length_cons]; omega
   ·exact this
theorem negs_init (n : Nat) : negs (0 :: List.replicate n (-1)) = n := by
 unfold negs
 rw [List.filter_cons, if_neg (by decide), List.filter_replicate, if_pos (by decide), List.length_replicate]
structure HSt (os : List OpD) (n : Nat) (out q : List Int) (es : List (List AV)) (off k : Nat) (P : Nat → Prop) (m : Int) : Prop where
 inv : HInv os out P m
 el : es.length = off + q.length
 eq : es.drop off = ivs q
 rng : ∀ t, t ∈ q → ∃ i : Nat, t = i ∧ i < n ∧ 0 ≤ atH out i
 ms : q.length + negs out = k
theorem hd_at {es : List (List AV)} {off : Nat} {t : Int} {q : List Int} (h : es.drop off = ivs (t :: q)) : es[off]? = some [iv t] := by
 have : (es.drop off)[0]? = some [iv t] := by rw [h]; rfl
 rwa [List.getElem?_drop, Nat.add_zero] at this
theorem sub3 {φ1 φ2 ψ : Nat} {N1 N2 O1 O2 G : Fam} (hne : φ1 ≠ φ2) (hψ : τ ψ = none) (h1 : ψ ≠ φ1) (h2 : ψ ≠ φ2) : AH.Sub ((τ.set φ1 N1).set φ2 N2) (((((τ.set φ1 O1).set φ2 O2).set ψ G).set φ2 N2).set φ1 N1) := by
 intro ζ F hζ
 by_cases z1 : ζ = φ1
 ·subst z1
  rw [AH.set_ne' hne, AH.set_same] at hζ
  rw [AH.set_same]; exact hζ
 by_cases z2 : ζ = φ2
 ·subst z2
  rw [AH.set_same] at hζ
  rw [AH.set_ne' z1, AH.set_same]; exact hζ
 rw [AH.set_ne' z2, AH.set_ne' z1] at hζ
 have z3 : ¬ ζ = ψ := by rintro rfl; rw [hψ] at hζ; cases hζ
 rw [AH.set_ne' z1, AH.set_ne' z2, AH.set_ne' z3, AH.set_ne' z2, AH.set_ne' z1]
 exact hζ
theorem bsl_one {x : Int} {k : AV → AH → Prop} (h : ∀ φ, σ φ = none → k (.own φ 0 0 1) (σ.set φ ⟨0, 1, ivs [x]⟩)) : bsl 1 [iv 0] 1 [(0, iv x)] σ k := by
 refine ⟨by decide, ?_⟩
 rw [if_neg (by decide)]
 exact h
theorem len_own {φ st off n : Nat} : lenS (.own φ st off n) = some (iv (n : Int)) := rfl
theorem slc_own1 {φ st off n : Nat} {es : List (List AV)} (hF : τ φ = some ⟨st, 1, es⟩) : slc 1 (.own φ st off (n + 1)) (some (iv 1)) none none τ = some (.own φ st (off + 1) n) := by
 have e : abd (some (iv 1)) 0 = some 1 := rfl
 have e2 : abd none (n + 1) = some (n + 1) := rfl
 simp only [slc, hF, e, e2]
 rw [if_pos (⟨by omega, Nat.le_refl _, trivial, trivial⟩ : 1 ≤ n + 1 ∧ n + 1 ≤ n + 1 ∧ True ∧ True)]
 rfl
theorem idx_own0 {φ st off n : Nat} {es : List (List AV)} (hF : τ φ = some ⟨st, 1, es⟩) : idx 1 (.own φ st off (n + 1)) (iv 0) τ = some (.ptr φ st off 0) := idx_own (i := 0) hF (Nat.succ_pos n)
set_option maxRecDepth 100000 in
theorem c_impl_heightsOf_own {b : Blk} (hs : smB b.ops) (hl : b.ops.length ≤ 200) (hbad : HBad b.ops → R (.ret (.tup [nilS, bv false])) σ)
  (hok : ∀ out φ, HOk b.ops out → σ φ = none → R (.ret (.tup [.own φ 0 0 out.length, bv true])) (σ.set φ ⟨0, 1, ivs out⟩)) : acall TP fn_impl_heightsOf [.agg (encBlk b)] σ R := by
 refine s_impl_heightsOf_ok ?_
 unfold s_impl_heightsOf
 refine box_encBlk ?_
 simp only [RR, RT, len_ro]
 by_cases c0 : b.ops.length = 0
 ·have : ((b.ops.length : Int) = 0) := by omega
  simp only [this, RR]
  exact ret_here (hbad (.inl c0))
 have c0' : ¬ ((b.ops.length : Int) = 0) := by omega
 simp only [c0', lodA_all (len_encBlk b), RR]
 refine c_impl_targets hs hl ?_
 simp only [RR, len_ro]
 refine lp_same (tgtL b.ops).length (fun j => (.rop (encBlk b) 0, iv (b.ops.length : Int), .ro (ivs (tgtL b.ops)), iv ((tgtL b.ops).length : Int), iv (j : Int), ())) (fun j => ∀ (i : Nat) (hi : i < (tgtL b.ops).length), i < j → (tgtL b.ops)[i] < b.ops.length) rfl (fun i hi h => by omega) ?_
 intro j hj hH R' hR'
 by_cases hlt : j < (tgtL b.ops).length
 ·have g : (j : Int) < ((tgtL b.ops).length : Int) := by omega
  simp only [g, idx_ro (enc := fun x => [iv x]) hlt (fun _ => rfl), lod_one, RR]
  by_cases c1 : (b.ops.length : Int) ≤ (tgtL b.ops)[j]
  ·simp only [c1, RR]
   obtain ⟨_, o, ho, e⟩ := mem_tgtL.1 (List.getElem_mem hlt)
   exact ret_here (hbad (.inr (.inl ⟨o, ho, by omega⟩)))
  ·simp only [c1, ibin_up hlt (by have := tgtL_len b.ops; omega), RR]
   refine hR' hlt (fun i hi h => ?_) _ (.refl _)
   rcases Nat.lt_or_ge i j with h1 | h1
   ·exact hH i hi h1
   ·obtain rfl : i = j := by omega
    omega
 have g : ¬ (j : Int) < ((tgtL b.ops).length : Int) := by omega
 have htg : ∀ o, o ∈ b.ops → tgtN o < b.ops.length := by
  intro o ho
  rcases Int.lt_or_le (tgtN o) 0 with h | h
  ·omega
  ·obtain ⟨i, hi, e⟩ := List.getElem_of_mem (mem_tgtL.2 ⟨h, o, ho, rfl⟩)
   have := hH i hi (by omega)
   omega
 simp only [g, RR]
 clear hR' R' hH
 refine mk_Li (by omega) (by omega) (by omega) fun φ1 h1 => ?_
 simp only [Int.toNat_natCast, len_own, RR]
 refine lp_for b.ops.length (fun j => (.rop (encBlk b) 0, iv (b.ops.length : Int), .own φ1 0 0 b.ops.length, iv (b.ops.length : Int), iv (j : Int), ())) (fun j τ => τ = σ.set φ1 ⟨0, 1, ivs (List.replicate j (-1) ++ List.replicate (b.ops.length - j) 0)⟩) rfl (by simp [ivs]) ?_
 rintro j _ hj rfl R' hR'
 have hlen : (List.replicate j (-1 : Int) ++ List.replicate (b.ops.length - j) 0).length = b.ops.length := by simp; omega
 by_cases hlt : j < b.ops.length
 ·have g : (j : Int) < (b.ops.length : Int) := by omega
  have hF := AH.set_same σ φ1 (⟨0, 1, ivs (List.replicate j (-1) ++ List.replicate (b.ops.length - j) 0)⟩ : Fam)
  obtain ⟨e1, _⟩ := own_rd hF (i := j) (by omega)
  rw [hlen] at e1
  simp only [g, e1, RR]
  refine own_wr hF (by omega) ?_
  simp only [ibin_up hlt (by omega), RR, AH.set_set]
  refine hR' hlt _ _ (.refl _) ?_
  congr 3
  rw [List.set_append_right _ _ (by simp)]
  simp only [List.length_replicate, Nat.sub_self]
  obtain ⟨d, hd⟩ : ∃ d, b.ops.length - j = d + 1 := ⟨b.ops.length - j - 1, by omega⟩
  rw [hd, List.replicate_succ, List.set_cons_zero, show b.ops.length - (j + 1) = d by omega, List.replicate_succ']
  simp
 have g : ¬ (j : Int) < (b.ops.length : Int) := by omega
 obtain rfl : j = b.ops.length := by omega
 simp only [g, RR]
 clear hR' R'
 simp only [Nat.sub_self, List.replicate_zero, List.append_nil] at hlen ⊢
 have hF := AH.set_same σ φ1 (⟨0, 1, ivs (List.replicate b.ops.length (-1))⟩ : Fam)
 obtain ⟨e1, _⟩ := own_rd hF (i := 0) (by omega)
 rw [hlen] at e1
 have e1' : idx 1 (.own φ1 0 0 b.ops.length) (iv 0) (σ.set φ1 ⟨0, 1, ivs (List.replicate b.ops.length (-1))⟩) = some (.ptr φ1 0 0 0) := e1
 simp only [e1', RR]
 refine own_wr hF (by omega) ?_
 simp only [AH.set_set]
 refine bsl_one fun φ2 h2 => ?_
 rw [AH.set_none] at h2
 have hne : φ1 ≠ φ2 := Ne.symm h2.1
 have hbase : ∀ F1 F2, AH.Sub σ ((σ.set φ1 F1).set φ2 F2) := fun F1 F2 => AH.Sub.set (AH.Sub.set (.refl σ) F1 h1) F2 h2.2
 have einit : (List.replicate b.ops.length (-1 : Int)).set 0 0 = 0 :: List.replicate (b.ops.length - 1) (-1) := by
  obtain ⟨d, hd⟩ : ∃ d, b.ops.length = d + 1 := ⟨b.ops.length - 1, by omega⟩
  rw [hd, List.replicate_succ]; rfl
 rw [einit]
 refine lp_by (fun k x τ => ∃ out q es st off, k ≤ b.ops.length ∧ x = (.rop (encBlk b) 0, iv (b.ops.length : Int), .own φ1 0 0 b.ops.length, .own φ2 st off q.length, ()) ∧ τ = (σ.set φ1 ⟨0, 1, ivs out⟩).set φ2 ⟨st, 1, es⟩ ∧
   HSt b.ops b.ops.length out q es off k (fun i => (i : Int) ∈ q) (2 * (b.ops.length - k))) b.ops.length
  ⟨0 :: List.replicate (b.ops.length - 1) (-1), [0], ivs [0], 0, 0, Nat.le_refl _, rfl, rfl, ⟨by
   have := HInv.init (os := b.ops) (by omega) (P := fun i => (i : Int) ∈ [(0 : Int)]) (by simp)
   rw [show (2 * ((b.ops.length : Int) - b.ops.length)) = 0 by omega]; exact this, rfl, rfl, by
   intro t ht
   rw [List.mem_singleton] at ht
   subst ht
   exact ⟨0, rfl, by omega, by simp [atH]⟩, by rw [negs_init]; simp; omega⟩⟩ ?_
 rintro k x τ ⟨out, q, es, st, off, hk, rfl, rfl, hS⟩ R' hR'
 have hF1 : ((σ.set φ1 ⟨0, 1, ivs out⟩).set φ2 ⟨st, 1, es⟩) φ1 = some ⟨0, 1, ivs out⟩ := by rw [AH.set_ne' hne, AH.set_same]
 have hF2 : ((σ.set φ1 ⟨0, 1, ivs out⟩).set φ2 ⟨st, 1, es⟩) φ2 = some ⟨st, 1, es⟩ := AH.set_same ..
 have hol := hS.inv.len
 cases q with
 | nil =>
  simp only [len_own, RR, List.length_nil]
  have hout : HOk b.ops out := HInv.fin (m := 2 * (b.ops.length - k)) (by omega) (hS.inv.weak (Int.le_refl _) fun j _ _ hj => by simp at hj) htg
  have := hok out φ1 hout h1
  rw [hol] at this
  exact aret_sub (.set (.refl _) _ (AH.set_none.2 ⟨Ne.symm hne, h2.2⟩)) this
 | cons t q =>
  obtain ⟨i, rfl, hi, h0⟩ := hS.rng t (by simp)
  have g : (0 : Int) < ((((i : Int) :: q).length : Nat) : Int) := by simp
  have e2 : lod (.ptr φ2 st off 0) ((σ.set φ1 ⟨0, 1, ivs out⟩).set φ2 ⟨st, 1, es⟩) = some (iv (i : Int)) := lod_at hF2 rfl (by simp [List.getD, hd_at hS.eq])
  obtain ⟨e3, e4⟩ := own_rd hF1 (i := i) (by omega)
  rw [hol] at e3
  simp only [List.length_cons, len_own, RR] at g ⊢
  simp only [g, idx_own0 hF2, e2, slc_own1 hF2, RR, RT, idx_ro hi len_encOp]
  refine new_encOp rfl ?_
  have hso := hs _ (List.getElem_mem hi)
  have ho : opA b.ops i = b.ops[i] := (op_at hi).symm
  have hv : atH out i ≤ 2 * (b.ops.length - k) := by
   rcases hS.inv.own i hi with c | ⟨_, c, _⟩
   ·omega
   ·exact c
  have ht := takes_le hso
  have hp := puts_le b.ops[i]
  have e5 : ibin .sub (iv (atH out i)) (iv (takesN b.ops[i])) = some (iv (atH out i - takesN b.ops[i])) := ibin_sub (by omega) (by omega)
  have e6 : ibin .add (iv (atH out i - takesN b.ops[i])) (iv (putsN b.ops[i])) = some (iv (nextH b.ops[i] (atH out i))) := ibin_add (by omega) (by omega)
  have eb : bslR 1 [AV.val (Value.int IntKind.i64 0)] 0 [] = some .emp := rfl
  simp only [e3, e4, lodA_all (len_encOp _), eb, RR]
  refine c_impl_Op_takes hso ?_
  simp only [e3, e4, e5, lodA_all (len_encOp _), eq_self, and_true, true_and, RR]
  refine c_impl_Op_puts ?_
  simp only [e3, e4, e6, eq_self, and_true, true_and, RR]
  refine jn_of (fun x τ => τ = (σ.set φ1 ⟨0, 1, ivs out⟩).set φ2 ⟨st, 1, es⟩ ∧ x = (.rop (encBlk b) 0, iv (b.ops.length : Int), .own φ1 0 0 b.ops.length, .own φ2 st (off + 1) q.length, iv (i : Int), .rop (encOp b.ops[i]) 0, iv (nextH b.ops[i] (atH out i)), .emp, bv (!highB b.ops[i] (atH out i)), ())) ?_ ?_
  rotate_left
  ·intro k4 hk4
   refine c_impl_Op_takes hso ?_
   simp only [e3, e4, eq_self, and_true, true_and, RR]
   have hi2 := high_iff (o := b.ops[i]) h0
   by_cases c : atH out i < takesN b.ops[i]
   ·rw [decide_eq_true c, Bool.true_or] at hi2
    rw [← hi2] at hk4
    simp only [c, RR]
    exact hk4 _ _ ⟨rfl, rfl⟩
   ·rw [decide_eq_false c, Bool.false_or] at hi2
    rw [← hi2] at hk4
    simp only [c, e4, lodA_all (len_encOp _), e3, RR]
    refine c_impl_Op_ends hso ?_
    simp only [RR]
    exact hk4 _ _ ⟨rfl, rfl⟩
  rintro _ _ ⟨rfl, rfl⟩
  refine apick_cases (fun c => ?_) (fun c => ?_)
  ·have : highB (opA b.ops i) (atH out i) = false := by rw [ho]; simpa using c
   exact aret_sub (hbase _ _) (hbad (hS.inv.bad_high hi h0 this))
  have hh : highB (opA b.ops i) (atH out i) = true := by rw [ho]; simpa using c
  have hn0 : nextH (opA b.ops i) (atH out i) = nextH b.ops[i] (atH out i) := by rw [ho]
  have hnb : nextH b.ops[i] (atH out i) ≤ 2 * (b.ops.length - k) + 2 := by unfold nextH; omega
  have hk1 : 1 ≤ k := by have := hS.ms; simp at this; omega
  refine jn_of (fun x τ => ∃ a, GrS ((σ.set φ1 ⟨0, 1, ivs out⟩).set φ2 ⟨st, 1, es⟩) τ a (if goesB b.ops[i].kind then [(i : Int) + 1] else []) ∧ x = (.rop (encBlk b) 0, iv (b.ops.length : Int), .own φ1 0 0 b.ops.length, .own φ2 st (off + 1) q.length, .rop (encOp b.ops[i]) 0, iv (nextH b.ops[i] (atH out i)), a, ())) ?_ ?_
  rotate_left
  ·intro k5 hk5
   simp only [lodA_all (len_encOp _), RR]
   refine c_impl_Op_goesOn ?_
   have e7 : ibin .add (iv (i : Int)) (.val (.int .i64 1)) = some (iv ((i : Int) + 1)) := ibin_add (by omega) (by omega)
   cases c2 : goesB b.ops[i].kind
   ·rw [c2] at hk5
    simp only [RR]
    exact hk5 _ _ ⟨.emp, .emp (.refl _), rfl⟩
   ·rw [c2] at hk5
    simp only [e7, RR]
    refine (GrS.emp (.refl _)).push (by decide) fun a' τ' hG' => ?_
    exact hk5 _ _ ⟨a', hG', rfl⟩
  rintro _ τ1 ⟨a1, hG1, rfl⟩
  refine jn_of (fun x τ => ∃ a, GrS ((σ.set φ1 ⟨0, 1, ivs out⟩).set φ2 ⟨st, 1, es⟩) τ a (leads b.ops[i] i) ∧ x = (.rop (encBlk b) 0, iv (b.ops.length : Int), .own φ1 0 0 b.ops.length, .own φ2 st (off + 1) q.length, iv (nextH b.ops[i] (atH out i)), a, ())) ?_ ?_
  rotate_left
  ·intro k6 hk6
   refine c_impl_Op_target ?_
   simp only [RR]
   unfold leads at hk6
   refine tgt_cases hso isPt_122 (fun h0 p hp hq => ?_) (fun h0 => ?_)
   ·rw [if_pos h0] at hk6
    simp only [hp, hq, RR]
    refine hG1.push (by split <;> simp) fun a' τ' hG' => ?_
    exact hk6 _ _ ⟨a', hG', rfl⟩
   ·rw [if_neg (show ¬ 0 ≤ tgtN b.ops[i] by omega), List.append_nil] at hk6
    exact hk6 _ _ ⟨a1, hG1, rfl⟩
  rintro _ τ0 ⟨a, hG, rfl⟩
  have hb0 := hG.base
  have hbσ : AH.Sub σ τ0 := (hbase _ _).trans hb0
  have hT1 : τ0 φ1 = some ⟨0, 1, ivs out⟩ := hb0 _ _ hF1
  have hT2 : τ0 φ2 = some ⟨st, 1, es⟩ := hb0 _ _ hF2
  simp only [hG.len, RR]
  have hms := hS.ms
  simp only [List.length_cons] at hms
  refine lp_by (fun k7 x τ => ∃ (j : Nat) (out' q' : List Int) (st' off' : Nat) (es' : List (List AV)), j + k7 = (leads b.ops[i] i).length ∧
    x = (.rop (encBlk b) 0, iv (b.ops.length : Int), .own φ1 0 0 b.ops.length, .own φ2 st' off' q'.length, iv (nextH b.ops[i] (atH out i)), a, iv ((leads b.ops[i] i).length : Int), iv (j : Int), ()) ∧
    τ = (τ0.set φ1 ⟨0, 1, ivs out'⟩).set φ2 ⟨st', 1, es'⟩ ∧ HSt b.ops b.ops.length out' q' es' off' (k - 1) (fun l => (l : Int) ∈ q' ∨ l = i) (2 * (b.ops.length - k) + 2) ∧ atH out' i = atH out i ∧
    ∀ (j' : Nat) (hj' : j' < (leads b.ops[i] i).length), j' < j → (leads b.ops[i] i)[j'] < b.ops.length ∧ atH out' ((leads b.ops[i] i)[j']).toNat = nextH b.ops[i] (atH out i)) (leads b.ops[i] i).length
   ⟨0, out, q, st, off + 1, es, by omega, rfl, ?_, ⟨hS.inv.weak (by omega) fun j _ _ hj => .inl ?_, by have := hS.el; simp at this; omega, ?_, fun t ht => hS.rng t (by simp [ht]), by omega⟩, rfl, fun j' _ h => by omega⟩ ?_
  ·rw [AH.set_self hT1, AH.set_self hT2]
  ·rcases List.mem_cons.1 hj with h | h
   ·exact .inr (by omega)
   ·exact .inl h
  ·have := congrArg List.tail hS.eq
   rw [List.tail_drop] at this
   exact this
  clear hS
  rintro k7 x τ ⟨j, out', q', st', off', es', hj7, rfl, rfl, hS, hsame, hdone⟩ R7 hR7
  have hF1' : ((τ0.set φ1 ⟨0, 1, ivs out'⟩).set φ2 ⟨st', 1, es'⟩) φ1 = some ⟨0, 1, ivs out'⟩ := by rw [AH.set_ne' hne, AH.set_same]
  have hF2' : ((τ0.set φ1 ⟨0, 1, ivs out'⟩).set φ2 ⟨st', 1, es'⟩) φ2 = some ⟨st', 1, es'⟩ := AH.set_same ..
  have hol' := hS.inv.len
  have hbt : AH.Sub σ ((τ0.set φ1 ⟨0, 1, ivs out'⟩).set φ2 ⟨st', 1, es'⟩) := AH.Sub.set (AH.Sub.set hbσ _ h1) _ h2.2
  have h0' : 0 ≤ atH out' i := by rw [hsame]; exact h0
  have hh' : highB (opA b.ops i) (atH out' i) = true := by rw [hsame]; exact hh
  have hn0' : nextH (opA b.ops i) (atH out' i) = nextH b.ops[i] (atH out i) := by rw [hsame, hn0]
  by_cases hlt : j < (leads b.ops[i] i).length
  ·have g : (j : Int) < ((leads b.ops[i] i).length : Int) := by omega
   obtain ⟨p, q1, q2⟩ := hG.rd (τ' := (τ0.set φ1 ⟨0, 1, ivs out'⟩).set φ2 ⟨st', 1, es'⟩) hlt (fun φ hφ => by
    have n1 : ¬ φ = φ1 := by rintro rfl; rw [hF1] at hφ; cases hφ
    have n2 : ¬ φ = φ2 := by rintro rfl; rw [hF2] at hφ; cases hφ
    rw [AH.set_ne' n2, AH.set_ne' n1])
   have hmem : (leads b.ops[i] i)[j] ∈ leads (opA b.ops i) i := by rw [ho]; exact List.getElem_mem hlt
   have hnn := lead_nn hmem
   have hl2 : (leads b.ops[i] i).length ≤ 2 := by unfold leads; rw [List.length_append]; split <;> split <;> simp
   generalize ht : (leads b.ops[i] i)[j] = t at hmem hnn q2
   obtain ⟨tn, rfl⟩ : ∃ tn : Nat, t = (tn : Int) := ⟨t.toNat, by omega⟩
   by_cases c1 : (b.ops.length : Int) ≤ (tn : Int)
   ·simp only [g, q1, q2, c1, RR, jn]
    exact aret_sub hbt (hbad (hS.inv.bad_lead hi h0' hh' hmem (.inl c1)))
   have htn : tn < b.ops.length := by omega
   obtain ⟨r1, r2⟩ := own_rd hF1' (i := tn) (by omega)
   rw [hol'] at r1
   by_cases c2 : 0 ≤ atH out' tn
   ·by_cases c3 : atH out' tn = nextH b.ops[i] (atH out i)
    ·have c2' : ¬ atH out' tn < 0 := by omega
     have c2'' : 0 ≤ nextH b.ops[i] (atH out i) := by omega
     have c2x : ¬ nextH b.ops[i] (atH out i) < 0 := by omega
     simp only [g, q1, q2, c1, c2, c2', c2'', c2x, c3, r1, r2, RR, jn, ibin_up hlt (by omega)]
     exact hR7 _ _ (k7 - 1) _ (by omega) (.refl _) ⟨j + 1, out', q', st', off', es', by omega, rfl, rfl, hS, hsame, fun j' hj' h => by
      rcases Nat.lt_or_ge j' j with h1 | h1
      ·exact hdone j' hj' h1
      ·obtain rfl : j' = j := by omega
       rw [ht]
       exact ⟨by omega, by rw [Int.toNat_natCast]; exact c3⟩⟩
    ·simp only [g, q1, q2, c1, c2, c3, r1, r2, RR, jn]
     exact aret_sub hbt (hbad (hS.inv.bad_lead hi h0' hh' hmem (.inr ⟨by rw [Int.toNat_natCast]; exact c2, by rw [Int.toNat_natCast, hn0']; exact c3⟩)))
   ·have c2' : atH out' tn < 0 := by omega
    simp only [g, q1, q2, c1, c2, c2', r1, r2, RR, jn]
    have hql : q'.length ≤ 200 := by have := hS.ms; omega
    refine push_own hF2' hS.el (by omega) fun ψ st2 hψ => ?_
    rw [AH.set_none, AH.set_none] at hψ
    have hF3 : ((((τ0.set φ1 ⟨0, 1, ivs out'⟩).set φ2 ⟨st', 1, es'⟩).set ψ ⟨0, 1, [[iv (tn : Int)]]⟩).set φ2 ⟨st2, 1, es' ++ [[iv (tn : Int)]]⟩) φ1 = some ⟨0, 1, ivs out'⟩ := by
     rw [AH.set_ne' hne, AH.set_ne' (Ne.symm hψ.2.1), hF1']
    obtain ⟨r3, r4⟩ := own_rd hF3 (i := tn) (by omega)
    rw [hol'] at r3
    simp only [r3, RR]
    refine own_wr hF3 (by omega) ?_
    simp only [RR, ibin_up hlt (by omega)]
    have hnn2 : 0 ≤ nextH b.ops[i] (atH out i) := by
     rw [← hn0']
     have := takes_of_lead hmem hh'
     have := puts_le (opA b.ops i)
     unfold nextH; omega
    have hneg := negs_set out' tn (nextH b.ops[i] (atH out i)) (by omega) c2' hnn2
    have hne2 : tn ≠ i := by rintro rfl; omega
    refine hR7 _ _ (k7 - 1) ((τ0.set φ1 ⟨0, 1, ivs (out'.set tn (nextH b.ops[i] (atH out i)))⟩).set φ2 ⟨st2, 1, es' ++ [[iv (tn : Int)]]⟩) (by omega) ?_ ⟨j + 1, out'.set tn (nextH b.ops[i] (atH out i)), q' ++ [(tn : Int)], st2, off', es' ++ [[iv (tn : Int)]], by omega, by rw [List.length_append]; rfl, rfl, ⟨?_, ?_, ?_, ?_, ?_⟩, ?_, ?_⟩
    ·exact sub3 hne hψ.2.2 hψ.2.1 hψ.1
    ·rw [← hn0']
     exact hS.inv.set hi h0' hh' hmem (Int.toNat_natCast tn) htn c2' (fun l hl => by
      rcases hl with h | h
      ·exact .inl (by simp [h])
      ·exact .inr h) (.inl (by simp)) (Int.le_refl _) (by rw [hn0']; exact hnb)
    ·have := hS.el
     simp only [List.length_append, List.length_cons, List.length_nil]
     omega
    ·have := hS.el
     rw [List.drop_append_of_le_length (by omega), hS.eq]
     simp [ivs]
    ·intro u hu
     rcases List.mem_append.1 hu with h | h
     ·obtain ⟨i', e, h3, h4⟩ := hS.rng u h
      refine ⟨i', e, h3, ?_⟩
      rw [atH_set (by omega), if_neg (by rintro rfl; omega)]
      exact h4
     ·rw [List.mem_singleton] at h
      refine ⟨tn, h, htn, ?_⟩
      rw [atH_set (by omega), if_pos rfl]
      exact hnn2
    ·have := hS.ms
     simp only [List.length_append, List.length_cons, List.length_nil]
     omega
    ·rw [atH_set (by omega), if_neg hne2]
     exact hsame
    ·intro j' hj' h
     rcases Nat.lt_or_ge j' j with h1 | h1
     ·obtain ⟨d1, d2⟩ := hdone j' hj' h1
      refine ⟨d1, ?_⟩
      rw [atH_set (by omega)]
      split
      ·rfl
      ·exact d2
     ·obtain rfl : j' = j := by omega
      rw [ht]
      refine ⟨by omega, ?_⟩
      rw [Int.toNat_natCast, atH_set (by omega), if_pos rfl]
  ·have g : ¬ (j : Int) < ((leads b.ops[i] i).length : Int) := by omega
   simp only [g, RR]
   refine hR' _ _ (k - 1) ((σ.set φ1 ⟨0, 1, ivs out'⟩).set φ2 ⟨st', 1, es'⟩) (by omega) (AH.Sub.set_both (AH.Sub.set_both hbσ _ _) _ _) ⟨out', q', es', st', off', by omega, rfl, rfl, ⟨?_, hS.el, hS.eq, hS.rng, hS.ms⟩⟩
   refine hS.inv.weak (by omega) fun l hl h3 h4 => ?_
   rcases h4 with h4 | rfl
   ·exact .inl h4
   ·refine .inr ⟨hh', fun t ht => ?_⟩
    rw [ho] at ht
    obtain ⟨j', hj', e⟩ := List.getElem_of_mem ht
    obtain ⟨d1, d2⟩ := hdone j' hj' (by omega)
    rw [e] at d1 d2
    exact ⟨d1, by rw [d2, hn0']⟩
end Go.Proofs.YtbapalgndjiamaaGreatDoor.E
/- The reference's heights. -/
namespace Go.Proofs.YtbapalgndjiamaaGreatDoor.E
open Go Go.RowKit
variable [L : Lam]
variable {σ τ : AH} {R : AEnd → AH → Prop}
noncomputable def htsV (os : List OpD) : AV := match hts os with
 | some out => .tup [.ro (ivs out), bv true]
 | none => .tup [nilS, bv false]
theorem fz_own {φ : Nat} {out : List Int} (hφ : σ φ = none) : Fz σ (σ.set φ ⟨0, 1, ivs out⟩) (.own φ 0 0 out.length) (.ro (ivs out)) :=
 fz_ints hφ rfl fun i hi => by rw [List.getElem?_map, List.getElem?_eq_getElem hi]; rfl
theorem Fz.tup2 {a b c d : AV} (h : Fz σ τ a c) (k : Fz σ τ b d) : Fz σ τ (.tup [a, b]) (.tup [c, d]) := by
 refine .tup rfl fun i hi => ?_
 match i, hi with
 | 0, _ => exact h
 | 1, _ => exact k
theorem c_impl_heightsOf {b : Blk} (hs : smB b.ops) (hl : b.ops.length ≤ 200) (h : R (.ret (htsV b.ops)) σ) : acall TP fn_impl_heightsOf [.agg (encBlk b)] σ R := by
 refine acall_imp (c_impl_heightsOf_own (σ := σ) (R := fun e σ' => (e = .ret (.tup [nilS, bv false]) ∧ σ' = σ ∧ HBad b.ops) ∨ ∃ out φ, HOk b.ops out ∧ σ φ = none ∧ e = .ret (.tup [.own φ 0 0 out.length, bv true]) ∧ σ' = σ.set φ ⟨0, 1, ivs out⟩) hs hl (fun h0 => .inl ⟨rfl, rfl, h0⟩) (fun out φ h0 hφ => .inr ⟨out, φ, h0, hφ, rfl, rfl⟩)) ?_
 rintro e σ' (⟨rfl, rfl, h0⟩ | ⟨out, φ, h0, hφ, rfl, rfl⟩)
 ·unfold htsV at h
  rw [hts_bad h0] at h
  exact ⟨_, rfl, _, σ', imp_freeze (.refl σ') (.same _), h⟩
 ·unfold htsV at h
  rw [hts_ok h0] at h
  exact ⟨_, rfl, _, σ, imp_freeze (.set (.refl σ) _ hφ) (Fz.tup2 (fz_own hφ) (.same _)), h⟩
theorem aext0 (a b : AV) : aext (.tup [a, b]) 0 = some a := id rfl
theorem aext1 (a b : AV) : aext (.tup [a, b]) 1 = some b := id rfl
theorem c_spec_l10Lead {φ st n : Nat} {out : List Int} {t v : Int} (hF : σ φ = some ⟨st, 1, ivs out⟩) (hn : out.length = n) (hl : out.length ≤ 200)
  (h1 : t < 0 ∨ (out.length : Int) ≤ t → R (.ret (.tup [bv false, bv false])) σ)
  (h2 : ∀ n : Nat, t = (n : Int) → n < out.length → atH out n < 0 → R (.ret (.tup [bv true, bv true])) (σ.set φ ⟨st, 1, ivs (out.set n v)⟩))
  (h3 : ∀ n : Nat, t = (n : Int) → n < out.length → 0 ≤ atH out n → R (.ret (.tup [bv false, bv (decide (atH out n = v))])) σ) : acall TP fn_spec_l10Lead [.own φ st 0 n, iv t, iv v] σ R := by
 subst hn
 refine s_spec_l10Lead_ok ?_
 unfold s_spec_l10Lead
 have e : ibin .sub (iv (out.length : Int)) (.val (.int .i64 1)) = some (iv ((out.length : Int) - 1)) := ibin_sub (by omega) (by omega)
 simp only [len_own, e, RR]
 refine c_spec_l1In ?_
 cases c : inB 0 ((out.length : Int) - 1) t
 ·simp only [RR]
  refine ret_here (h1 ?_)
  have : ¬ (0 ≤ t ∧ t ≤ (out.length : Int) - 1) := fun h => by rw [inB_iff.2 h] at c; cases c
  omega
 ·have hc := inB_iff.1 c
  obtain ⟨n, rfl⟩ : ∃ n : Nat, t = (n : Int) := ⟨t.toNat, by omega⟩
  have hn : n < out.length := by omega
  obtain ⟨r1, r2⟩ := own_rd hF hn
  simp only [r1, r2, RR]
  by_cases c2 : atH out n < 0
  ·simp only [c2, r1, RR]
   refine own_wr hF hn ?_
   exact ret_here (h2 n rfl hn c2)
  ·simp only [c2, r1, r2, RR]
   exact ret_here (h3 n rfl hn (by omega))
structure PSt (os : List OpD) (out0 out : List Int) (turned : Bool) (i : Nat) (m : Int) : Prop where
 inv : HInv os out (fun _ => True) m
 le : negs out ≤ negs out0
 lt : turned = true → negs out < negs out0
 eq : turned = false → out = out0 ∧ ∀ j, j < i → 0 ≤ atH out0 j → Done os out0 j
theorem PSt.set {os : List OpD} {out0 out : List Int} {turned : Bool} {i t i2 : Nat} {m m' : Int} {s : Int} (h : PSt os out0 out turned i2 m) (hi : i < os.length) (h0 : 0 ≤ atH out i) (hh : highB (opA os i) (atH out i) = true) (hs : s ∈ leads (opA os i) i) (hst : s = (t : Int))
  (ht : t < os.length) (hn : atH out t < 0) (hm : m ≤ m') (hm' : nextH (opA os i) (atH out i) ≤ m') : PSt os out0 (out.set t (nextH (opA os i) (atH out i))) true i m' := by
 have h1 := takes_of_lead hs hh
 have h2 := puts_le (opA os i)
 have hneg := negs_set out t (nextH (opA os i) (atH out i)) (by rw [h.inv.len]; exact ht) hn (by unfold nextH; omega)
 have := h.le
 exact ⟨h.inv.set hi h0 hh hs (by rw [hst]; rfl) ht hn (fun _ _ => trivial) trivial hm hm', by omega, fun _ => by omega, fun h => by cases h⟩
theorem c_spec_l10Pass {φ st : Nat} {b : Blk} {out : List Int} {m : Int} (hs : smB b.ops) (hl : b.ops.length ≤ 200) (hF : σ φ = some ⟨st, 1, ivs out⟩) (hI : HInv b.ops out (fun _ => True) m) (hm0 : 0 ≤ m) (hm : m ≤ 1000000)
  (hbad : ∀ out', HBad b.ops → R (.ret (.tup [bv false, bv false])) (σ.set φ ⟨st, 1, ivs out'⟩))
  (hok : ∀ out' turned, PSt b.ops out out' turned b.ops.length (m + 2 * b.ops.length) → R (.ret (.tup [bv turned, bv true])) (σ.set φ ⟨st, 1, ivs out'⟩)) : acall TP fn_spec_l10Pass [.rop (encBlk b) 0, .own φ st 0 b.ops.length] σ R := by
 refine s_spec_l10Pass_ok ?_
 unfold s_spec_l10Pass
 refine lp_by (fun k x τ => ∃ (i : Nat) (out' : List Int) (turned : Bool), i + k = b.ops.length ∧ x = (.rop (encBlk b) 0, .own φ st 0 b.ops.length, bv turned, iv (i : Int), ()) ∧ τ = σ.set φ ⟨st, 1, ivs out'⟩ ∧ PSt b.ops out out' turned i (m + 2 * i)) b.ops.length
  ⟨0, out, false, by omega, rfl, (AH.set_self hF).symm, ⟨hI.weak (by omega) fun _ _ _ _ => .inl trivial, Nat.le_refl _, fun h => (by cases h), fun _ => ⟨rfl, fun j hj => by omega⟩⟩⟩ ?_
 rintro k x τ ⟨i, out', turned, hk, rfl, rfl, hP⟩ R' hR'
 have hF1 := AH.set_same σ φ (⟨st, 1, ivs out'⟩ : Fam)
 have hol := hP.inv.len
 simp only [RR, RT, len_ro]
 by_cases hi : i < b.ops.length
 case neg =>
  have g : ¬ (i : Int) < (b.ops.length : Int) := by omega
  obtain rfl : i = b.ops.length := by omega
  simp only [g, RR]
  exact ret_here (hok out' turned hP)
 have g : (i : Int) < (b.ops.length : Int) := by omega
 have hso := hs _ (List.getElem_mem hi)
 have ho : opA b.ops i = b.ops[i] := (op_at hi).symm
 simp only [g, RR]
 refine jn_of (fun x τ => ∃ (out2 : List Int) (turned2 : Bool), x = (.rop (encBlk b) 0, .own φ st 0 b.ops.length, bv turned2, iv (i : Int), ()) ∧ τ = σ.set φ ⟨st, 1, ivs out2⟩ ∧ PSt b.ops out out2 turned2 (i + 1) (m + 2 * ((i + 1 : Nat) : Int))) ?_ ?_
 ·rintro _ _ ⟨out2, turned2, rfl, rfl, hP2⟩
  simp only [ibin_up hi (by omega), RR]
  exact hR' _ _ (k - 1) _ (by omega) (.refl _) ⟨i + 1, out2, turned2, by omega, rfl, rfl, hP2⟩
 intro k2 hk2
 obtain ⟨r1, r2⟩ := own_rd hF1 (i := i) (by omega)
 rw [hol] at r1
 simp only [idx_ro hi len_encOp, r1, r2, RR]
 by_cases h0 : atH out' i < 0
 ·simp only [h0, RR]
  refine hk2 _ _ ⟨out', turned, rfl, rfl, ⟨hP.inv.weak (by omega) fun _ _ _ _ => .inl trivial, hP.le, hP.lt, fun ht => ?_⟩⟩
  obtain ⟨e1, e2⟩ := hP.eq ht
  refine ⟨e1, fun j hj hj0 => ?_⟩
  rcases Nat.lt_or_ge j i with h1 | h1
  ·exact e2 j h1 hj0
  ·obtain rfl : j = i := by omega
   rw [← e1] at hj0; omega
 have h0' : 0 ≤ atH out' i := by omega
 have hv : atH out' i ≤ m + 2 * i := by
  rcases hP.inv.own i hi with c | ⟨_, c, _⟩
  ·omega
  ·exact c
 simp only [h0, r1, r2, RR]
 refine c_spec_l10High hso ?_
 cases hh : highB b.ops[i] (atH out' i)
 ·simp only [RR]
  exact ret_here (hbad out' (hP.inv.bad_high hi h0' (by rw [ho]; exact hh)))
 have hh' : highB (opA b.ops i) (atH out' i) = true := by rw [ho]; exact hh
 have hn0 : nextH (opA b.ops i) (atH out' i) = nextH b.ops[i] (atH out' i) := by rw [ho]
 simp only [RR]
 refine c_spec_l10Takes hso ?_
 have ht := takes_le hso
 have hp := puts_le b.ops[i]
 have x0 : aext (.tup [iv (takesN b.ops[i]), iv (putsN b.ops[i])]) 0 = some (iv (takesN b.ops[i])) := rfl
 have x1 : aext (.tup [iv (takesN b.ops[i]), iv (putsN b.ops[i])]) 1 = some (iv (putsN b.ops[i])) := rfl
 have e5 : ibin .sub (iv (atH out' i)) (iv (takesN b.ops[i])) = some (iv (atH out' i - takesN b.ops[i])) := ibin_sub (by omega) (by omega)
 have e6 : ibin .add (iv (atH out' i - takesN b.ops[i])) (iv (putsN b.ops[i])) = some (iv (nextH b.ops[i] (atH out' i))) := ibin_add (by omega) (by omega)
 have hnb : nextH b.ops[i] (atH out' i) ≤ m + 2 * ((i + 1 : Nat) : Int) := by unfold nextH; omega
 simp only [x0, x1, r1, r2, e5, e6, RR]
 have lead : ∀ (out2 : List Int) (turned2 : Bool) (t : Int) (k : AV → AH → Prop), t ∈ leads b.ops[i] i → PSt b.ops out out2 turned2 i (m + 2 * ((i + 1 : Nat) : Int)) → atH out2 i = atH out' i →
   (∀ (n : Nat) (out3 : List Int) (turned3 : Bool), t = (n : Int) → n < b.ops.length → atH out3 n = nextH b.ops[i] (atH out' i) → PSt b.ops out out3 turned3 i (m + 2 * ((i + 1 : Nat) : Int)) → atH out3 i = atH out' i →
    (∀ j, atH out2 j = nextH b.ops[i] (atH out' i) → atH out3 j = nextH b.ops[i] (atH out' i)) → k (bv turned3) (σ.set φ ⟨st, 1, ivs out3⟩)) →
   acall TP fn_spec_l10Lead [.own φ st 0 b.ops.length, iv t, iv (nextH b.ops[i] (atH out' i))] (σ.set φ ⟨st, 1, ivs out2⟩) (onr (fun v85 σ =>
    og (aext v85 0) fun v86 =>
    og (aext v85 1) fun v87 =>
    og (aun .not v87) fun v89 =>
    apick v89 (
     aret (.tup [bv false, bv false]) σ R) (
     og (gval (bv turned2) false false (some v86)) fun v92 =>
     og (pickV (bv turned2) (bv true) v92) fun v93 =>
     k v93 σ)) (fun v σ => apan v σ R)) := by
  intro out2 turned2 t k htm hP2 hsame hk
  have hol2 := hP2.inv.len
  have htm' : t ∈ leads (opA b.ops i) i := by rw [ho]; exact htm
  have h02 : 0 ≤ atH out2 i := by rw [hsame]; exact h0'
  have hh2 : highB (opA b.ops i) (atH out2 i) = true := by rw [hsame]; exact hh'
  have hn2 : nextH (opA b.ops i) (atH out2 i) = nextH b.ops[i] (atH out' i) := by rw [hsame, hn0]
  refine c_spec_l10Lead (AH.set_same ..) hol2 (by omega) (fun hb => ?_) (fun n e hn hneg => ?_) (fun n e hn hpos => ?_)
  ·simp only [aext0, aext1, RR]
   refine ret_here (hbad out2 (hP2.inv.bad_lead hi h02 hh2 htm' (.inl ?_)))
   have := lead_nn htm'
   omega
  ·simp only [aext0, aext1, RR, AH.set_set]
   have hne : n ≠ i := by rintro rfl; omega
   have hset := hP2.set hi h02 hh2 htm' e (by omega) hneg (Int.le_refl _) (by rw [hn2]; exact hnb)
   rw [hn2] at hset
   have hk' := hk n (out2.set n (nextH b.ops[i] (atH out' i))) true e (by omega) (by rw [atH_set hn, if_pos rfl]) hset (by rw [atH_set hn, if_neg hne]; exact hsame) (fun j hj => by
    rw [atH_set hn]
    split
    ·rfl
    ·exact hj)
   cases turned2 <;> simp only [RR] <;> exact hk'
  ·by_cases c : atH out2 n = nextH b.ops[i] (atH out' i)
   ·have hk' := hk n out2 turned2 e (by omega) c hP2 hsame (fun j hj => hj)
    simp only [aext0, aext1, c, RR]
    cases turned2 <;> simp only [RR] <;> exact hk'
   ·simp only [aext0, aext1, c, RR]
    exact ret_here (hbad out2 (hP2.inv.bad_lead hi h02 hh2 htm' (.inr ⟨by rw [e, Int.toNat_natCast]; exact hpos, by rw [e, Int.toNat_natCast, hn2]; exact c⟩)))
 refine jn_of (fun x τ => ∃ (out2 : List Int) (turned2 : Bool), x = (.rop (encBlk b) 0, .own φ st 0 b.ops.length, bv turned2, iv (i : Int), .rop (encOp b.ops[i]) 0, iv (nextH b.ops[i] (atH out' i)), ()) ∧ τ = σ.set φ ⟨st, 1, ivs out2⟩ ∧ PSt b.ops out out2 turned2 i (m + 2 * ((i + 1 : Nat) : Int)) ∧
   atH out2 i = atH out' i ∧ (goesB b.ops[i].kind = true → i + 1 < b.ops.length ∧ atH out2 (i + 1) = nextH b.ops[i] (atH out' i))) ?_ ?_
 rotate_left
 ·intro k3 hk3
  simp only [RR, RT]
  refine c_spec_l10Ends ?_
  have hP1 : PSt b.ops out out' turned i (m + 2 * ((i + 1 : Nat) : Int)) := ⟨hP.inv.weak (by omega) fun _ _ _ _ => .inl trivial, hP.le, hP.lt, hP.eq⟩
  cases c : goesB b.ops[i].kind
  ·simp only [RR]
   exact hk3 _ _ ⟨out', turned, rfl, rfl, hP1, rfl, fun h => by rw [c] at h; cases h⟩
  ·have e7 : ibin .add (iv (i : Int)) (.val (.int .i64 1)) = some (iv ((i : Int) + 1)) := ibin_add (by omega) (by omega)
   simp only [e7, RR]
   refine lead out' turned ((i : Int) + 1) _ (by unfold leads; rw [c]; simp) hP1 rfl fun n out3 turned3 e hn h1 h2 h3 _ => ?_
   obtain rfl : n = i + 1 := by omega
   exact hk3 _ _ ⟨out3, turned3, rfl, rfl, h2, h3, fun _ => ⟨hn, h1⟩⟩
 rintro _ _ ⟨out2, turned2, rfl, rfl, hP2, hsame, hgo⟩
 simp only [RR]
 refine c_spec_l9Target ?_
 simp only [RR]
 have fin : ∀ (out3 : List Int) (turned3 : Bool), PSt b.ops out out3 turned3 i (m + 2 * ((i + 1 : Nat) : Int)) → atH out3 i = atH out' i → (∀ t, t ∈ leads b.ops[i] i → t < b.ops.length ∧ atH out3 t.toNat = nextH b.ops[i] (atH out' i)) →
   PSt b.ops out out3 turned3 (i + 1) (m + 2 * ((i + 1 : Nat) : Int)) := by
  intro out3 turned3 hP3 hs3 hd
  refine ⟨hP3.inv, hP3.le, hP3.lt, fun ht => ?_⟩
  obtain ⟨e1, e2⟩ := hP3.eq ht
  refine ⟨e1, fun j hj hj0 => ?_⟩
  rcases Nat.lt_or_ge j i with h1 | h1
  ·exact e2 j h1 hj0
  ·obtain rfl : j = i := by omega
   rw [← e1]
   refine ⟨by rw [hs3]; exact hh', fun t ht => ?_⟩
   rw [ho] at ht
   rw [hs3, hn0]
   exact hd t ht
 by_cases c : 0 ≤ tgtN b.ops[i]
 ·simp only [c, RR]
  refine lead out2 turned2 _ _ (by unfold leads; rw [if_pos c]; simp) hP2 hsame fun n out3 turned3 e hn h1 h2 h3 h4 => ?_
  refine hk2 _ _ ⟨out3, turned3, rfl, rfl, fin out3 turned3 h2 h3 fun t ht => ?_⟩
  unfold leads at ht
  rcases List.mem_append.1 ht with h | h
  ·split at h
   ·rename_i hg
    rw [List.mem_singleton] at h
    obtain ⟨g1, g2⟩ := hgo hg
    subst h
    exact ⟨by omega, h4 _ g2⟩
   ·cases h
  ·rw [if_pos c, List.mem_singleton] at h
   rw [h, e]
   exact ⟨by omega, h1⟩
 ·simp only [c, RR]
  refine hk2 _ _ ⟨out2, turned2, rfl, rfl, fin out2 turned2 hP2 hsame fun t ht => ?_⟩
  unfold leads at ht
  rw [if_neg c, List.append_nil] at ht
  split at ht
  ·rename_i hg
   rw [List.mem_singleton] at ht
   obtain ⟨g1, g2⟩ := hgo hg
   subst ht
   exact ⟨by omega, g2⟩
  ·cases ht
end Go.Proofs.YtbapalgndjiamaaGreatDoor.E
/- The reference's heights, whole. -/
namespace Go.Proofs.YtbapalgndjiamaaGreatDoor.E
open Go Go.RowKit
variable [L : Lam]
variable {σ τ : AH} {R : AEnd → AH → Prop}
theorem blkF_sm {b : Blk} (h : blkF b = 0) : smB b.ops ∧ b.ops.length ≤ 200 := by
 unfold blkF at h
 split at h
 ·cases h
 split at h
 ·cases h
 refine ⟨fun o ho => ?_, by omega⟩
 obtain ⟨i, hi, rfl⟩ := List.getElem_of_mem ho
 have := firstF_zero _ _ h i (Nat.zero_le _) (by omega)
 rw [← op_at hi] at this
 exact opF_sm this
theorem opsF_blk {bs : List Blk} (h : opsF bs = 0) : ∀ b, b ∈ bs → blkF b = 0 := by
 unfold opsF at h
 split at h
 ·cases h
 intro b hb
 obtain ⟨i, hi, rfl⟩ := List.getElem_of_mem hb
 have := firstF_zero _ _ h i (Nat.zero_le _) (by omega)
 rwa [← blk_at hi] at this
theorem c_spec_l10Heights_own {b : Blk} (hs : sB b) (hbad0 : blkF b ≠ 0 → R (.ret (.tup [nilS, iv (blkF b)])) σ) (hbad : blkF b = 0 → HBad b.ops → R (.ret (.tup [nilS, iv 1])) σ)
  (hok : blkF b = 0 → ∀ out φ st, HOk b.ops out → σ φ = none → R (.ret (.tup [.own φ st 0 out.length, iv 0])) (σ.set φ ⟨st, 1, ivs out⟩)) : acall TP fn_spec_l10Heights [.rop (encBlk b) 0] σ R := by
 refine s_spec_l10Heights_ok ?_
 unfold s_spec_l10Heights
 refine c_spec_l9Block hs ?_
 by_cases c0 : blkF b = 0
 case neg =>
  simp only [c0, RR]
  exact ret_here (hbad0 c0)
 obtain ⟨hsm, hl⟩ := blkF_sm c0
 simp only [c0, RR, RT, len_ro]
 by_cases c1 : b.ops.length = 0
 ·have : ((b.ops.length : Int) = 0) := by omega
  simp only [this, RR]
  exact ret_here (hbad c0 (.inl c1))
 have c1' : ¬ ((b.ops.length : Int) = 0) := by omega
 simp only [c1', RR]
 refine lp_same b.ops.length (fun j => (AV.rop (encBlk b) 0, iv (j : Int), ())) (fun j => ∀ (i : Nat) (hi : i < b.ops.length), i < j → tgtN b.ops[i] < b.ops.length) rfl (fun i hi h => by omega) ?_
 intro j hj hH R' hR'
 simp only [RR, RT, len_ro]
 by_cases hlt : j < b.ops.length
 ·have g : (j : Int) < (b.ops.length : Int) := by omega
  simp only [g, idx_ro hlt len_encOp, RR, RT, len_ro]
  refine c_spec_l9Target ?_
  simp only [RR, RT, eq_self, true_and, and_true]
  by_cases c2 : (b.ops.length : Int) ≤ tgtN b.ops[j]
  ·simp only [c2, RR]
   exact ret_here (hbad c0 (.inr (.inl ⟨_, List.getElem_mem hlt, c2⟩)))
  ·simp only [c2, ibin_up hlt (by omega), RR]
   refine hR' hlt (fun i hi h => ?_) _ (.refl _)
   rcases Nat.lt_or_ge i j with h1 | h1
   ·exact hH i hi h1
   ·obtain rfl : i = j := by omega
    omega
 have g : ¬ (j : Int) < (b.ops.length : Int) := by omega
 have htg : ∀ o, o ∈ b.ops → tgtN o < b.ops.length := by
  intro o ho
  obtain ⟨i, hi, rfl⟩ := List.getElem_of_mem ho
  exact hH i hi (by omega)
 simp only [g, RR]
 clear hR' R' hH
 refine bsl_one fun φ hφ => ?_
 refine lp_rel (b.ops.length - 1) (fun i x τ => ∃ a, x = (.rop (encBlk b) 0, a, iv ((i + 1 : Nat) : Int), ()) ∧ Gr σ τ a (0 :: List.replicate i (-1))) ⟨_, rfl, .inr ⟨φ, 0, hφ, rfl, rfl⟩⟩ ?_
 rintro i _ τ hi ⟨a, rfl, hG⟩ R' hR'
 simp only [RR, RT, len_ro]
 by_cases hlt2 : i < b.ops.length - 1
 ·have g : ((i + 1 : Nat) : Int) < (b.ops.length : Int) := by omega
  simp only [g, RR]
  refine hG.push (by simp; omega) fun a' τ' τ'' hG' hsub => ?_
  simp only [ibin_up (i := i + 1) (n := b.ops.length) (by omega) (by omega), RR]
  exact hR' _ _ τ' hlt2 hsub ⟨a', rfl, by rw [List.replicate_succ', ← List.cons_append]; exact hG'⟩
 have g : ¬ ((i + 1 : Nat) : Int) < (b.ops.length : Int) := by omega
 obtain rfl : i = b.ops.length - 1 := by omega
 simp only [g, RR]
 clear hR' R'
 rcases hG with ⟨_, he, _⟩ | ⟨φ, st, hφ, rfl, rfl⟩
 ·cases he
 have hn : (0 :: List.replicate (b.ops.length - 1) (-1 : Int)).length = b.ops.length := by simp; omega
 rw [hn]
 refine lp_by (fun k x τ => ∃ out, k ≤ b.ops.length ∧ negs out = k ∧ x = (.rop (encBlk b) 0, .own φ st 0 b.ops.length, ()) ∧ τ = σ.set φ ⟨st, 1, ivs out⟩ ∧ HInv b.ops out (fun _ => True) (400 * (b.ops.length - k))) (b.ops.length - 1)
  ⟨0 :: List.replicate (b.ops.length - 1) (-1), by omega, negs_init _, rfl, rfl, (HInv.init (P := fun _ => True) (by omega) trivial).weak (by omega) fun _ _ _ _ => .inl trivial⟩ ?_
 rintro k x τ ⟨out, hk, hng, rfl, rfl, hI⟩ R' hR'
 refine c_spec_l10Pass hsm hl (AH.set_same ..) hI (by omega) (by omega) (fun out' hb => ?_) (fun out' turned hP => ?_)
 ·simp only [aext0, aext1, RR, AH.set_set]
  exact aret_sub (.set (.refl σ) _ hφ) (hbad c0 hb)
 ·cases turned
  ·simp only [aext0, aext1, RR, AH.set_set]
   obtain ⟨rfl, hd⟩ := hP.eq rfl
   have hok' := hok c0 out' φ st (HInv.fin (m := 400 * (b.ops.length - k)) (by omega) (hI.weak (Int.le_refl _) fun j hj h0 _ => .inr (hd j hj h0)) htg) hφ
   rw [hI.len] at hok'
   exact ret_here hok'
  ·have hlt := hP.lt rfl
   simp only [aext0, aext1, RR, AH.set_set]
   exact hR' _ _ (negs out') _ (by omega) (.refl _) ⟨out', by omega, rfl, rfl, rfl, hP.inv.weak (by omega) fun _ _ _ _ => .inl trivial⟩
noncomputable def htsW (b : Blk) : AV := if blkF b = 0 then (match hts b.ops with
 | some out => .tup [.ro (ivs out), iv 0]
 | none => .tup [nilS, iv 1]) else .tup [nilS, iv (blkF b)]
theorem fz_own' {φ st : Nat} {out : List Int} (hφ : σ φ = none) : Fz σ (σ.set φ ⟨st, 1, ivs out⟩) (.own φ st 0 out.length) (.ro (ivs out)) :=
 fz_ints hφ rfl fun i hi => by rw [List.getElem?_map, List.getElem?_eq_getElem hi]; rfl
theorem c_spec_l10Heights {b : Blk} (hs : sB b) (h : R (.ret (htsW b)) σ) : acall TP fn_spec_l10Heights [.rop (encBlk b) 0] σ R := by
 refine acall_imp (c_spec_l10Heights_own (σ := σ) (R := fun e σ' => (e = .ret (htsW b) ∧ σ' = σ) ∨ ∃ out φ st, htsW b = .tup [.ro (ivs out), iv 0] ∧ σ φ = none ∧ e = .ret (.tup [.own φ st 0 out.length, iv 0]) ∧ σ' = σ.set φ ⟨st, 1, ivs out⟩) hs (fun h0 => .inl ⟨?_, rfl⟩) (fun h0 h1 => .inl ⟨?_, rfl⟩) (fun h0 out φ st h1 hφ => .inr ⟨out, φ, st, ?_, hφ, rfl, rfl⟩)) ?_
 ·unfold htsW; rw [if_neg h0]
 ·unfold htsW; rw [if_pos h0, hts_bad h1]
 ·unfold htsW; rw [if_pos h0, hts_ok h1]
 rintro e σ' (⟨rfl, rfl⟩ | ⟨out, φ, st, h0, hφ, rfl, rfl⟩)
 ·exact ⟨_, rfl, _, σ', imp_freeze (.refl σ') (.same _), h⟩
 ·rw [h0] at h
  exact ⟨_, rfl, _, σ, imp_freeze (.set (.refl σ) _ hφ) (Fz.tup2 (fz_own' hφ) (.same _)), h⟩
end Go.Proofs.YtbapalgndjiamaaGreatDoor.E
/- Marks: what a law writes into arguments that were lent. -/
namespace Go.Proofs.YtbapalgndjiamaaGreatDoor.E
open Go Go.RowKit
variable [L : Lam]
variable {σ τ : AH} {R : AEnd → AH → Prop}
theorem aconv_bytes {T : Tab} {s d : TypeId} {x : AV} {es : List (List AV)} {bs : List UInt8} {k : AV → AH → Prop} (hb : bytesT T s d = true) (hx : aelems σ x = some es) (ha : abytes es = some bs) (hn : ∀ u, x ≠ .val (.string u)) (hi : ∀ kd n, x ≠ .val (.int kd n))
  (h : k (.val (.string ⟨bs.toArray⟩)) σ) : aconv T s d x σ k := by
 unfold bytesT at hb
 split at hb
 case h_2 => cases hb
 rename_i ts td h1 h2
 split at hb
 case h_2 => cases hb
 rename_i e h3 h4
 split at hb
 case h_2 => cases hb
 rename_i te h5
 split at hb
 case h_2 => cases hb
 rename_i h6
 unfold aconv
 simp only [h1, h2, h3, h4, h5, h6, hx, ha]
 exact ⟨Nat.eq_of_beq_eq_true hb, hn, h⟩
theorem sbin_add (a b : ByteArray) (h : a.size + b.size ≤ 4611686018427387904) : sbin .add (.val (.string a)) (.val (.string b)) = some (.val (.string (a ++ b))) := by
 show Option.map AV.val (if a.size + b.size ≤ 4611686018427387904 then some (.string (a ++ b)) else none) = _
 rw [if_pos h]
 rfl
theorem size_one (x : UInt8) : (⟨[x].toArray⟩ : ByteArray).size = 1 := rfl
theorem bytes_Lb : bytesT TT ty_Lb ty_s = true := by kernel_rfl
end Go.Proofs.YtbapalgndjiamaaGreatDoor.E
/- Copies of arguments that are owned. -/
namespace Go.Proofs.YtbapalgndjiamaaGreatDoor.E
open Go Go.RowKit
variable [L : Lam]
variable {σ τ : AH} {R : AEnd → AH → Prop}
set_option maxRecDepth 100000 in
def encOpA (o : OpD) (a : AV) : List AV := [iv o.kind, iv o.a, iv o.b, iv o.c, iv o.d, str o.name, a]
end Go.Proofs.YtbapalgndjiamaaGreatDoor.E
/- Code that is owned: lists of blocks, of operations, of data, each in a family of its own. -/
namespace Go.Proofs.YtbapalgndjiamaaGreatDoor.E
open Go Go.RowKit
set_option maxRecDepth 100000
def famL : AV → List Nat
 | .own φ _ _ _ => [φ]
 | _ => []
theorem famL_mem {a : AV} {ψ : Nat} : ψ ∈ famL a ↔ Buf.fam a ψ := by
 constructor
 ·intro h
  cases a with
  | own φ st off n =>
   obtain rfl : ψ = φ := by simpa [famL] using h
   exact ⟨st, off, n, rfl⟩
  | _ => simp [famL] at h
 ·rintro ⟨st, off, n, rfl⟩
  simp [famL]
section
variable [L : Lam]
variable {σ τ τ' : AH} {R : AEnd → AH → Prop}
theorem buf_keep {sz : Nat} {a : AV} {es : List (List AV)} (h : Buf τ sz a es) (k : ∀ ψ, ψ ∈ famL a → τ' ψ = τ ψ) : Buf τ' sz a es := h.keep fun ψ hf => k ψ (famL_mem.2 hf)
theorem buf_live {sz : Nat} {a : AV} {es : List (List AV)} (h : Buf τ sz a es) {ψ : Nat} (hm : ψ ∈ famL a) : ∃ F, τ ψ = some F := h.fam_some (famL_mem.1 hm)
theorem buf_own {sz : Nat} {a : AV} {es : List (List AV)} (h : Buf τ sz a es) (hn : es ≠ []) : ∃ φ st, a = .own φ st 0 es.length ∧ τ φ = some ⟨st, sz, es⟩ := by
 rcases h with ⟨_, e⟩ | h
 ·exact absurd e hn
 ·exact h
theorem fz_row {sz : Nat} {a : AV} {es fs : List (List AV)} (h : Buf τ sz a es) (h0 : ∀ ψ, ψ ∈ famL a → σ ψ = none) (hl : fs.length = es.length) (hz : ∀ c, c ∈ fs → c.length = sz)
  (hc : ∀ i j, i < es.length → j < sz → Fz σ τ ((es.getD i []).getD j .any) ((fs.getD i []).getD j .any)) : Fz σ τ a (.ro fs) := by
 rcases h with ⟨e1, e⟩ | ⟨φ, st, rfl, hF⟩
 ·subst e
  have : fs = [] := List.length_eq_zero_iff.1 hl
  subst this
  rcases e1 with rfl | rfl
  ·exact .nil
  ·exact .emp
 ·refine .own hF (h0 φ (by simp [famL])) rfl (by simp) hl (fun i hi => ?_) (fun i j hi hj => ?_)
  ·have hi' : i < fs.length := by omega
   have e : fs.getD i [] = fs[i] := by simp [List.getD, hi']
   rw [e]; exact hz _ (List.getElem_mem hi')
  ·rw [Nat.zero_add]; exact hc i j hi hj
theorem fz_data {a : AV} {ds : List Dat} (h : Buf τ 4 a (ds.map encDat)) (h0 : ∀ ψ, ψ ∈ famL a → σ ψ = none) : Fz σ τ a (roD ds) :=
 fz_row h h0 rfl (by intro c hc; obtain ⟨x, _, rfl⟩ := List.mem_map.1 hc; rfl) fun _ _ _ _ => .same _
theorem nodup_app {a b : List Nat} : (a ++ b).Nodup ↔ a.Nodup ∧ b.Nodup ∧ ∀ x, x ∈ a → x ∉ b := by
 rw [List.nodup_append]
 constructor
 ·rintro ⟨h1, h2, h3⟩
  exact ⟨h1, h2, fun x hx hb => h3 x hx x hb rfl⟩
 ·rintro ⟨h1, h2, h3⟩
  exact ⟨h1, h2, fun x hx y hy e => h3 x hx (e ▸ hy)⟩
theorem famL_nodup (a : AV) : (famL a).Nodup := by cases a <;> simp [famL]
end
end Go.Proofs.YtbapalgndjiamaaGreatDoor.E
/- Marks, each known: what a law writes into code that is owned. -/
namespace Go.Proofs.YtbapalgndjiamaaGreatDoor.E
open Go Go.RowKit
set_option maxRecDepth 100000
section
variable [L : Lam]
variable {σ τ τ' : AH} {R : AEnd → AH → Prop}
theorem sto_at {φ st sz off i : Nat} {pre post : List (List AV)} {r : List AV} {v : AV} {k : AH → Prop} (hp : pre.length = i) (ho : off < sz) (h1 : v.one = true) (h : k (τ.set φ ⟨st, sz, pre ++ r.set off v :: post⟩)) :
  sto 1 (.ptr φ st i off) v (τ.set φ ⟨st, sz, pre ++ r :: post⟩) k := by
 refine sto_fld (cs := r) (AH.set_same ..) (by simp [← hp]) ho (acells_one h1) h1 ?_
 have e : (pre ++ r :: post).set i (r.set off v) = pre ++ r.set off v :: post := by subst hp; simp
 rw [AH.set_set, e]
 exact h
theorem buf_len {sz : Nat} {a : AV} {es : List (List AV)} (h : Buf τ sz a es) : lenS a = some (iv (es.length : Int)) := by
 rcases h with ⟨rfl | rfl, rfl⟩ | ⟨φ, st, rfl, _⟩ <;> rfl
end
end Go.Proofs.YtbapalgndjiamaaGreatDoor.E
/- Code that is owned: growing; copies that the program makes. -/
namespace Go.Proofs.YtbapalgndjiamaaGreatDoor.E
open Go Go.RowKit
set_option maxRecDepth 100000
variable [L : Lam]
variable {σ τ τ' : AH} {R : AEnd → AH → Prop}
def Kp (F : List Nat) (τ τ' : AH) : Prop := ∀ ψ, ψ ∉ F → τ ψ ≠ none → τ' ψ = τ ψ
theorem Kp.refl (F : List Nat) (τ : AH) : Kp F τ τ := fun _ _ _ => rfl
theorem Kp.of_sub {F : List Nat} (h : AH.Sub τ τ') : Kp F τ τ' := fun ψ _ hn => by
 cases e : τ ψ with
 | none => exact absurd e hn
 | some G => exact h _ _ e
theorem Kp.sub {F : List Nat} (h : Kp F τ τ') (hs : AH.Sub σ τ) (hf : ∀ ψ, ψ ∈ F → σ ψ = none) : AH.Sub σ τ' := fun ψ G hG => by
 have h1 := hs _ _ hG
 rw [h ψ (fun c => by rw [hf ψ c] at hG; cases hG) (by rw [h1]; simp), h1]
theorem live_ne {ψ : Nat} (h : ∃ F, τ ψ = some F) : τ ψ ≠ none := by obtain ⟨F, e⟩ := h; rw [e]; simp
theorem Kp.buf {F : List Nat} {sz : Nat} {a : AV} {es : List (List AV)} (k : Kp F τ τ') (h : Buf τ sz a es) (hd : ∀ ψ, ψ ∈ famL a → ψ ∉ F) : Buf τ' sz a es := buf_keep h fun ψ hψ => k ψ (hd ψ hψ) (live_ne (buf_live h hψ))
theorem buf_app {sz : Nat} {a x : AV} {es xs : List (List AV)} {k : AV → AH → Prop} (h : Buf τ sz a es) (hx : aelems τ x = some xs) (hs : ∀ c, c ∈ xs → c.length = sz) (ho : ∀ c, c ∈ xs → ∀ y, y ∈ c → y.one = true) (hn : es.length + xs.length ≤ 4294967296)
  (hk : ∀ a' τ', Buf τ' sz a' (es ++ xs) → Kp (famL a) τ τ' → (∀ ψ, ψ ∈ famL a' → ψ ∈ famL a ∨ τ ψ = none) → k a' τ') : app sz a x τ k :=
 h.app hx hs ho hn fun a' τ' h1 h2 h3 _ => hk a' τ' h1 (fun ψ hψ hn => h2 ψ (fun c => hψ (famL_mem.2 c)) hn) fun ψ hψ => (h3 ψ (famL_mem.1 hψ)).imp famL_mem.2 id
theorem bsl1 {sz : Nat} {z row : List AV} {x : AV} {k : AV → AH → Prop} (he : afillS sz [z] [(0, x)] = some [row]) (hs : sz ≤ 16777216) (h : ∀ ψ, τ ψ = none → k (.own ψ 0 0 1) (τ.set ψ ⟨0, sz, [row]⟩)) : bsl sz z 1 [(0, x)] τ k := by
 unfold bsl
 have e : List.replicate 1 z = [z] := rfl
 rw [e, he]
 exact ⟨by omega, by rw [if_neg (by decide)]; exact h⟩
theorem bsl0 {sz : Nat} {z : List AV} {k : AV → AH → Prop} (h : k .emp τ) : bsl sz z 0 [] τ k := ⟨by omega, by rw [if_pos rfl]; exact h⟩
theorem ael1 {ψ sz : Nat} {row : List AV} : aelems (τ.set ψ ⟨0, sz, [row]⟩) (.own ψ 0 0 1) = some [row] := by simp [aelems]
end Go.Proofs.YtbapalgndjiamaaGreatDoor.E
/- Code that is owned: the program's copy. -/
namespace Go.Proofs.YtbapalgndjiamaaGreatDoor.E
open Go Go.RowKit
set_option maxRecDepth 100000
variable [L : Lam]
variable {σ τ τ' : AH} {R : AEnd → AH → Prop}
theorem Buf.av1 {sz : Nat} {a : AV} {es : List (List AV)} (h : Buf τ sz a es) : a.one = true := by
 rcases h with ⟨rfl | rfl, _⟩ | ⟨φ, st, rfl, _⟩ <;> rfl
end Go.Proofs.YtbapalgndjiamaaGreatDoor.E
/- Lists of lists that are owned: grown, written, frozen. -/
namespace Go.Proofs.YtbapalgndjiamaaGreatDoor.E
open Go Go.RowKit
set_option maxRecDepth 100000
variable [L : Lam]
variable {σ τ τ' : AH} {R : AEnd → AH → Prop}
theorem acall_frz {P : Program} {f : FuncId} {args args' : List AV} {σ0 σ : AH} {R : AEnd → AH → Prop} (hs : AH.Sub σ0 σ) (hl : args.length = args'.length) (hf : ∀ i, i < args.length → Fz σ0 σ (args.getD i .any) (args'.getD i .any)) (h : acall P f args' σ0 R) : acall P f args σ R := by
 obtain ⟨fn, h1, h2, h3, h4⟩ := h
 refine ⟨fn, h1, h2, h3, fun κ w vs hr hv => ?_⟩
 obtain ⟨hS, hV⟩ := imp_freeze' hs hr
 refine (h4 _ w vs hS.rel ⟨hl ▸ hv.1, fun i hi => hV _ _ _ (hf i (hl ▸ hi)) (hv.2 i (hl ▸ hi))⟩).mono ?_
 rintro e w' ⟨κ1, ae, σ1, hq, hT, hE⟩
 exact ⟨κ1, ae, σ1, hq, hS.trans hT, hE⟩
section
variable {X : Type}
def l2F (bs : List (X × AV)) : List Nat := bs.flatMap fun p => famL p.2
theorem l2F_app (a b : List (X × AV)) : l2F (a ++ b) = l2F a ++ l2F b := by simp [l2F]
theorem l2F_cons (p : X × AV) (b : List (X × AV)) : l2F (p :: b) = famL p.2 ++ l2F b := by simp [l2F]
theorem l2F_mem {bs : List (X × AV)} {p : X × AV} (h : p ∈ bs) {ψ : Nat} (hψ : ψ ∈ famL p.2) : ψ ∈ l2F bs := List.mem_flatMap.2 ⟨p, h, hψ⟩
structure N2 (row : X → AV → List AV) (n : Nat) (inn : X → List (List AV)) (m : Nat) (σ τ : AH) (v : AV) (bs : List (X × AV)) : Prop where
 out : Buf τ n v (bs.map fun p => row p.1 p.2)
 ins : ∀ p, p ∈ bs → Buf τ m p.2 (inn p.1)
 nd : (famL v ++ l2F bs).Nodup
 fr : ∀ ψ, ψ ∈ famL v ++ l2F bs → σ ψ = none
 sub : AH.Sub σ τ
variable {row : X → AV → List AV} {n : Nat} {inn : X → List (List AV)} {m : Nat} {v : AV} {bs : List (X × AV)}
theorem N2.live (h : N2 row n inn m σ τ v bs) {ψ : Nat} (hψ : ψ ∈ famL v ++ l2F bs) : ∃ F, τ ψ = some F := by
 rcases List.mem_append.1 hψ with c | c
 ·exact buf_live h.out c
 ·obtain ⟨p, hp, hm⟩ := List.mem_flatMap.1 c
  exact buf_live (h.ins p hp) hm
theorem N2.keep (h : N2 row n inn m σ τ v bs) (hk : ∀ ψ, ψ ∈ famL v ++ l2F bs → τ' ψ = τ ψ) (hs : AH.Sub σ τ') : N2 row n inn m σ τ' v bs :=
 ⟨buf_keep h.out fun ψ hψ => hk ψ (List.mem_append_left _ hψ), fun p hp => buf_keep (h.ins p hp) fun ψ hψ => hk ψ (List.mem_append_right _ (l2F_mem hp hψ)), h.nd, h.fr, hs⟩
theorem N2.grow (h : N2 row n inn m σ τ v bs) (hs : AH.Sub τ τ') : N2 row n inn m σ τ' v bs :=
 h.keep (fun ψ hψ => by obtain ⟨F, e⟩ := h.live hψ; rw [e]; exact hs _ _ e) (h.sub.trans hs)
theorem N2.own (h : N2 row n inn m σ τ v bs) (hn : bs ≠ []) : ∃ φ st, v = .own φ st 0 bs.length ∧ τ φ = some ⟨st, n, bs.map fun p => row p.1 p.2⟩ := by
 obtain ⟨φ, st, hv, hF⟩ := buf_own h.out (by intro c; exact hn (List.map_eq_nil_iff.1 c))
 exact ⟨φ, st, by rw [hv, List.length_map], hF⟩
theorem N2.one (h : N2 row n inn m σ τ v bs) : v.one = true := h.out.av1
theorem N2.len (h : N2 row n inn m σ τ v bs) : lenS v = some (iv (bs.length : Int)) := by have := buf_len h.out; rwa [List.length_map] at this
theorem N2.app1 {p : X × AV} {x : AV} {k : AV → AH → Prop} (h : N2 row n inn m σ τ v bs) (hx : aelems τ x = some [row p.1 p.2]) (hrl : (row p.1 p.2).length = n) (hq : Buf τ m p.2 (inn p.1))
  (hd : ∀ ψ, ψ ∈ famL p.2 → ψ ∉ famL v ++ l2F bs) (hf : ∀ ψ, ψ ∈ famL p.2 → σ ψ = none) (ho : ∀ y, y ∈ row p.1 p.2 → y.one = true) (hn : bs.length + 1 ≤ 4294967296)
  (hk : ∀ v' τ', N2 row n inn m σ τ' v' (bs ++ [p]) → Kp (famL v) τ τ' → (∀ ψ, ψ ∈ famL v' → ψ ∈ famL v ∨ τ ψ = none) → k v' τ') : E.app n v x τ k := by
 refine buf_app h.out hx (by intro c hc; obtain rfl := List.mem_singleton.1 hc; exact hrl) (by intro c hc y hy; obtain rfl := List.mem_singleton.1 hc; exact ho y hy) (by simpa using hn) fun v' τ' hB hK hfam => hk v' τ' ?_ hK hfam
 obtain ⟨n1, n2, n3⟩ := nodup_app.1 h.nd
 have e1 : l2F (bs ++ [p]) = l2F bs ++ famL p.2 := by rw [l2F_app]; simp [l2F]
 have hdd : ∀ ψ, ψ ∈ l2F (bs ++ [p]) → ψ ∉ famL v := by
  intro ψ hψ c
  rw [e1] at hψ
  rcases List.mem_append.1 hψ with hψ | hψ
  ·exact n3 ψ c hψ
  ·exact hd ψ hψ (List.mem_append_left _ c)
 have hI : ∀ q, q ∈ bs ++ [p] → Buf τ m q.2 (inn q.1) := by
  intro q hq2
  rcases List.mem_append.1 hq2 with hq2 | hq2
  ·exact h.ins q hq2
  ·obtain rfl := List.mem_singleton.1 hq2
   exact hq
 have live : ∀ χ, χ ∈ l2F (bs ++ [p]) → τ χ ≠ none := fun χ hχ => by
  obtain ⟨q, hq2, hm⟩ := List.mem_flatMap.1 hχ
  exact live_ne (buf_live (hI q hq2) hm)
 refine ⟨by rw [List.map_append]; exact hB, fun q hq2 => hK.buf (hI q hq2) fun χ hχ => hdd χ (l2F_mem hq2 hχ), ?_, ?_, hK.sub h.sub fun ψ hψ => h.fr ψ (List.mem_append_left _ hψ)⟩
 ·rw [nodup_app]
  refine ⟨famL_nodup _, ?_, fun χ hχ c => ?_⟩
  ·rw [e1, nodup_app]
   exact ⟨n2, famL_nodup _, fun x hx c => hd x c (List.mem_append_right _ hx)⟩
  rcases hfam χ hχ with h1 | h1
  ·exact hdd χ c h1
  ·exact live χ c h1
 ·intro χ hχ
  rcases List.mem_append.1 hχ with hχ | hχ
  ·rcases hfam χ hχ with h1 | h1
   ·exact h.fr χ (List.mem_append_left _ h1)
   ·exact h.sub.none h1
  ·rw [e1] at hχ
   rcases List.mem_append.1 hχ with hχ | hχ
   ·exact h.fr χ (List.mem_append_right _ hχ)
   ·exact hf χ hχ
theorem N2.repl {A C : List (X × AV)} {p : X × AV} {x' : X} {w : AV} {j : Nat} {τ0 : AH} {φ st : Nat} {k : AH → Prop} (h : N2 row n inn m σ τ0 v (A ++ p :: C)) (hv : v = .own φ st 0 (A ++ p :: C).length) (hw : Buf τ m w (inn x')) (hj : j < n) (hr : (row p.1 p.2).set j w = row x' w)
  (hkp : Kp (famL p.2) τ0 τ) (hfm : ∀ ψ, ψ ∈ famL w → ψ ∈ famL p.2 ∨ τ0 ψ = none)
  (hk : ∀ τ', N2 row n inn m σ τ' v (A ++ (x', w) :: C) → (∀ ψ, ψ ∉ famL v → τ' ψ = τ ψ) → k τ') : sto 1 (.ptr φ st A.length j) w τ k := by
 obtain ⟨φ', st', hv', hF⟩ := h.own (by simp)
 rw [hv'] at hv
 obtain ⟨rfl, rfl⟩ : φ' = φ ∧ st' = st := by injection hv with a b; exact ⟨a, b⟩
 subst hv'
 have hfv : famL (.own φ' st' 0 (A ++ p :: C).length) = [φ'] := rfl
 have hnd := h.nd
 rw [l2F_app, l2F_cons, hfv] at hnd
 have hlive : ∀ ψ, ψ ∈ famL (.own φ' st' 0 (A ++ p :: C).length) ++ l2F (A ++ p :: C) → τ0 ψ ≠ none := fun ψ hψ => live_ne (h.live hψ)
 have mem : ∀ ψ, ψ ∈ famL (.own φ' st' 0 (A ++ p :: C).length) ++ l2F (A ++ p :: C) ↔ ψ = φ' ∨ ψ ∈ l2F A ∨ ψ ∈ famL p.2 ∨ ψ ∈ l2F C := by
  intro ψ; rw [l2F_app, l2F_cons, hfv]; simp
 obtain ⟨_, hnd2, hnd3⟩ := nodup_app.1 hnd
 obtain ⟨hnA, hnd4, hnd5⟩ := nodup_app.1 hnd2
 obtain ⟨_, hnC, hnd6⟩ := nodup_app.1 hnd4
 have hφA : φ' ∉ l2F A := fun c => hnd3 φ' (by simp) (by simp [c])
 have hφp : φ' ∉ famL p.2 := fun c => hnd3 φ' (by simp) (by simp [c])
 have hφC : φ' ∉ l2F C := fun c => hnd3 φ' (by simp) (by simp [c])
 have hφw : φ' ∉ famL w := fun c => (hfm φ' c).elim hφp fun d => hlive φ' ((mem φ').2 (.inl rfl)) d
 have hwA : ∀ ψ, ψ ∈ famL w → ψ ∉ l2F A := fun ψ c d => (hfm ψ c).elim (fun e => hnd5 ψ d (by simp [e])) fun e => hlive ψ ((mem ψ).2 (by simp [d])) e
 have hwC : ∀ ψ, ψ ∈ famL w → ψ ∉ l2F C := fun ψ c d => (hfm ψ c).elim (fun e => hnd6 ψ e d) fun e => hlive ψ ((mem ψ).2 (by simp [d])) e
 have hFτ : τ φ' = some ⟨st', n, (A ++ p :: C).map fun p => row p.1 p.2⟩ := by rw [hkp φ' hφp (hlive φ' ((mem φ').2 (.inl rfl)))]; exact hF
 have hset : τ = τ.set φ' ⟨st', n, (A.map fun p => row p.1 p.2) ++ row p.1 p.2 :: C.map fun p => row p.1 p.2⟩ := by rw [AH.set_self]; rw [hFτ]; simp
 rw [hset]
 refine sto_at (by simp) hj hw.av1 ?_
 rw [hr]
 have h2 : ∀ ψ, ψ ≠ φ' → (τ.set φ' ⟨st', n, (A.map fun p => row p.1 p.2) ++ row x' w :: C.map fun p => row p.1 p.2⟩) ψ = τ ψ := fun ψ hψ => AH.set_ne' hψ
 have hq : ∀ q, q ∈ A ∨ q ∈ C → Buf (τ.set φ' ⟨st', n, (A.map fun p => row p.1 p.2) ++ row x' w :: C.map fun p => row p.1 p.2⟩) m q.2 (inn q.1) := by
  intro q hq
  refine buf_keep (h.ins q (by rcases hq with c | c <;> simp [c])) fun ψ hψ => ?_
  have hm : ψ ∈ l2F A ∨ ψ ∈ l2F C := hq.imp (fun c => l2F_mem c hψ) fun c => l2F_mem c hψ
  have hne : ψ ≠ φ' := by rintro rfl; exact hm.elim hφA hφC
  have hnp : ψ ∉ famL p.2 := fun c => hm.elim (fun d => hnd5 ψ d (by simp [c])) fun d => hnd6 ψ c d
  rw [h2 ψ hne]
  exact hkp ψ hnp (hlive ψ ((mem ψ).2 (by rcases hm with c | c <;> simp [c])))
 refine hk _ ⟨.inr ⟨φ', st', by simp, by rw [AH.set_same]; simp⟩, ?_, ?_, ?_, ?_⟩ fun ψ hψ => by rw [h2 ψ (by rintro rfl; exact hψ (by simp [famL]))]
 ·intro q hm
  rcases List.mem_append.1 hm with c | c
  ·exact hq q (.inl c)
  ·rcases List.mem_cons.1 c with rfl | c
   ·exact buf_keep hw fun ψ hψ => h2 ψ (by rintro rfl; exact hφw hψ)
   ·exact hq q (.inr c)
 ·have e : (A ++ p :: C).length = (A ++ (x', w) :: C).length := by simp
  rw [l2F_app, l2F_cons, hfv, nodup_app]
  refine ⟨by simp, nodup_app.2 ⟨hnA, nodup_app.2 ⟨famL_nodup _, hnC, fun ψ hψ c => hwC ψ hψ c⟩, fun ψ hψ c => ?_⟩, fun ψ hψ c => ?_⟩
  ·rcases List.mem_append.1 c with c | c
   ·exact hwA ψ c hψ
   ·exact hnd5 ψ hψ (by simp [c])
  ·obtain rfl := List.mem_singleton.1 hψ
   simp only [List.mem_append] at c
   rcases c with c | c | c
   ·exact hφA c
   ·exact hφw c
   ·exact hφC c
 ·intro ψ hψ
  rw [l2F_app, l2F_cons, hfv] at hψ
  simp only [List.mem_append, List.mem_singleton] at hψ
  rcases hψ with c | c | c | c
  ·exact h.fr ψ ((mem ψ).2 (.inl c))
  ·exact h.fr ψ ((mem ψ).2 (by simp [c]))
  ·rcases hfm ψ c with d | d
   ·exact h.fr ψ ((mem ψ).2 (by simp [d]))
   ·exact h.sub.none d
  ·exact h.fr ψ ((mem ψ).2 (by simp [c]))
 ·intro ψ G hG
  have hn : ∀ χ, χ ∈ famL (.own φ' st' 0 (A ++ p :: C).length) ++ l2F (A ++ p :: C) → ψ ≠ χ := by rintro χ hχ rfl; rw [h.fr ψ hχ] at hG; cases hG
  rw [h2 ψ (hn φ' ((mem φ').2 (.inl rfl)))]
  have h1 := h.sub _ _ hG
  rw [hkp ψ (fun c => hn ψ ((mem ψ).2 (by simp [c])) rfl) (by rw [h1]; simp), h1]
theorem N2.wr {A C : List (X × AV)} {p : X × AV} {x' : X} {u : AV} {j : Nat} {es1 es2 : List (List AV)} {r : List AV} {φ st : Nat} {k : AH → Prop} (h : N2 row n inn m σ τ v (A ++ p :: C)) (hi : inn p.1 = es1 ++ r :: es2) (hi' : inn x' = es1 ++ r.set j u :: es2)
  (hr : row x' p.2 = row p.1 p.2) (hj : j < m) (h1 : u.one = true) (hp : p.2 = .own φ st 0 (inn p.1).length)
  (hk : ∀ τ', N2 row n inn m σ τ' v (A ++ (x', p.2) :: C) → (∀ ψ, ψ ≠ φ → τ' ψ = τ ψ) → k τ') : sto 1 (.ptr φ st es1.length j) u τ k := by
 have hb := h.ins p (by simp)
 rw [hp] at hb
 obtain ⟨φ', st', hv', hF⟩ := buf_own hb (by rw [hi]; simp)
 obtain ⟨rfl, rfl⟩ : φ' = φ ∧ st' = st := by injection hv' with a b; exact ⟨a.symm, b.symm⟩
 have hset : τ = τ.set φ' ⟨st', m, es1 ++ r :: es2⟩ := by rw [AH.set_self]; rw [hF, hi]
 have hfp : famL p.2 = [φ'] := by rw [hp]; rfl
 have hnd := h.nd
 rw [l2F_app, l2F_cons, hfp] at hnd
 obtain ⟨_, hnd2, hnd3⟩ := nodup_app.1 hnd
 obtain ⟨_, hnd4, hnd5⟩ := nodup_app.1 hnd2
 obtain ⟨_, _, hnd6⟩ := nodup_app.1 hnd4
 have hφv : φ' ∉ famL v := fun c => hnd3 φ' c (by simp)
 have hφA : φ' ∉ l2F A := fun c => hnd5 φ' c (by simp)
 have hφC : φ' ∉ l2F C := fun c => hnd6 φ' (by simp) c
 rw [hset]
 refine sto_at rfl hj h1 ?_
 have h2 : ∀ ψ, ψ ≠ φ' → (τ.set φ' ⟨st', m, es1 ++ r.set j u :: es2⟩) ψ = τ ψ := fun ψ hψ => AH.set_ne' hψ
 refine hk _ ⟨?_, ?_, ?_, ?_, ?_⟩ h2
 ·have := buf_keep h.out (τ' := τ.set φ' ⟨st', m, es1 ++ r.set j u :: es2⟩) fun ψ hψ => h2 ψ (by rintro rfl; exact hφv hψ)
  simpa [hr] using this
 ·intro q hq
  rcases List.mem_append.1 hq with c | c
  ·exact buf_keep (h.ins q (by simp [c])) fun ψ hψ => h2 ψ (by rintro rfl; exact hφA (l2F_mem c hψ))
  ·rcases List.mem_cons.1 c with rfl | c
   ·show Buf _ m p.2 (inn x')
    rw [hp, hi', hi]
    exact .inr ⟨φ', st', by simp, AH.set_same ..⟩
   ·exact buf_keep (h.ins q (by simp [c])) fun ψ hψ => h2 ψ (by rintro rfl; exact hφC (l2F_mem c hψ))
 ·have := h.nd
  rw [l2F_app, l2F_cons] at this ⊢
  exact this
 ·intro ψ hψ
  refine h.fr ψ ?_
  rw [l2F_app, l2F_cons] at hψ ⊢
  exact hψ
 ·intro ψ G hG
  have hn : ψ ≠ φ' := by rintro rfl; rw [h.fr ψ (by rw [l2F_app, l2F_cons, hfp]; simp)] at hG; cases hG
  rw [h2 ψ hn]; exact h.sub _ _ hG
end
end Go.Proofs.YtbapalgndjiamaaGreatDoor.E
/- A cell of fields: lists that grow and shrink, and values that stay. -/
namespace Go.Proofs.YtbapalgndjiamaaGreatDoor.E
open Go Go.RowKit
set_option maxRecDepth 100000
variable [L : Lam]
variable {σ τ τ' : AH} {R : AEnd → AH → Prop}
def Bfj (τ : AH) (sz : Nat) (a : AV) (es : List (List AV)) : Prop :=
 ((a = .val (.slice none 0 0) ∨ a = .emp) ∧ es = []) ∨ ∃ φ st jk, a = .own φ st 0 es.length ∧ τ φ = some ⟨st, sz, es ++ jk⟩
section
variable {sz : Nat} {a : AV} {es : List (List AV)}
theorem Bfj.nil : Bfj τ sz (.val (.slice none 0 0)) [] := .inl ⟨.inl rfl, rfl⟩
theorem Bfj.len (h : Bfj τ sz a es) : lenS a = some (iv (es.length : Int)) := by
 rcases h with ⟨rfl | rfl, rfl⟩ | ⟨φ, st, jk, rfl, _⟩ <;> rfl
theorem Bfj.keep (h : Bfj τ sz a es) (hk : ∀ ψ, ψ ∈ famL a → τ' ψ = τ ψ) : Bfj τ' sz a es := by
 rcases h with h | ⟨φ, st, jk, rfl, hF⟩
 ·exact .inl h
 ·exact .inr ⟨φ, st, jk, rfl, by rw [hk φ (by simp [famL])]; exact hF⟩
theorem Bfj.live (h : Bfj τ sz a es) {ψ : Nat} (hm : ψ ∈ famL a) : ∃ F, τ ψ = some F := by
 rcases h with ⟨rfl | rfl, rfl⟩ | ⟨φ, st, jk, rfl, hF⟩
 ·cases hm
 ·cases hm
 ·obtain rfl : ψ = φ := by simpa [famL] using hm
  exact ⟨_, hF⟩
theorem Bfj.one (h : Bfj τ sz a es) : a.one = true := by
 rcases h with ⟨rfl | rfl, rfl⟩ | ⟨φ, st, jk, rfl, _⟩ <;> rfl
theorem Bfj.at (h : Bfj τ sz a es) {i : Nat} (hi : i < es.length) : ∃ φ st, idx sz a (iv (i : Int)) τ = some (.ptr φ st i 0) ∧ ∀ off c, es[i][off]? = some c → lod (.ptr φ st i off) τ = some c := by
 rcases h with ⟨_, rfl⟩ | ⟨φ, st, jk, rfl, hF⟩
 ·simp at hi
 ·refine ⟨φ, st, ?_, fun off c hc => lod_at hF rfl ?_⟩
  ·have := idx_own (st := st) (off := 0) hF hi
   rwa [Nat.zero_add] at this
  ·simp [List.getD, List.getElem?_append_left hi, List.getElem?_eq_getElem hi, hc]
theorem Bfj.app {x : AV} {xs : List (List AV)} {k : AV → AH → Prop} (h : Bfj τ sz a es) (hx : aelems τ x = some xs) (hs : ∀ c, c ∈ xs → c.length = sz) (ho : ∀ c, c ∈ xs → ∀ y, y ∈ c → y.one = true) (hn : es.length + xs.length ≤ 4294967296)
  (hk : ∀ a' τ', Bfj τ' sz a' (es ++ xs) → Kp (famL a) τ τ' → (∀ ψ, ψ ∈ famL a' → ψ ∈ famL a ∨ τ ψ = none) → k a' τ') : E.app sz a x τ k := by
 unfold E.app
 rw [hx]
 refine ⟨hs, ?_⟩
 rcases h with ⟨rfl | rfl, rfl⟩ | ⟨φ, st, jk, rfl, hF⟩
 ·simp only
  refine ⟨by simpa using hn, ?_, ?_⟩
  ·rintro rfl
   exact hk _ _ (.inl ⟨.inl rfl, rfl⟩) (Kp.refl _ _) (fun ψ h => .inl h)
  ·intro hne φ hφ
   refine hk _ _ (.inr ⟨φ, 0, [], by simp, by simp⟩) (Kp.of_sub (.set (.refl τ) _ hφ)) (fun ψ e => ?_)
   obtain rfl : ψ = φ := by simpa [famL] using e
   exact .inr hφ
 ·simp only
  refine ⟨by simpa using hn, ?_, ?_⟩
  ·rintro rfl
   exact hk _ _ (.inl ⟨.inr rfl, rfl⟩) (Kp.refl _ _) (fun ψ h => .inl h)
  ·intro hne φ hφ
   refine hk _ _ (.inr ⟨φ, 0, [], by simp, by simp⟩) (Kp.of_sub (.set (.refl τ) _ hφ)) (fun ψ e => ?_)
   obtain rfl : ψ = φ := by simpa [famL] using e
   exact .inr hφ
 ·simp only [hF]
  refine ⟨trivial, trivial, by simp, by simpa using hn, ho, ?_⟩
  refine hk _ _ (.inr ⟨φ, if 0 + es.length + xs.length ≤ (es ++ jk).length then st else st + 1, (es ++ jk).drop (0 + es.length + xs.length), by simp, ?_⟩) (fun ψ h _ => AH.set_ne' (by rintro rfl; exact h (by simp [famL]))) (fun ψ e => ?_)
  ·rw [AH.set_same, Nat.zero_add, List.take_left' rfl]
  ·exact .inl (by simpa [famL] using e)
theorem Bfj.cut (h : Bfj τ sz a es) (hne : es ≠ []) {m : Nat} (hm : m ≤ es.length) : ∃ a', slc sz a none (some (iv (m : Int))) none τ = some a' ∧ Bfj τ sz a' (es.take m) ∧ famL a' = famL a := by
 rcases h with ⟨_, rfl⟩ | ⟨φ, st, jk, rfl, hF⟩
 ·exact absurd rfl hne
 ·refine ⟨.own φ st 0 m, ?_, .inr ⟨φ, st, es.drop m ++ jk, ?_, ?_⟩, rfl⟩
  ·have e1 : abd none 0 = some 0 := rfl
   have e2 : abd (some (iv (m : Int))) es.length = some m := by simp [abd]
   simp only [slc, hF, e1, e2]
   rw [if_pos ⟨Nat.zero_le _, hm, trivial, trivial⟩]
   simp
  ·rw [List.length_take, Nat.min_eq_left hm]
  ·rw [← List.append_assoc, List.take_append_drop]; exact hF
theorem Bfj.fz (h : Bfj τ sz a es) (h0 : ∀ ψ, ψ ∈ famL a → σ ψ = none) (hz : ∀ c, c ∈ es → c.length = sz) : Fz σ τ a (.ro es) := by
 rcases h with ⟨rfl | rfl, rfl⟩ | ⟨φ, st, jk, rfl, hF⟩
 ·exact .nil
 ·exact .emp
 ·refine .own hF (h0 φ (by simp [famL])) rfl (by simp) rfl (fun i hi => ?_) fun i j hi hj => ?_
  ·rw [show es.getD i [] = es[i] by simp [List.getD, List.getElem?_eq_getElem hi]]
   exact hz _ (List.getElem_mem hi)
  ·rw [Nat.zero_add, show (es ++ jk).getD i [] = es.getD i [] by simp [List.getD, List.getElem?_append_left hi]]
   exact .same _
theorem Buf.bfj (h : Buf τ sz a es) : Bfj τ sz a es := by
 rcases h with h | ⟨φ, st, rfl, hF⟩
 ·exact .inl h
 ·exact .inr ⟨φ, st, [], rfl, by simpa using hF⟩
end
inductive Fd where
 | fix (a : AV)
 | lst (sz : Nat) (es : List (List AV))
def FdOk (τ : AH) : Fd → AV → Prop
 | .fix a, v => v = a ∧ famL a = [] ∧ a.one = true
 | .lst sz es, v => Bfj τ sz v es
theorem FdOk.keep {f : Fd} {v : AV} (h : FdOk τ f v) (hk : ∀ ψ, ψ ∈ famL v → τ' ψ = τ ψ) : FdOk τ' f v := by
 cases f with
 | fix a => exact h
 | lst sz es => exact Bfj.keep h hk
theorem FdOk.live {f : Fd} {v : AV} (h : FdOk τ f v) {ψ : Nat} (hm : ψ ∈ famL v) : ∃ F, τ ψ = some F := by
 cases f with
 | fix a => obtain ⟨rfl, h2, _⟩ := h; rw [h2] at hm; cases hm
 | lst sz es => exact Bfj.live h hm
theorem FdOk.one {f : Fd} {v : AV} (h : FdOk τ f v) : v.one = true := by
 cases f with
 | fix a => obtain ⟨rfl, _, h3⟩ := h; exact h3
 | lst sz es => exact Bfj.one h
structure MSt (σ τ : AH) (φm : Nat) (fd : List Fd) : Prop where
 ex : ∃ vs : List AV, τ φm = some ⟨0, fd.length, [vs]⟩ ∧ vs.length = fd.length ∧ (∀ i f, fd[i]? = some f → FdOk τ f (vs.getD i .any)) ∧
  (∀ i j ψ, i ≠ j → ψ ∈ famL (vs.getD i .any) → ψ ∉ famL (vs.getD j .any)) ∧ ∀ i ψ, ψ ∈ famL (vs.getD i .any) → ψ ≠ φm ∧ σ ψ = none
 fr : σ φm = none
 sub : AH.Sub σ τ
section
variable {φm i : Nat} {fd : List Fd}
theorem getD_any {vs : List AV} {i : Nat} (h : vs.length ≤ i) : vs.getD i .any = .any := by simp [List.getD, List.getElem?_eq_none h]
theorem MSt.live' {vs : List AV} (hl : vs.length = fd.length) (hf : ∀ i f, fd[i]? = some f → FdOk τ f (vs.getD i .any)) {i ψ : Nat} (hm : ψ ∈ famL (vs.getD i .any)) : ∃ F, τ ψ = some F := by
 rcases Nat.lt_or_ge i fd.length with c | c
 ·exact (hf i _ (List.getElem?_eq_getElem c)).live hm
 ·rw [getD_any (by omega)] at hm; cases hm
theorem MSt.fld (h : MSt σ τ φm fd) {f : Fd} (hi : fd[i]? = some f) : ∃ v, lod (.ptr φm 0 0 i) τ = some v ∧ FdOk τ f v := by
 obtain ⟨vs, h1, h2, h3, _⟩ := h.ex
 have hlt := (List.getElem?_eq_some_iff.1 hi).1
 refine ⟨vs.getD i .any, lod_at h1 rfl ?_, h3 i f hi⟩
 have : i < vs.length := by omega
 simp [List.getD, List.getElem?_eq_getElem this]
theorem MSt.fix (h : MSt σ τ φm fd) {a : AV} (hi : fd[i]? = some (.fix a)) : lod (.ptr φm 0 0 i) τ = some a := by
 obtain ⟨v, h1, rfl, _⟩ := h.fld hi
 exact h1
theorem MSt.lst (h : MSt σ τ φm fd) {sz : Nat} {es : List (List AV)} (hi : fd[i]? = some (.lst sz es)) : ∃ v, lod (.ptr φm 0 0 i) τ = some v ∧ Bfj τ sz v es := h.fld hi
theorem MSt.keep (h : MSt σ τ φm fd) {σ' : AH} (hk : ∀ ψ, τ ψ ≠ none → (ψ = φm ∨ σ ψ = none) → σ' ψ = none ∧ τ' ψ = τ ψ) (hm : τ φm ≠ none → σ' φm = none ∧ τ' φm = τ φm) (hs : AH.Sub σ' τ') : MSt σ' τ' φm fd := by
 obtain ⟨vs, h1, h2, h3, h4, h5⟩ := h.ex
 have hm' := hm (by rw [h1]; simp)
 have hl : ∀ i ψ, ψ ∈ famL (vs.getD i .any) → σ' ψ = none ∧ τ' ψ = τ ψ := fun i ψ hψ => by
  obtain ⟨F, hF⟩ := MSt.live' h2 h3 hψ
  exact hk ψ (by rw [hF]; simp) (.inr (h5 i ψ hψ).2)
 exact ⟨⟨vs, by rw [hm'.2]; exact h1, h2, fun i f hf => (h3 i f hf).keep fun ψ hψ => (hl i ψ hψ).2, h4, fun i ψ hψ => ⟨(h5 i ψ hψ).1, (hl i ψ hψ).1⟩⟩, hm'.1, hs⟩
theorem MSt.grow (h : MSt σ τ φm fd) (hs : AH.Sub τ τ') : MSt σ τ' φm fd := by
 have key : ∀ ψ, τ ψ ≠ none → τ' ψ = τ ψ := fun ψ hn => by
  cases e : τ ψ with
  | none => exact absurd e hn
  | some F => exact hs _ _ e
 refine h.keep (fun ψ hn hc => ⟨?_, key ψ hn⟩) (fun hn => ⟨h.fr, key _ hn⟩) (h.sub.trans hs)
 rcases hc with rfl | hc
 ·exact h.fr
 ·exact hc
theorem MSt.drop (h : MSt σ τ φm fd) {σ' : AH} (hs : AH.Sub σ' σ) : MSt σ' τ φm fd := by
 refine h.keep (fun ψ hn hc => ⟨?_, rfl⟩) (fun hn => ⟨hs.none h.fr, rfl⟩) (hs.trans h.sub)
 rcases hc with rfl | hc
 ·exact hs.none h.fr
 ·exact hs.none hc
theorem MSt.set2 (h : MSt σ τ φm fd) {ψ : Nat} (Z : Fam) (hψ : τ ψ = none ∨ σ ψ ≠ none) : MSt (σ.set ψ Z) (τ.set ψ Z) φm fd := by
 obtain ⟨vs, h1, _⟩ := h.ex
 have hne : ∀ χ, τ χ ≠ none → (χ = φm ∨ σ χ = none) → χ ≠ ψ := fun χ hn hc e => by
  subst e
  rcases hψ with c | c
  ·exact hn c
  ·rcases hc with rfl | hc
   ·exact c h.fr
   ·exact c hc
 refine h.keep (fun χ hn hc => ?_) (fun hn => ?_) (AH.Sub.set_both h.sub ψ Z)
 ·have := hne χ hn hc
  refine ⟨?_, AH.set_ne' this⟩
  rw [AH.set_ne' this]
  rcases hc with rfl | hc
  ·exact h.fr
  ·exact hc
 ·have := hne φm hn (.inl rfl)
  exact ⟨by rw [AH.set_ne' this]; exact h.fr, AH.set_ne' this⟩
theorem MSt.del2 (h : MSt σ τ φm fd) {ψ : Nat} (hψ : σ ψ ≠ none) : MSt (σ.del ψ) (τ.del ψ) φm fd := by
 have hne : ∀ χ, (χ = φm ∨ σ χ = none) → χ ≠ ψ := fun χ hc e => by
  subst e
  rcases hc with rfl | hc
  ·exact hψ h.fr
  ·exact hψ hc
 have hd : ∀ (α : AH) χ, χ ≠ ψ → (α.del ψ) χ = α χ := fun α χ hc => by simp [AH.del, hc]
 refine h.keep (fun χ hn hc => ?_) (fun hn => ?_) fun χ F hF => ?_
 ·have := hne χ hc
  refine ⟨?_, hd _ _ this⟩
  rw [hd _ _ this]
  rcases hc with rfl | hc
  ·exact h.fr
  ·exact hc
 ·have := hne φm (.inl rfl)
  exact ⟨by rw [hd _ _ this]; exact h.fr, hd _ _ this⟩
 ·by_cases c : χ = ψ
  ·subst c; simp [AH.del] at hF
  ·rw [hd _ _ c] at hF ⊢; exact h.sub _ _ hF
theorem MSt.new {vs : List AV} {φ : Nat} (hφ : σ φ = none) (hl : vs.length = fd.length) (hf : ∀ i f, fd[i]? = some f → FdOk (σ.set φ ⟨0, fd.length, [vs]⟩) f (vs.getD i .any)) (h0 : ∀ v, v ∈ vs → famL v = []) : MSt σ (σ.set φ ⟨0, fd.length, [vs]⟩) φ fd := by
 have h0' : ∀ i, famL (vs.getD i .any) = [] := fun i => by
  rcases Nat.lt_or_ge i vs.length with c | c
  ·rw [show vs.getD i .any = vs[i] by simp [List.getD, List.getElem?_eq_getElem c]]; exact h0 _ (List.getElem_mem c)
  ·rw [getD_any c]; rfl
 exact ⟨⟨vs, AH.set_same .., hl, hf, (fun i j ψ _ hψ => by rw [h0'] at hψ; cases hψ), fun i ψ hψ => by rw [h0'] at hψ; cases hψ⟩, hφ, .set (.refl σ) _ hφ⟩
theorem MSt.put {f f' : Fd} {v v' : AV} {τ1 : AH} {k' : AH → Prop} (h : MSt σ τ φm fd) (hi : fd[i]? = some f) (hv : lod (.ptr φm 0 0 i) τ = some v) (hf : FdOk τ1 f' v') (hK : Kp (famL v) τ τ1) (hfam : ∀ ψ, ψ ∈ famL v' → ψ ∈ famL v ∨ τ ψ = none)
  (hk : ∀ τ2, MSt σ τ2 φm (fd.set i f') → k' τ2) : sto 1 (.ptr φm 0 0 i) v' τ1 k' := by
 obtain ⟨vs, h1, h2, h3, h4, h5⟩ := h.ex
 have hlt := (List.getElem?_eq_some_iff.1 hi).1
 have hlv : i < vs.length := by omega
 obtain rfl : v = vs.getD i .any := by
  have : lod (.ptr φm 0 0 i) τ = some (vs.getD i .any) := lod_at h1 rfl (by simp [List.getD, List.getElem?_eq_getElem hlv])
  rw [this] at hv; exact (Option.some.inj hv).symm
 have hm : φm ∉ famL (vs.getD i .any) := fun c => (h5 i φm c).1 rfl
 have h1' : τ1 φm = some ⟨0, fd.length, [vs]⟩ := by rw [hK φm hm (by rw [h1]; simp)]; exact h1
 refine sto_fld (cs := vs) h1' rfl (by omega) (acells_one hf.one) hf.one (hk _ ?_)
 have e0 : [vs].set 0 (vs.set i v') = [vs.set i v'] := rfl
 rw [e0]
 have gi : (vs.set i v').getD i .any = v' := by simp [List.getD, hlv]
 have gj : ∀ j, j ≠ i → (vs.set i v').getD j .any = vs.getD j .any := fun j hj => by simp [List.getD, List.getElem?_set_ne (Ne.symm hj)]
 have hmv : φm ∉ famL v' := fun c => (hfam φm c).elim hm fun d => by rw [h1] at d; cases d
 have tk : ∀ ψ, ψ ≠ φm → (τ1.set φm ⟨0, fd.length, [vs.set i v']⟩) ψ = τ1 ψ := fun ψ hψ => AH.set_ne' hψ
 have oth : ∀ j, j ≠ i → ∀ ψ, ψ ∈ famL (vs.getD j .any) → ψ ∉ famL (vs.getD i .any) ∧ ψ ≠ φm ∧ τ ψ ≠ none := fun j hj ψ hψ => by
  obtain ⟨F, hF⟩ := MSt.live' h2 h3 hψ
  exact ⟨h4 j i ψ hj hψ, (h5 j ψ hψ).1, by rw [hF]; simp⟩
 refine ⟨⟨vs.set i v', by rw [AH.set_same]; simp, by simpa using h2, fun j g hg => ?_, fun j l ψ hjl hψ => ?_, fun j ψ hψ => ?_⟩, h.fr, fun ψ F hF => ?_⟩
 ·by_cases c : j = i
  ·subst c
   rw [List.getElem?_set_self hlt] at hg
   obtain rfl := Option.some.inj hg
   rw [gi]
   exact hf.keep fun ψ hψ => tk ψ (by rintro rfl; exact hmv hψ)
  ·rw [List.getElem?_set_ne (Ne.symm c)] at hg
   rw [gj j c]
   refine (h3 j g hg).keep fun ψ hψ => ?_
   obtain ⟨o1, o2, o3⟩ := oth j c ψ hψ
   rw [tk ψ o2, hK ψ o1 o3]
 ·by_cases c : j = i
  ·subst c
   rw [gi] at hψ
   rw [gj l (Ne.symm hjl)]
   intro d
   obtain ⟨o1, o2, o3⟩ := oth l (Ne.symm hjl) ψ d
   exact (hfam ψ hψ).elim o1 o3
  ·rw [gj j c] at hψ
   obtain ⟨o1, o2, o3⟩ := oth j c ψ hψ
   by_cases c2 : l = i
   ·subst c2
    rw [gi]
    intro d
    exact (hfam ψ d).elim o1 o3
   ·rw [gj l c2]
    exact h4 j l ψ hjl hψ
 ·by_cases c : j = i
  ·subst c
   rw [gi] at hψ
   refine ⟨by rintro rfl; exact hmv hψ, ?_⟩
   rcases hfam ψ hψ with d | d
   ·exact (h5 j ψ d).2
   ·exact h.sub.none d
  ·rw [gj j c] at hψ
   exact h5 j ψ hψ
 ·have hne : ψ ≠ φm := by rintro rfl; rw [h.fr] at hF; cases hF
  rw [tk ψ hne, hK ψ (fun c => by rw [(h5 i ψ c).2] at hF; cases hF) (by rw [h.sub _ _ hF]; simp)]
  exact h.sub _ _ hF
theorem MSt.app {sz : Nat} {es : List (List AV)} {row : List AV} {v x : AV} {k : AV → AH → Prop} (h : MSt σ τ φm fd) (hi : fd[i]? = some (.lst sz es)) (hv : lod (.ptr φm 0 0 i) τ = some v) (hx : aelems τ x = some [row]) (hr : row.length = sz) (ho : ∀ y, y ∈ row → y.one = true) (hn : es.length + 1 ≤ 4294967296)
  (hk : ∀ v' τ1, (∀ k' : AH → Prop, (∀ τ2, MSt σ τ2 φm (fd.set i (.lst sz (es ++ [row]))) → k' τ2) → sto 1 (.ptr φm 0 0 i) v' τ1 k') → k v' τ1) : E.app sz v x τ k := by
 obtain ⟨v2, e2, hb⟩ := h.lst hi
 rw [hv] at e2
 obtain rfl := Option.some.inj e2
 refine hb.app hx (by intro c hc; obtain rfl := List.mem_singleton.1 hc; exact hr) (by intro c hc; obtain rfl := List.mem_singleton.1 hc; exact ho) (by simpa using hn) fun v' τ1 hB hK hfam => ?_
 exact hk v' τ1 fun k' hk' => h.put hi hv (f' := .lst sz (es ++ [row])) hB hK hfam hk'
theorem MSt.cut {sz : Nat} {es : List (List AV)} {v : AV} (h : MSt σ τ φm fd) (hi : fd[i]? = some (.lst sz es)) (hv : lod (.ptr φm 0 0 i) τ = some v) (hne : es ≠ []) {m : Nat} (hm : m ≤ es.length) :
  ∃ v', slc sz v none (some (iv (m : Int))) none τ = some v' ∧ ∀ k' : AH → Prop, (∀ τ2, MSt σ τ2 φm (fd.set i (.lst sz (es.take m))) → k' τ2) → sto 1 (.ptr φm 0 0 i) v' τ k' := by
 obtain ⟨v2, e2, hb⟩ := h.lst hi
 rw [hv] at e2
 obtain rfl := Option.some.inj e2
 obtain ⟨v', h1, h2, h3⟩ := hb.cut hne hm
 exact ⟨v', h1, fun k' hk' => h.put hi hv (f' := .lst sz (es.take m)) h2 (Kp.refl _ _) (fun ψ hψ => .inl (h3 ▸ hψ)) hk'⟩
theorem MSt.fzl {sz : Nat} {es : List (List AV)} {v : AV} (h : MSt σ τ φm fd) (hi : fd[i]? = some (.lst sz es)) (hv : lod (.ptr φm 0 0 i) τ = some v) (hz : ∀ c, c ∈ es → c.length = sz) : Fz σ τ v (.ro es) := by
 obtain ⟨vs, h1, h2, h3, h4, h5⟩ := h.ex
 have hlt := (List.getElem?_eq_some_iff.1 hi).1
 have hlv : i < vs.length := by omega
 obtain rfl : v = vs.getD i .any := by
  have : lod (.ptr φm 0 0 i) τ = some (vs.getD i .any) := lod_at h1 rfl (by simp [List.getD, List.getElem?_eq_getElem hlv])
  rw [this] at hv; exact (Option.some.inj hv).symm
 exact Bfj.fz (h3 i _ hi) (fun ψ hψ => (h5 i ψ hψ).2) hz
theorem MSt.app2 {sz : Nat} {es xs : List (List AV)} {a x : AV} {σ0 : AH} {k : AV → AH → Prop} (h : MSt σ τ φm fd) (hs0 : AH.Sub σ0 σ) (hB : Buf σ sz a es) (h0 : ∀ ψ, ψ ∈ famL a → σ0 ψ = none) (hx : aelems τ x = some xs) (hs : ∀ c, c ∈ xs → c.length = sz) (ho : ∀ c, c ∈ xs → ∀ y, y ∈ c → y.one = true) (hn : es.length + xs.length ≤ 4294967296)
  (hk : ∀ a' σ' τ', MSt σ' τ' φm fd → AH.Sub σ0 σ' → Buf σ' sz a' (es ++ xs) → (∀ ψ, ψ ∈ famL a' → σ0 ψ = none) → k a' τ') : E.app sz a x τ k := by
 unfold E.app
 rw [hx]
 refine ⟨hs, ?_⟩
 have new : ∀ φ, τ φ = none → k (.own φ 0 0 xs.length) (τ.set φ ⟨0, sz, xs⟩) ∨ es ≠ [] := by
  intro φ hφ
  by_cases c : es = []
  ·left
   subst c
   have hσ : σ φ = none := h.sub.none hφ
   refine hk _ _ _ (h.set2 ⟨0, sz, xs⟩ (.inl hφ)) (.set hs0 _ (hs0.none hσ)) (.inr ⟨φ, 0, by simp, by simp⟩) fun ψ hψ => ?_
   obtain rfl : ψ = φ := by simpa [famL] using hψ
   exact hs0.none hσ
  ·exact .inr c
 rcases hB with ⟨rfl | rfl, rfl⟩ | ⟨φ, st, rfl, hF⟩
 ·simp only
  refine ⟨by simpa using hn, ?_, fun _ φ hφ => (new φ hφ).elim id fun c => absurd rfl c⟩
  rintro rfl
  exact hk _ _ _ h hs0 (.inl ⟨.inl rfl, rfl⟩) h0
 ·simp only
  refine ⟨by simpa using hn, ?_, fun _ φ hφ => (new φ hφ).elim id fun c => absurd rfl c⟩
  rintro rfl
  exact hk _ _ _ h hs0 (.inl ⟨.inr rfl, rfl⟩) h0
 ·simp only [h.sub _ _ hF]
  refine ⟨trivial, trivial, by simp, by simpa using hn, ho, ?_⟩
  have hφ0 : σ0 φ = none := h0 φ (by simp [famL])
  refine hk _ _ _ (h.set2 _ (.inr (by rw [hF]; simp))) (.set hs0 _ hφ0) (.inr ⟨φ, if 0 + es.length + xs.length ≤ es.length then st else st + 1, by simp, by simp⟩) fun ψ hψ => ?_
  obtain rfl : ψ = φ := by simpa [famL] using hψ
  exact hφ0
end
end Go.Proofs.YtbapalgndjiamaaGreatDoor.E
/- Numbers as texts, by the reference; draws. -/
namespace Go.Proofs.YtbapalgndjiamaaGreatDoor.E
open Go Go.RowKit
set_option maxRecDepth 100000
variable [L : Lam]
def itB (n : Int) : ByteArray := ⟨(Lib.itoa n).toArray⟩
theorem bs_append (a b : List UInt8) : bs a ++ bs b = bs (a ++ b) := by
 apply ByteArray.ext
 simp [ByteArray.data_append]
def isDg (c : UInt8) : Bool := decide (48 ≤ c.toNat) && decide (c.toNat ≤ 57)
theorem isDg_iff {c : UInt8} : isDg c = true ↔ 48 ≤ c.toNat ∧ c.toNat ≤ 57 := by unfold isDg; rw [Bool.and_eq_true, decide_eq_true_iff, decide_eq_true_iff]
def val (acc : Nat) (l : List UInt8) : Nat := l.foldl (fun a c => a * 10 + (c.toNat - 48)) acc
theorem val_cons (acc : Nat) (c : UInt8) (l : List UInt8) : val acc (c :: l) = val (acc * 10 + (c.toNat - 48)) l := by unfold val; rw [List.foldl_cons]
theorem decDigits_ten {u : Nat} (h : ¬ u < 10) : Lib.decDigits u = Lib.decDigits (u / 10) ++ [UInt8.ofNat (48 + u % 10)] := by rw [Lib.decDigits, dif_neg h]
theorem decDigits_len : ∀ (k u : Nat), u < 10 ^ (k + 1) → 1 ≤ (Lib.decDigits u).length ∧ (Lib.decDigits u).length ≤ k + 1 := by
 intro k
 induction k with
 | zero =>
  intro u h
  rw [Lib.decDigits_one (by simpa using h)]
  simp
 | succ k ih =>
  intro u h
  by_cases c : u < 10
  ·rw [Lib.decDigits_one c]
   simp
  ·rw [decDigits_ten c]
   have := ih (u / 10) (by rw [Nat.pow_succ] at h; omega)
   simp only [List.length_append, List.length_cons, List.length_nil]
   omega
def sgnB (l : List UInt8) : Bool := match l with | c :: _ => decide (c.toNat = 45) | [] => false
def dgsB (l : List UInt8) : List UInt8 := if sgnB l then l.tail else l
def parOk (l : List UInt8) : Bool := decide (1 ≤ (dgsB l).length) && decide ((dgsB l).length ≤ 10) && (dgsB l).all isDg
def parV (l : List UInt8) : Int := if sgnB l then -(val 0 (dgsB l) : Nat) else (val 0 (dgsB l) : Nat)
theorem parseUintM_dg : ∀ (l : List UInt8) (acc : Nat), (∀ c, c ∈ l → isDg c = true) → (acc + 1) * 10 ^ l.length ≤ 1000000000000000000 → Lib.parseUintM 18446744073709551615 acc l = .ok (val acc l) ∧ val acc l < (acc + 1) * 10 ^ l.length := by
 intro l
 induction l with
 | nil => intro acc _ _; exact ⟨rfl, by simp [val]⟩
 | cons c l ih =>
  intro acc hd hb
  have h1 := isDg_iff.1 (hd c (.head _))
  rw [List.length_cons, Nat.pow_succ] at hb ⊢
  have hp : 1 ≤ 10 ^ l.length := Nat.one_le_pow _ _ (by decide)
  have e : (acc + 1) * (10 ^ l.length * 10) = ((acc + 1) * 10) * 10 ^ l.length := by rw [Nat.mul_comm (10 ^ l.length) 10, Nat.mul_assoc]
  rw [e] at hb ⊢
  have h2 : (acc * 10 + (c.toNat - 48) + 1) * 10 ^ l.length ≤ ((acc + 1) * 10) * 10 ^ l.length := Nat.mul_le_mul_right _ (by omega)
  have h3 : (acc + 1) * 10 ≤ ((acc + 1) * 10) * 10 ^ l.length := Nat.le_mul_of_pos_right _ hp
  obtain ⟨i1, i2⟩ := ih (acc * 10 + (c.toNat - 48)) (fun x hx => hd x (.tail _ hx)) (by omega)
  refine ⟨?_, by rw [val_cons]; omega⟩
  rw [Lib.parseUintM, if_pos h1, if_neg (by omega), if_neg (by omega), i1, val_cons]
theorem val_lt {l : List UInt8} (hd : ∀ c, c ∈ l → isDg c = true) (hl : l.length ≤ 10) : val 0 l < 10 ^ l.length := by
 have hp : 10 ^ l.length ≤ 10 ^ 10 := Nat.pow_le_pow_right (by decide) hl
 have := (parseUintM_dg l 0 hd (by rw [Nat.zero_add, Nat.one_mul]; omega)).2
 omega
theorem val_lt10 {l : List UInt8} (hd : ∀ c, c ∈ l → isDg c = true) (hl : l.length ≤ 10) : val 0 l < 10000000000 := by
 have := val_lt hd hl
 have hp : 10 ^ l.length ≤ 10 ^ 10 := Nat.pow_le_pow_right (by decide) hl
 omega
def isNum (l : List UInt8) : Bool := parOk l && (inB (-1000000000) 1000000000 (parV l) && decide (itB (parV l) = bs l))
variable {σ τ : AH} {R : AEnd → AH → Prop}
theorem wrap8 {x : Int} (h0 : 0 ≤ x) (h1 : x ≤ 255) : IntKind.u8.wrap x = x := by
 have e : x % (2 ^ IntKind.u8.bits : Int) = x := Int.emod_eq_of_lt h0 (by simp [IntKind.bits]; omega)
 unfold IntKind.wrap
 simp [e, IntKind.signed]
theorem c_l1Digits_one {n : Nat} (hn : n < 10) (h : R (.ret (str (bs (Lib.decDigits n)))) σ) : acall TP fn_spec_l1Digits [iv (n : Int)] σ R := by
 refine s_spec_l1Digits_ok ?_
 unfold s_spec_l1Digits
 have g1 : ¬ (n : Int) < 0 := by omega
 have g2 : (n : Int) < 10 := by omega
 have e2 : ibin .add (.val (.int .i64 48)) (iv (n : Int)) = some (iv (48 + (n : Int))) := ibin_add (by omega) (by omega)
 have e3 : convI .u8 (iv (48 + (n : Int))) = some (.val (.int .u8 (48 + (n : Int)))) := by
  show some (AV.val (.int .u8 (IntKind.u8.wrap (48 + (n : Int))))) = _
  rw [wrap8 (by omega) (by omega)]
 simp only [g1, g2, e2, e3, RR]
 refine ⟨by decide, ?_⟩
 rw [if_neg (by decide)]
 intro ψ hψ
 have ha : ∀ w : Int, aelems (σ.set ψ ⟨0, 1, [[.val (.int .u8 w)]]⟩) (.own ψ 0 0 1) = some [[.val (.int .u8 w)]] := fun w => by simp [aelems]
 have hb : ∀ w : Int, abytes [[.val (.int .u8 w)]] = some [UInt8.ofNat w.toNat] := fun w => rfl
 refine aconv_bytes bytes_Lb (ha _) (hb _) (by intro u h; cases h) (by intro kd n h; cases h) ?_
 have e : (⟨[UInt8.ofNat (48 + (n : Int)).toNat].toArray⟩ : ByteArray) = bs (Lib.decDigits n) := by
  rw [Lib.decDigits_one hn, show (48 + (n : Int)).toNat = 48 + n by omega]
 rw [e]
 exact aret_sub (.set (.refl σ) _ hψ) h
theorem c_spec_l1Digits_nat : ∀ (n : Nat), n ≤ 10000000000 → ∀ {σ : AH} {R : AEnd → AH → Prop}, R (.ret (str (bs (Lib.decDigits n)))) σ → acall TP fn_spec_l1Digits [iv (n : Int)] σ R := by
 intro n
 induction n using Nat.strongRecOn with
 | _ n ih =>
  intro hn σ R h
  by_cases c : n < 10
  ·refine c_l1Digits_one c ?_
   exact h
  refine s_spec_l1Digits_ok ?_
  unfold s_spec_l1Digits
  have g1 : ¬ (n : Int) < 0 := by omega
  have g2 : ¬ (n : Int) < 10 := by omega
  have e0 : ibin .quo (iv (n : Int)) (.val (.int .i64 10)) = some (iv ((n / 10 : Nat) : Int)) := by
   show some (iv (IntKind.i64.wrap ((n : Int).tdiv 10))) = _
   rw [Int.tdiv_eq_ediv_of_nonneg (by omega), i64_wrap (by omega) (by omega)]
   rfl
  have e1 : ibin .rem (iv (n : Int)) (.val (.int .i64 10)) = some (iv ((n % 10 : Nat) : Int)) := by
   show some (iv ((n : Int).tmod 10)) = _
   rw [Int.tmod_eq_emod_of_nonneg (by omega)]
   rfl
  have e2 : ibin .add (.val (.int .i64 48)) (iv ((n % 10 : Nat) : Int)) = some (iv (48 + ((n % 10 : Nat) : Int))) := ibin_add (by omega) (by omega)
  have e3 : convI .u8 (iv (48 + ((n % 10 : Nat) : Int))) = some (.val (.int .u8 (48 + ((n % 10 : Nat) : Int)))) := by
   show some (AV.val (.int .u8 (IntKind.u8.wrap _))) = _
   rw [wrap8 (by omega) (by omega)]
  have e4 : ∀ w : Int, bslR 1 [.val (.int .u8 0)] 1 [(0, .val (.int .u8 w))] = some (.ro [[.val (.int .u8 w)]]) := fun w => by
   show (if 1 * 1 ≤ 2 ^ 24 ∧ (∀ c, c ∈ [[AV.val (.int .u8 w)]] → c.length = 1) then some (if 1 = 0 then AV.emp else .ro [[.val (.int .u8 w)]]) else none) = _
   rw [if_pos ⟨by decide, by simp⟩]
   rfl
  have e5 : ∀ w : Int, b2s (.ro [[.val (.int .u8 w)]]) = some (str ⟨[UInt8.ofNat w.toNat].toArray⟩) := fun w => rfl
  simp only [g1, g2, e0, e1, e2, e3, e4, e5, RR]
  refine ih (n / 10) (by omega) (by omega) ?_
  have hl := decDigits_len 10 (n / 10) (by omega)
  have e6 := sbin_add (bs (Lib.decDigits (n / 10))) ⟨[UInt8.ofNat (48 + ((n % 10 : Nat) : Int)).toNat].toArray⟩ (by rw [size_bs, size_one]; omega)
  have e7 : bs (Lib.decDigits (n / 10)) ++ ⟨[UInt8.ofNat (48 + ((n % 10 : Nat) : Int)).toNat].toArray⟩ = bs (Lib.decDigits n) := by
   rw [decDigits_ten c, ← bs_append, show (48 + ((n % 10 : Nat) : Int)).toNat = 48 + n % 10 by omega]
  rw [e7] at e6
  refine ⟨trivial, ?_⟩
  simp only [e6, RR]
  exact ret_here h
theorem aun_neg {v : Int} (h0 : -9223372036854775808 ≤ -v) (h1 : -v ≤ 9223372036854775807) : aun .neg (iv v) = some (iv (-v)) := by
 show some (iv (IntKind.i64.wrap (0 - v))) = _
 rw [Int.zero_sub, i64_wrap h0 h1]
theorem c_spec_l1Digits_int {v : Int} (h0 : -1000000000 ≤ v) (h1 : v ≤ 1000000000) (h : R (.ret (str (itB v))) σ) : acall TP fn_spec_l1Digits [iv v] σ R := by
 unfold itB Lib.itoa at h
 by_cases c : v < 0
 ·rw [if_pos c] at h
  refine s_spec_l1Digits_ok ?_
  unfold s_spec_l1Digits
  have e1 : -v = ((v.natAbs : Nat) : Int) := by omega
  simp only [c, aun_neg (show -9223372036854775808 ≤ -v by omega) (show -v ≤ 9223372036854775807 by omega), RR]
  rw [e1]
  refine c_spec_l1Digits_nat _ (by omega) ?_
  have hl := decDigits_len 10 v.natAbs (by omega)
  have e6 := sbin_add ⟨#[45]⟩ (bs (Lib.decDigits v.natAbs)) (by rw [size_bs (Lib.decDigits v.natAbs)]; show 1 + (Lib.decDigits v.natAbs).length ≤ 4611686018427387904; omega)
  have e7 : (⟨#[45]⟩ : ByteArray) ++ bs (Lib.decDigits v.natAbs) = bs (45 :: Lib.decDigits v.natAbs) := bs_append [45] _
  rw [e7] at e6
  simp only [e6, RR]
  exact ret_here h
 ·rw [if_neg c] at h
  have e1 : v = ((v.toNat : Nat) : Int) := by omega
  rw [e1]
  exact c_spec_l1Digits_nat _ (by omega) h
theorem val_take {l : List UInt8} {j : Nat} (h : j < l.length) : val 0 (l.take (j + 1)) = val 0 (l.take j) * 10 + (l[j].toNat - 48) := by
 rw [List.take_succ_eq_append_getElem h]
 unfold val
 rw [List.foldl_append, List.foldl_cons, List.foldl_nil]
theorem sub8 {x : Int} (h0 : 48 ≤ x) (h1 : x ≤ 255) : ibin .sub (u8v x) (u8v 48) = some (u8v (x - 48)) := by
 show some (u8v (IntKind.u8.wrap (x - 48))) = _
 rw [wrap8 (by omega) (by omega)]
theorem conv8 {x : Int} (h0 : 0 ≤ x) (h1 : x ≤ 255) : convI .i64 (u8v x) = some (iv x) := by
 show some (iv (IntKind.i64.wrap x)) = _
 rw [i64_wrap (by omega) (by omega)]
theorem jn_by {X : Type} {B : X → AH → Prop} {E : (X → AH → Prop) → Prop} (P : X → AH → Prop) (hB : ∀ x σ, P x σ → B x σ) (hE : ∀ k : X → AH → Prop, (∀ x σ, P x σ → k x σ) → E k) : jn B E := hE B hB
theorem c_spec_l1Parse {l : List UInt8} (hl : l.length ≤ 1048576) (h1 : parOk l = true → R (.ret (.tup [iv (parV l), bv (inB (-1000000000) 1000000000 (parV l) && decide (itB (parV l) = bs l))])) σ)
  (h0 : parOk l = false → R (.ret (.tup [iv 0, bv false])) σ) : acall TP fn_spec_l1Parse [str (bs l)] σ R := by
 have fin : ∀ v : Int, parOk l = true → v = parV l → acall TP fn_spec_l1Num [iv v] σ (onr (fun v58 σ =>
   og (gval v58 true false (some (iv v))) fun v60 =>
   gpick v58 (acall TP fn_spec_l1Digits [v60] σ (onr (fun v61 σ => og (sbin .eql v61 (str (bs l))) fun v63 => aret (.tup [iv v, v63]) σ R) (fun v σ => apan v σ R))) (aret (.tup [iv v, bv false]) σ R) False) (fun v σ => apan v σ R)) := by
  rintro v hok rfl
  have h1 := h1 hok
  refine c_spec_l1Num ?_
  unfold numB
  cases c : inB (-1000000000) 1000000000 (parV l) with
  | false =>
   rw [c] at h1
   simp only [RR]
   exact ret_here h1
  | true =>
   rw [c] at h1
   have := inB_iff.1 c
   simp only [RR]
   refine c_spec_l1Digits_int this.1 this.2 ?_
   simp only [sbin_eql', RR]
   exact ret_here h1
 refine s_spec_l1Parse_ok ?_
 unfold s_spec_l1Parse
 have dm : ∀ m : Nat, m ≤ l.length → dgsB l = l.drop m → (dgsB l).length = l.length - m := fun m h e => by rw [e, List.length_drop]
 refine jn_by (P := fun x τ => τ = σ ∧ ∃ m : Nat, x = (str (bs l), iv (m : Int), ()) ∧ m ≤ l.length ∧ dgsB l = l.drop m ∧ sgnB l = decide ((m : Int) = 1)) ?_ ?_
 ·rintro x τ ⟨rfl, m, rfl, hm, hd, hs⟩
  have hlen := dm m hm hd
  have s1 : ibin .sub (iv (l.length : Int)) (iv (m : Int)) = some (iv ((dgsB l).length : Int)) := by
   rw [ibin_sub (by omega) (by omega)]; congr 3; omega
  simp only [size_bs, s1, RR]
  by_cases c1 : ((dgsB l).length : Int) < 1
  ·have hn : parOk l = false := by
    unfold parOk
    rw [decide_eq_false (by omega)]; rfl
   simp only [c1, RR]
   exact ret_here (h0 hn)
  by_cases c2 : 10 < ((dgsB l).length : Int)
  ·have hn : parOk l = false := by
    unfold parOk
    rw [decide_eq_false (show ¬ (dgsB l).length ≤ 10 by omega), Bool.and_false]; rfl
   simp only [c1, c2, s1, size_bs, RR]
   exact ret_here (h0 hn)
  simp only [c1, c2, s1, size_bs, RR]
  refine lp_same (dgsB l).length (fun j => (str (bs l), iv (m : Int), iv ((val 0 ((dgsB l).take j) : Nat) : Int), iv ((m + j : Nat) : Int), ())) (fun j => ∀ c, c ∈ (dgsB l).take j → isDg c = true) rfl (by simp) ?_
  intro j hj hH R2 hR2
  by_cases c3 : j < (dgsB l).length
  ·have g1 : ((m + j : Nat) : Int) < (l.length : Int) := by omega
   have hmj : m + j < l.length := by omega
   have eb : l[m + j] = (dgsB l)[j] := by
    have : (dgsB l)[j]? = (l.drop m)[j]? := by rw [hd]
    rw [List.getElem?_eq_getElem c3, List.getElem?_drop, List.getElem?_eq_getElem hmj] at this
    exact (Option.some.inj this).symm
   have ix := idxStr_bs hmj
   rw [eb] at ix
   have bad : isDg (dgsB l)[j] = false → parOk l = false := by
    intro hf
    unfold parOk
    have : (dgsB l).all isDg = false := by
     rw [Bool.eq_false_iff]
     intro ha
     have := List.all_eq_true.1 ha _ (List.getElem_mem c3)
     rw [hf] at this; cases this
    rw [this, Bool.and_false]
   have hb : ((dgsB l)[j].toNat : Nat) < 256 := (dgsB l)[j].toNat_lt
   by_cases c4 : (((dgsB l)[j].toNat : Nat) : Int) < 48
   ·have hf : isDg (dgsB l)[j] = false := by
     rw [Bool.eq_false_iff]; intro ht; have := isDg_iff.1 ht; omega
    simp only [size_bs, g1, ix, ibin_cmp8, c4, RR]
    exact ret_here (h0 (bad hf))
   by_cases c5 : 57 < (((dgsB l)[j].toNat : Nat) : Int)
   ·have hf : isDg (dgsB l)[j] = false := by
     rw [Bool.eq_false_iff]; intro ht; have := isDg_iff.1 ht; omega
    simp only [size_bs, g1, ix, ibin_cmp8, c4, c5, RR]
    exact ret_here (h0 (bad hf))
   have ht : isDg (dgsB l)[j] = true := isDg_iff.2 (by omega)
   have hv := val_lt10 hH (by rw [List.length_take]; omega)
   have hsub := sub8 (x := (((dgsB l)[j].toNat : Nat) : Int)) (by omega) (by omega)
   have hcv := conv8 (x := (((dgsB l)[j].toNat : Nat) : Int) - 48) (by omega) (by omega)
   have e1 : ibin .mul (iv ((val 0 ((dgsB l).take j) : Nat) : Int)) (iv 10) = some (iv (((val 0 ((dgsB l).take j) : Nat) : Int) * 10)) := ibin_mul (by omega) (by omega)
   have e2 : ibin .add (iv (((val 0 ((dgsB l).take j) : Nat) : Int) * 10)) (iv ((((dgsB l)[j].toNat : Nat) : Int) - 48)) = some (iv ((val 0 ((dgsB l).take (j + 1)) : Nat) : Int)) := by
    rw [ibin_add (by omega) (by omega), val_take c3]; congr 3; omega
   have e3 : ibin .add (iv ((m + j : Nat) : Int)) (iv 1) = some (iv ((m + (j + 1) : Nat) : Int)) := by
    rw [ibin_add (by omega) (by omega)]; congr 3
   simp only [size_bs, g1, ix, ibin_cmp8, c4, c5, e1, hsub, hcv, e2, e3, RR]
   refine hR2 c3 ?_ _ (.refl _)
   intro c hc
   rw [List.take_succ_eq_append_getElem c3] at hc
   rcases List.mem_append.1 hc with hc | hc
   ·exact hH c hc
   ·rw [List.mem_singleton.1 hc]; exact ht
  ·obtain rfl : j = (dgsB l).length := by omega
   have g1 : ¬ ((m + (dgsB l).length : Nat) : Int) < (l.length : Int) := by omega
   rw [List.take_length] at hH ⊢
   have hok : parOk l = true := by
    unfold parOk
    rw [Bool.and_eq_true, Bool.and_eq_true, decide_eq_true_iff, decide_eq_true_iff, List.all_eq_true]
    exact ⟨⟨by omega, by omega⟩, hH⟩
   have hv := val_lt10 hH (by omega)
   simp only [size_bs, g1, jn, RR]
   by_cases c6 : (m : Int) = 1
   ·rw [decide_eq_true c6] at hs
    simp only [c6, aun_neg (v := ((val 0 (dgsB l) : Nat) : Int)) (by omega) (by omega), RR]
    exact fin _ hok (by unfold parV; rw [hs]; rfl)
   ·rw [decide_eq_false c6] at hs
    simp only [c6, RR]
    exact fin _ hok (by unfold parV; rw [hs]; rfl)
 ·intro k hk
  cases l with
  | nil =>
   simp only [size_bs, List.length_nil, RR]
   exact hk _ _ ⟨rfl, 0, rfl, by simp, rfl, rfl⟩
  | cons c r =>
   have ix := idxStr_bs (l := c :: r) (i := 0) (by simp)
   have g1 : (0 : Int) < ((c :: r).length : Int) := by simp only [List.length_cons]; omega
   have ix : idxStr (str (bs (c :: r))) (iv 0) = some (u8v (c.toNat : Nat)) := ix
   by_cases c1 : ((c.toNat : Nat) : Int) = 45
   ·have hs : sgnB (c :: r) = true := by unfold sgnB; simp; omega
    simp only [size_bs, g1, ix, ibin_cmp8, c1, RR]
    exact hk _ _ ⟨rfl, 1, rfl, by simp, by unfold dgsB; rw [hs]; rfl, hs⟩
   ·have hs : sgnB (c :: r) = false := by unfold sgnB; simp; omega
    simp only [size_bs, g1, ix, ibin_cmp8, c1, RR]
    exact hk _ _ ⟨rfl, 0, rfl, by simp, by unfold dgsB; rw [hs]; rfl, hs⟩
abbrev roB (ns : List Int) : AV := .ro (ns.map fun n => [u8v n])
abbrev Sr (ns : List Int) (t : Nat) : Fam := ⟨0, 2, [[roB ns, iv (t : Int)]]⟩
structure Bts (ns : List Int) : Prop where
 b : ∀ x, x ∈ ns → 0 ≤ x ∧ x ≤ 255
 l : ns.length ≤ 1048576
theorem ibin_rem {a b : Int} (h0 : 0 ≤ a) (hb : 0 < b) : ibin .rem (.val (.int .i64 a)) (.val (.int .i64 b)) = some (.val (.int .i64 (a % b))) := by
 have e : a.tmod b = a % b := Int.tmod_eq_emod_of_nonneg h0
 have hb' : ¬ b = 0 := by omega
 simp [ibin, binV, hb', e]
theorem ibin_quo {a b : Int} (h0 : 0 ≤ a) (hb : 0 < b) (h1 : a ≤ 9223372036854775807) : ibin .quo (.val (.int .i64 a)) (.val (.int .i64 b)) = some (.val (.int .i64 (a / b))) := by
 have e : a.tdiv b = a / b := Int.tdiv_eq_ediv_of_nonneg h0
 have hb' : ¬ b = 0 := by omega
 have h2 : a / b ≤ a := Int.ediv_le_self b h0
 have h3 : 0 ≤ a / b := Int.ediv_nonneg h0 (by omega)
 have hw : IntKind.i64.wrap (a / b) = a / b := i64_wrap (by omega) (by omega)
 simp [ibin, binV, hb', e, hw]
theorem convI_u8 {n : Int} (h0 : 0 ≤ n) (h1 : n ≤ 255) : convI .i64 (u8v n) = some (iv n) := by
 show some (AV.val (.int .i64 (IntKind.i64.wrap n))) = _
 rw [i64_wrap (by omega) (by omega)]
theorem quo_le {a b : Int} (h0 : 0 ≤ a) (hb : 0 < b) : 0 ≤ a / b ∧ a / b ≤ a := ⟨Int.ediv_nonneg h0 (by omega), Int.ediv_le_self b h0⟩
theorem c_spec_l1Next {φ t : Nat} {ns : List Int} {n : Int} (hF : σ φ = some (Sr ns t)) (hb : Bts ns) (ht : t ≤ 1000000) (hn : n ≤ 1000000)
  (h : ∀ v : Int, (n < 1 → v = 0) → (1 ≤ n → 0 ≤ v ∧ v < n) → R (.ret (iv v)) (σ.set φ (Sr ns (t + 1)))) : acall TP fn_spec_l1Next [.ptr φ 0 0 0, iv n] σ R := by
 have hl := hb.l
 refine s_spec_l1Next_ok ?_
 unfold s_spec_l1Next
 have e1 := lod_at (st := 0) (i := 0) (off := 1) (c := iv (t : Int)) hF rfl rfl
 have a1 : ibin .add (iv (t : Int)) (.val (.int .i64 1)) = some (iv ((t + 1 : Nat) : Int)) := by rw [ibin_add (by omega) (by omega)]; rfl
 simp only [e1, a1, RR]
 refine sto_fld (sz := 2) (off := 1) (i := 0) (cs := [roB ns, iv (t : Int)]) (v := iv ((t + 1 : Nat) : Int)) hF rfl (by omega) rfl rfl ?_
 simp only [List.set_cons_zero, List.set_cons_succ]
 have hF1 : (σ.set φ (Sr ns (t + 1))) φ = some (Sr ns (t + 1)) := AH.set_same ..
 by_cases c0 : n < 1
 ·simp only [c0, RR]; exact ret_here (h 0 (fun _ => rfl) (fun h => by omega))
 have sub1 : ibin .sub (iv ((t + 1 : Nat) : Int)) (.val (.int .i64 1)) = some (iv (t : Int)) := by
  rw [ibin_sub (by omega) (by omega)]; congr 3; omega
 have f1 := lod_at (st := 0) (i := 0) (off := 1) (c := iv ((t + 1 : Nat) : Int)) hF1 rfl rfl
 have f0 := lod_at (st := 0) (i := 0) (off := 0) (c := roB ns) hF1 rfl rfl
 have hlen : lenS (roB ns) = some (iv (ns.length : Int)) := by simp [lenS]
 have fin : ∀ v : Int, 0 ≤ v ∧ v < n → aret (iv v) (σ.set φ (Sr ns (t + 1))) R := fun v hv => ret_here (h v (fun h => by omega) (fun _ => hv))
 simp only [c0, f1, f0, sub1, hlen, RR]
 by_cases c1 : ns.length = 0
 ·have g : ((ns.length : Nat) : Int) = 0 := by omega
  have m := quo_le (a := (t : Int) * 7) (b := n) (by omega) (by omega)
  have r := Int.emod_lt_of_pos ((t : Int) * 7) (by omega : 0 < n)
  have r0 := Int.emod_nonneg ((t : Int) * 7) (by omega : n ≠ 0)
  simp only [g, ibin_mul (a := (t : Int)) (b := 7) (by omega) (by omega), ibin_rem (a := (t : Int) * 7) (b := n) (by omega) (by omega), RR]
  exact fin _ ⟨r0, r⟩
 have g : ¬ ((ns.length : Nat) : Int) = 0 := by omega
 have hk : (0 : Int) < (ns.length : Int) := by omega
 have at_ : ∀ a : Int, 0 ≤ a → ∃ p, idx 1 (roB ns) (iv (a % (ns.length : Int))) (σ.set φ (Sr ns (t + 1))) = some p ∧ ∃ b : Int, lod p (σ.set φ (Sr ns (t + 1))) = some (u8v b) ∧ 0 ≤ b ∧ b ≤ 255 := by
  intro a ha
  have q0 := Int.emod_nonneg a (by omega : (ns.length : Int) ≠ 0)
  have q1 := Int.emod_lt_of_pos a hk
  have hj : (a % (ns.length : Int)).toNat < ns.length := by omega
  have p1 := idx_ro (σ := σ.set φ (Sr ns (t + 1))) (enc := fun n => [u8v n]) (sz := 1) hj (fun _ => rfl)
  rw [show (((a % (ns.length : Int)).toNat : Nat) : Int) = a % (ns.length : Int) by omega] at p1
  exact ⟨_, p1, _, rfl, hb.b _ (List.getElem_mem hj)⟩
 obtain ⟨p, p1, b, p2, b0, b1⟩ := at_ (t : Int) (by omega)
 have dq := quo_le (a := (t : Int)) (b := (ns.length : Int)) (by omega) hk
 simp only [g, ibin_rem (a := (t : Int)) (b := (ns.length : Int)) (by omega) hk, p1, p2, convI_u8 b0 b1, ibin_quo (a := (t : Int)) (b := (ns.length : Int)) (by omega) hk (by omega),
  ibin_mul (a := (t : Int) / (ns.length : Int)) (b := 37) (by omega) (by omega), ibin_add (a := b) (b := (t : Int) / (ns.length : Int) * 37) (by omega) (by omega), jn, RR]
 have last : ∀ x : Int, 0 ≤ x → og (ibin .rem (.val (.int .i64 x)) (.val (.int .i64 n))) fun v70 => aret v70 (σ.set φ (Sr ns (t + 1))) R := by
  intro x hx
  rw [ibin_rem hx (by omega)]
  exact fin _ ⟨Int.emod_nonneg _ (by omega), Int.emod_lt_of_pos _ (by omega)⟩
 by_cases c2 : 200 < n
 ·obtain ⟨p', p1', b', p2', b0', b1'⟩ := at_ ((t : Int) + 1) (by omega)
  simp only [c2, f0, ibin_mul (a := b + (t : Int) / (ns.length : Int) * 37) (b := 251) (by omega) (by omega), ibin_add (a := (t : Int)) (b := 1) (by omega) (by omega),
   ibin_rem (a := (t : Int) + 1) (b := (ns.length : Int)) (by omega) hk, p1', p2', convI_u8 b0' b1', ibin_mul (a := b') (b := 13) (by omega) (by omega),
   ibin_add (a := (b + (t : Int) / (ns.length : Int) * 37) * 251) (b := b' * 13) (by omega) (by omega), ibin_add (a := (b + (t : Int) / (ns.length : Int) * 37) * 251 + b' * 13) (b := (t : Int)) (by omega) (by omega), RR]
  exact last _ (by omega)
 ·simp only [c2, RR]
  exact last _ (by omega)
theorem c_spec_l1Chance {φ t : Nat} {ns : List Int} {n : Int} (hF : σ φ = some (Sr ns t)) (hb : Bts ns) (ht : t ≤ 1000000) (hn : n ≤ 1000000)
  (h : ∀ b : Bool, R (.ret (bv b)) (σ.set φ (Sr ns (t + 1)))) : acall TP fn_spec_l1Chance [.ptr φ 0 0 0, iv n] σ R := by
 refine s_spec_l1Chance_ok ?_
 unfold s_spec_l1Chance
 refine c_spec_l1Next hF hb ht hn fun v _ _ => ?_
 simp only [RR]
 exact ret_here (h _)
theorem bsl_pick {φ t n : Nat} {ns xs : List Int} {ps : List (Nat × AV)} {K : AEnd → AH → Prop} (hF : σ φ = some (Sr ns t)) (hb : Bts ns) (ht : t ≤ 1000000) (he : afillS 1 (List.replicate n [iv 0]) ps = some (xs.map fun x => [iv x])) (hn : xs.length = n) (h0 : 0 < n) (h1 : n ≤ 1000)
  (h : ∀ v, v ∈ xs → K (.ret (iv v)) (σ.set φ (Sr ns (t + 1)))) : bsl 1 [iv 0] n ps σ fun v4 σ => acall TP fn_spec_l1Pick [.ptr φ 0 0 0, v4] σ K := by
 unfold bsl
 rw [he]
 refine ⟨by omega, ?_⟩
 rw [if_neg (by omega)]
 intro ψ hψ
 have hne : φ ≠ ψ := by rintro rfl; rw [hF] at hψ; cases hψ
 refine s_spec_l1Pick_ok ?_
 unfold s_spec_l1Pick
 have ln : lenS (.own ψ 0 0 n) = some (iv (n : Int)) := rfl
 simp only [ln, RR]
 refine c_spec_l1Next (t := t) (ns := ns) (by rw [AH.set_ne' hne]; exact hF) hb ht (by omega) fun v _ hv => ?_
 obtain ⟨v0, v1⟩ := hv (by omega)
 rw [AH.set_comm _ _ _ hne.symm]
 have hj : v.toNat < xs.length := by omega
 have p1 := idx_own (σ := (σ.set φ (Sr ns (t + 1))).set ψ ⟨0, 1, xs.map fun x => [iv x]⟩) (φ := ψ) (st := 0) (off := 0) (n := n) (sz := 1) (i := v.toNat) (es := xs.map fun x => [iv x]) (AH.set_same ..) (by omega)
 rw [show ((v.toNat : Nat) : Int) = v by omega, Nat.zero_add] at p1
 have p2 := lod_at (σ := (σ.set φ (Sr ns (t + 1))).set ψ ⟨0, 1, xs.map fun x => [iv x]⟩) (φ := ψ) (st := 0) (i := v.toNat) (off := 0) (c := iv xs[v.toNat]) (AH.set_same ..) rfl (by show ((xs.map fun x => [iv x]).getD v.toNat [])[0]? = _; rw [List.getD_eq_getElem?_getD, List.getElem?_map, List.getElem?_eq_getElem hj]; rfl)
 simp only [p1, p2, RR]
 exact aret_sub (.set (.refl _) _ (by rw [AH.set_ne' hne.symm]; exact hψ)) (h _ (List.getElem_mem hj))
theorem c_spec_l1Source {ns : List Int} (h : ∀ φ, σ φ = none → R (.ret (.ptr φ 0 0 0)) (σ.set φ (Sr ns 0))) : acall TP fn_spec_l1Source [roB ns] σ R := by
 refine s_spec_l1Source_ok ?_
 unfold s_spec_l1Source
 have e : bld [(.val (.slice none 0 0)), (.val (.int .i64 0))] [(0, 1), (1, 1)] [(0, roB ns)] = some (.agg [roB ns, iv 0]) := by simp [bld, afill, acells, spl, Value.cells]
 simp only [e, abox_agg, RR]
 intro φ hφ
 exact ret_here (h φ hφ)
theorem c_laws_lwBig {ns : List Int} (h : R (.ret (bv (decide (1048576 < ns.length)))) σ) : acall TP fn_laws_lwBig [roB ns] σ R := by
 refine s_laws_lwBig_ok ?_
 unfold s_laws_lwBig
 have hlen : lenS (roB ns) = some (iv (ns.length : Int)) := by simp [lenS]
 simp only [hlen, RR]
 refine ret_here ?_
 have e : decide ((1048576 : Int) < (ns.length : Int)) = decide (1048576 < ns.length) := by congr 1; exact propext (by omega)
 rw [e]; exact h
end Go.Proofs.YtbapalgndjiamaaGreatDoor.E
/- Tokens of a text: the plain law, and the reference's way. -/
namespace Go.Proofs.YtbapalgndjiamaaGreatDoor.E
open Go Go.RowKit
set_option maxRecDepth 100000
def skp : Bool → List UInt8 → Nat
 | _, [] => 0
 | true, c :: r => if c.toNat = 10 then skp false r + 1 else skp true r + 1
 | false, c :: r => if c.toNat = 59 then skp true r + 1 else if c.toNat = 32 ∨ c.toNat = 10 then skp false r + 1 else 0
def markB (c : UInt8) : Int := if c.toNat = 40 then 1 else if c.toNat = 41 then 2 else if c.toNat = 39 then 3 else 0
def wrd : List UInt8 → Nat
 | [] => 0
 | c :: r => if c.toNat = 32 ∨ c.toNat = 10 ∨ c.toNat = 59 ∨ markB c ≠ 0 then 0 else wrd r + 1
theorem skp_le : ∀ (l : List UInt8) (b : Bool), skp b l ≤ l.length := by
 intro l
 induction l with
 | nil => intro b; cases b <;> simp [skp]
 | cons c r ih =>
  intro b
  have h1 := ih true
  have h2 := ih false
  cases b <;> simp only [skp, List.length_cons] <;> (repeat' split) <;> omega
theorem wrd_le : ∀ l : List UInt8, wrd l ≤ l.length := by
 intro l
 induction l with
 | nil => simp [wrd]
 | cons c r ih => simp only [wrd, List.length_cons]; split <;> omega
theorem wrd_stop {c : UInt8} {r : List UInt8} (h : c.toNat = 32 ∨ c.toNat = 10 ∨ c.toNat = 59 ∨ markB c ≠ 0) : wrd (c :: r) = 0 := by rw [wrd, if_pos h]
theorem wrd_go {c : UInt8} {r : List UInt8} (h1 : ¬ c.toNat = 32) (h2 : ¬ c.toNat = 10) (h3 : ¬ c.toNat = 59) (h4 : markB c = 0) : wrd (c :: r) = wrd r + 1 := by
 rw [wrd, if_neg]
 rintro (a | a | a | a)
 ·exact h1 a
 ·exact h2 a
 ·exact h3 a
 ·exact a h4
structure Tok where
 kind : Int
 num : Int
 name : ByteArray
 deriving Inhabited
def encTok (x : Tok) : List AV := [iv x.kind, iv x.num, str x.name]
abbrev roT (xs : List Tok) : AV := .ro (xs.map encTok)
theorem len_encTok (x : Tok) : (encTok x).length = 3 := rfl
theorem one_encTok (x : Tok) : ∀ y, y ∈ encTok x → y.one = true := by
 intro y hy
 simp only [encTok, List.mem_cons, List.not_mem_nil, or_false] at hy
 rcases hy with rfl | rfl | rfl <;> rfl
def wordT (l : List UInt8) : Tok × Bool :=
 if isNum l then (⟨4, parV l, ⟨#[]⟩⟩, true) else if bs l = ⟨#[35, 116]⟩ then (⟨5, 1, ⟨#[]⟩⟩, true) else if bs l = ⟨#[35, 102]⟩ then (⟨5, 0, ⟨#[]⟩⟩, true) else (⟨6, 0, bs l⟩, symOk (bs l))
def toks (t : List UInt8) : Nat → Nat → List Tok → List Tok × Int × Nat
 | 0, _, out => (out, 0, 0)
 | f + 1, at_, out => match t.drop at_ with
  | [] => (out, 0, 0)
  | c :: r =>
   if markB c ≠ 0 then (if 120 ≤ out.length then ([], 2, at_) else toks t f (at_ + 1 + skp false (t.drop (at_ + 1))) (out ++ [⟨markB c, 0, ⟨#[]⟩⟩]))
   else if (wordT ((c :: r).take (wrd (c :: r)))).2 = false then ([], 5, at_)
   else if 120 ≤ out.length then ([], 2, at_)
   else toks t f (at_ + wrd (c :: r) + skp false (t.drop (at_ + wrd (c :: r)))) (out ++ [(wordT ((c :: r).take (wrd (c :: r)))).1])
def tokR (t : List UInt8) : List Tok × Int × Nat := if 400 < t.length then ([], 2, 0) else toks t (t.length + 1) (skp false t) []
variable [L : Lam]
variable {σ τ : AH} {R : AEnd → AH → Prop}
theorem fin_cell2 {φ n : Nat} {zs cs : List AV} {w : AV} (hφ : σ φ = none) (hz : zs.length = n) (hc : cs.length = n) (h1 : ∀ x, x ∈ cs → x.one = true) (h : R (.ret (.tup [.agg cs, w])) σ) :
  sto n (.ptr φ 0 0 0) (.agg cs) (σ.set φ ⟨0, n, [zs]⟩) fun σ => og (lodA n (.ptr φ 0 0 0) σ) fun r => aret (.tup [r, w]) σ R := by
 refine sto_own (es := [zs]) (cs := cs) (AH.set_same ..) (by simp) (by simpa using hz) rfl hc h1 ?_
 simp only [List.set_cons_zero, AH.set_set]
 have e := lodA_at (σ := σ.set φ ⟨0, n, [cs]⟩) (φ := φ) (st := 0) (i := 0) (n := n) (cs := cs) (AH.set_same ..) rfl rfl hc
 simp only [e, RR]
 exact aret_sub (.set (.refl σ) _ hφ) h
theorem push_rw {sz : Nat} {a x : AV} {es : List (List AV)} {z row : List AV} {k : AV → AH → Prop} (h : Buf τ sz a es) (he : afillS sz [z] [(0, x)] = some [row]) (hs : sz ≤ 1000) (hr : row.length = sz) (ho : ∀ y, y ∈ row → y.one = true) (hn : es.length + 1 ≤ 4294967296)
  (hk : ∀ a' τ', Buf τ' sz a' (es ++ [row]) → Kp (famL a) τ τ' → (∀ ψ, ψ ∈ famL a' → ψ ∈ famL a ∨ τ ψ = none) → k a' τ') : bsl sz z 1 [(0, x)] τ fun v τ => E.app sz a v τ k := by
 refine bsl1 he (by omega) fun ψ hψ => ?_
 have hs1 : AH.Sub τ (τ.set ψ ⟨0, sz, [row]⟩) := .set (.refl τ) _ hψ
 refine buf_app ((Kp.of_sub (F := []) hs1).buf h fun _ _ c => by cases c) ael1 (by intro c hc; obtain rfl := List.mem_singleton.1 hc; exact hr) (by intro c hc; obtain rfl := List.mem_singleton.1 hc; exact ho) (by simpa using hn) fun a' τ' hB hK hfam => hk a' τ' hB (fun χ hχ hn => ?_) fun χ hχ => ?_
 ·rw [hK χ hχ (by rw [AH.set_ne' (by rintro rfl; exact hn hψ)]; exact hn), AH.set_ne' (by rintro rfl; exact hn hψ)]
 ·rcases hfam χ hχ with c | c
  ·exact .inl c
  ·exact .inr (hs1.none c)
theorem ibin_eq8 (a b : Int) : ibin .eql (u8v a) (u8v b) = some (bv (decide (a = b))) := (ibin_cmp8 a b).2.2.2.2.1
theorem ibin_ne8 (a b : Int) : ibin .neq (u8v a) (u8v b) = some (bv (!decide (a = b))) := (ibin_cmp8 a b).2.2.2.2.2
theorem c_spec_l2Mark {c : UInt8} (h : R (.ret (iv (markB c))) σ) : acall TP fn_spec_l2Mark [u8v (c.toNat : Nat)] σ R := by
 refine s_spec_l2Mark_ok ?_
 unfold s_spec_l2Mark
 unfold markB at h
 simp only [ibin_eq8, RR]
 by_cases c1 : c.toNat = 40
 ·have g : ((c.toNat : Nat) : Int) = 40 := by omega
  rw [if_pos c1] at h
  simp only [g, RR]; exact ret_here h
 rw [if_neg c1] at h
 have g1 : ¬ ((c.toNat : Nat) : Int) = 40 := by omega
 by_cases c2 : c.toNat = 41
 ·have g : ((c.toNat : Nat) : Int) = 41 := by omega
  rw [if_pos c2] at h
  simp only [g, RR, show ¬ (41 : Int) = 40 by omega]; exact ret_here h
 rw [if_neg c2] at h
 have g2 : ¬ ((c.toNat : Nat) : Int) = 41 := by omega
 by_cases c3 : c.toNat = 39
 ·have g : ((c.toNat : Nat) : Int) = 39 := by omega
  rw [if_pos c3] at h
  simp only [g, RR, show ¬ (39 : Int) = 40 by omega, show ¬ (39 : Int) = 41 by omega]; exact ret_here h
 rw [if_neg c3] at h
 have g3 : ¬ ((c.toNat : Nat) : Int) = 39 := by omega
 simp only [g1, g2, g3, RR]; exact ret_here h
theorem c_spec_l2Skip {l : List UInt8} {p : Nat} (hp : p ≤ l.length) (hl : l.length ≤ 1048576) (h : R (.ret (iv ((p + skp false (l.drop p) : Nat) : Int))) σ) : acall TP fn_spec_l2Skip [str (bs l), iv (p : Int)] σ R := by
 refine s_spec_l2Skip_ok ?_
 unfold s_spec_l2Skip
 refine lp_by (fun n x τ => ∃ q : Nat, x = (str (bs l), iv (q : Int), ()) ∧ τ = σ ∧ l.length - q = n ∧ q ≤ l.length ∧ q + skp false (l.drop q) = p + skp false (l.drop p)) (l.length - p) ⟨p, rfl, rfl, rfl, hp, rfl⟩ ?_
 rintro n x τ ⟨q, rfl, rfl, rfl, hq, e⟩ R' hR'
 simp only [size_bs, RR]
 by_cases c : q < l.length
 ·have g : (q : Int) < (l.length : Int) := by omega
  have dc := List.drop_eq_getElem_cons c
  rw [dc] at e
  have up := ibin_up c (show l.length ≤ 9223372036854775807 by omega)
  simp only [g, idxStr_bs c, ibin_eq8, ibin_ne8, RR]
  by_cases c1 : l[q].toNat = 59
  ·have g1 : ((l[q].toNat : Nat) : Int) = 59 := by omega
   simp only [g1, RR]
   simp only [skp, c1, if_true] at e
   refine lp_by (fun n x τ' => ∃ r : Nat, x = (str (bs l), iv (r : Int), ()) ∧ τ' = τ ∧ l.length - r = n ∧ r ≤ l.length ∧ q ≤ r ∧ r + skp true (l.drop r) = p + skp false (l.drop p)) (l.length - q) ⟨q, rfl, rfl, rfl, hq, Nat.le_refl _, ?_⟩ ?_
   ·rw [dc]; simp only [skp, c1, show ¬ (59 : Nat) = 10 by omega, if_false]; omega
   rintro n x τ' ⟨r, rfl, rfl, rfl, hr, hqr, e2⟩ R2 hR2
   simp only [size_bs, RR]
   by_cases c2 : r < l.length
   ·have g2 : (r : Int) < (l.length : Int) := by omega
    have dr := List.drop_eq_getElem_cons c2
    rw [dr] at e2
    have up2 := ibin_up c2 (show l.length ≤ 9223372036854775807 by omega)
    simp only [g2, idxStr_bs c2, ibin_ne8, RR]
    by_cases c3 : l[r].toNat = 10
    ·have g3 : ((l[r].toNat : Nat) : Int) = 10 := by omega
     simp only [g3, RR]
     simp only [skp, c3, if_true] at e2
     have hne : q ≠ r := by rintro rfl; omega
     refine hR' _ _ (l.length - r) τ' (by omega) (.refl _) ⟨r, rfl, rfl, rfl, hr, ?_⟩
     rw [dr]; simp only [skp, c3, show ¬ (10 : Nat) = 59 by omega, if_false, or_true, if_true]; omega
    ·have g3 : ¬ ((l[r].toNat : Nat) : Int) = 10 := by omega
     simp only [g3, up2, RR]
     simp only [skp, c3, if_false] at e2
     exact hR2 _ _ (l.length - (r + 1)) τ' (by omega) (.refl _) ⟨r + 1, rfl, rfl, rfl, c2, by omega, by omega⟩
   ·have g2 : ¬ (r : Int) < (l.length : Int) := by omega
    have hrl : r = l.length := by omega
    subst hrl
    simp only [g2, RR]
    simp only [List.drop_length, skp] at e2
    refine hR' _ _ (l.length - l.length) τ' (by omega) (.refl _) ⟨l.length, rfl, rfl, rfl, hr, ?_⟩
    simp only [List.drop_length, skp]; omega
  ·have g1 : ¬ ((l[q].toNat : Nat) : Int) = 59 := by omega
   simp only [g1, RR]
   by_cases c2 : l[q].toNat = 32
   ·have g2 : ((l[q].toNat : Nat) : Int) = 32 := by omega
    simp only [g2, up, RR]
    simp only [skp, c2, show ¬ (32 : Nat) = 59 by omega, if_false, true_or, if_true] at e
    exact hR' _ _ (l.length - (q + 1)) τ (by omega) (.refl _) ⟨q + 1, rfl, rfl, rfl, c, by omega⟩
   have g2 : ¬ ((l[q].toNat : Nat) : Int) = 32 := by omega
   by_cases c3 : l[q].toNat = 10
   ·have g3 : ((l[q].toNat : Nat) : Int) = 10 := by omega
    simp only [g2, idxStr_bs c, ibin_ne8, g3, show ¬ (10 : Int) = 32 by omega, up, RR]
    simp only [skp, c3, show ¬ (10 : Nat) = 59 by omega, if_false, or_true, if_true] at e
    exact hR' _ _ (l.length - (q + 1)) τ (by omega) (.refl _) ⟨q + 1, rfl, rfl, rfl, c, by omega⟩
   have g3 : ¬ ((l[q].toNat : Nat) : Int) = 10 := by omega
   simp only [g2, idxStr_bs c, ibin_ne8, g3, RR]
   simp only [skp, c1, c2, c3, if_false, or_self] at e
   rw [← e] at h
   exact ret_here (by simpa using h)
 ·have g : ¬ (q : Int) < (l.length : Int) := by omega
  have hql : q = l.length := by omega
  subst hql
  simp only [g, RR]
  simp only [List.drop_length, skp] at e
  rw [← e] at h
  exact ret_here (by simpa using h)
theorem c_spec_l2End {l : List UInt8} {p : Nat} (hp : p ≤ l.length) (hl : l.length ≤ 1048576) (h : R (.ret (iv ((p + wrd (l.drop p) : Nat) : Int))) σ) : acall TP fn_spec_l2End [str (bs l), iv (p : Int)] σ R := by
 refine s_spec_l2End_ok ?_
 unfold s_spec_l2End
 refine lp_by (fun n x τ => ∃ q : Nat, x = (str (bs l), iv (q : Int), ()) ∧ τ = σ ∧ l.length - q = n ∧ q ≤ l.length ∧ q + wrd (l.drop q) = p + wrd (l.drop p)) (l.length - p) ⟨p, rfl, rfl, rfl, hp, rfl⟩ ?_
 rintro n x τ ⟨q, rfl, rfl, rfl, hq, e⟩ R' hR'
 refine jn_by (P := fun x τ' => τ' = τ ∧ ∃ b, x = (str (bs l), iv (q : Int), bv b, ()) ∧ (b = true → q < l.length ∧ wrd (l.drop q) = wrd (l.drop (q + 1)) + 1) ∧ (b = false → wrd (l.drop q) = 0)) ?_ ?_
 ·rintro x τ' ⟨rfl, b, rfl, h1, h0⟩
  cases b with
  | true =>
   obtain ⟨h1, h2⟩ := h1 rfl
   simp only [ibin_up h1 (show l.length ≤ 9223372036854775807 by omega), RR]
   exact hR' _ _ (l.length - (q + 1)) τ' (by omega) (.refl _) ⟨q + 1, rfl, rfl, rfl, h1, by omega⟩
  | false =>
   rw [h0 rfl] at e
   rw [← e] at h
   simp only [RR]
   exact ret_here h
 intro k hk
 by_cases c : q < l.length
 ·have g : (q : Int) < (l.length : Int) := by omega
  have dc := List.drop_eq_getElem_cons c
  have stop : (l[q].toNat = 32 ∨ l[q].toNat = 10 ∨ l[q].toNat = 59 ∨ markB l[q] ≠ 0) → k (str (bs l), iv (q : Int), bv false, ()) τ := fun hc =>
   hk _ _ ⟨rfl, false, rfl, (fun x => by cases x), fun _ => by rw [dc]; exact wrd_stop hc⟩
  simp only [size_bs, g, idxStr_bs c, ibin_ne8, RR]
  by_cases c1 : l[q].toNat = 32
  ·have g1 : ((l[q].toNat : Nat) : Int) = 32 := by omega
   simp only [g1, RR]; exact stop (.inl c1)
  have g1 : ¬ ((l[q].toNat : Nat) : Int) = 32 := by omega
  simp only [g1, idxStr_bs c, ibin_ne8, RR]
  by_cases c2 : l[q].toNat = 10
  ·have g2 : ((l[q].toNat : Nat) : Int) = 10 := by omega
   simp only [g2, RR]; exact stop (.inr (.inl c2))
  have g2 : ¬ ((l[q].toNat : Nat) : Int) = 10 := by omega
  simp only [g2, idxStr_bs c, ibin_ne8, RR]
  by_cases c3 : l[q].toNat = 59
  ·have g3 : ((l[q].toNat : Nat) : Int) = 59 := by omega
   simp only [g3, RR]; exact stop (.inr (.inr (.inl c3)))
  have g3 : ¬ ((l[q].toNat : Nat) : Int) = 59 := by omega
  simp only [g3, idxStr_bs c, RR]
  refine c_spec_l2Mark ?_
  simp only [RR]
  by_cases c4 : markB l[q] = 0
  ·simp only [c4, RR]
   exact hk _ _ ⟨rfl, true, rfl, (fun _ => ⟨c, by rw [dc]; exact wrd_go c1 c2 c3 c4⟩), fun x => by cases x⟩
  ·simp only [c4, RR]; exact stop (.inr (.inr (.inr c4)))
 ·have g : ¬ (q : Int) < (l.length : Int) := by omega
  have hql : q = l.length := by omega
  subst hql
  simp only [size_bs, g, RR]
  exact hk _ _ ⟨rfl, false, rfl, (fun x => by cases x), fun _ => by rw [List.drop_length, wrd]⟩
theorem bldT (k n : Int) (s : ByteArray) : bld [iv 0, iv 0, str ⟨#[]⟩] [(0, 1), (1, 1), (2, 1)] [(0, iv k), (1, iv n)] = some (.agg (encTok ⟨k, n, ⟨#[]⟩⟩)) ∧ bld [iv 0, iv 0, str ⟨#[]⟩] [(0, 1), (1, 1), (2, 1)] [(0, iv k)] = some (.agg (encTok ⟨k, 0, ⟨#[]⟩⟩)) ∧
  bld [iv 0, iv 0, str ⟨#[]⟩] [(0, 1), (1, 1), (2, 1)] [(0, iv k), (2, str s)] = some (.agg (encTok ⟨k, 0, s⟩)) := ⟨rfl, rfl, rfl⟩
theorem c_spec_l2Word {l : List UInt8} (hl : l.length ≤ 1048576) (h : R (.ret (.tup [.agg (encTok (wordT l).1), bv (wordT l).2])) σ) : acall TP fn_spec_l2Word [str (bs l)] σ R := by
 refine s_spec_l2Word_ok ?_
 unfold s_spec_l2Word
 intro φ hφ
 have rest : isNum l = false → (og (sbin .eql (str (bs l)) (.val (.string ⟨#[35, 116]⟩))) fun v15 =>
  apick v15 (
   og (bld [iv 0, iv 0, str ⟨#[]⟩] [(0, 1), (1, 1), (2, 1)] [(0, iv 5), (1, iv 1)]) fun v16 =>
   sto 3 (.ptr φ 0 0 0) v16 (σ.set φ ⟨0, 3, [[iv 0, iv 0, str ⟨#[]⟩]]⟩) fun σ =>
   og (lodA 3 (.ptr φ 0 0 0) σ) fun r2 =>
   aret (.tup [r2, bv true]) σ R) (
   og (sbin .eql (str (bs l)) (.val (.string ⟨#[35, 102]⟩))) fun v18 =>
   apick v18 (
    og (bld [iv 0, iv 0, str ⟨#[]⟩] [(0, 1), (1, 1), (2, 1)] [(0, iv 5)]) fun v19 =>
    sto 3 (.ptr φ 0 0 0) v19 (σ.set φ ⟨0, 3, [[iv 0, iv 0, str ⟨#[]⟩]]⟩) fun σ =>
    og (lodA 3 (.ptr φ 0 0 0) σ) fun r2 =>
    aret (.tup [r2, bv true]) σ R) (
    og (bld [iv 0, iv 0, str ⟨#[]⟩] [(0, 1), (1, 1), (2, 1)] [(0, iv 6), (2, str (bs l))]) fun v21 =>
    acall TP fn_spec_l2Sym [str (bs l)] (σ.set φ ⟨0, 3, [[iv 0, iv 0, str ⟨#[]⟩]]⟩) (onr (fun v23 σ =>
    sto 3 (.ptr φ 0 0 0) v21 σ fun σ =>
    og (lodA 3 (.ptr φ 0 0 0) σ) fun r2 =>
    aret (.tup [r2, v23]) σ R) (fun v σ => apan v σ R))))) := fun hn => by
  unfold wordT at h
  rw [hn] at h
  simp only [Bool.false_eq_true, if_false] at h
  simp only [sbin_eql', RR]
  by_cases c1 : bs l = ⟨#[35, 116]⟩
  ·rw [if_pos c1] at h
   simp only [c1, (bldT 5 1 ⟨#[]⟩).1, RR]
   exact fin_cell2 hφ rfl rfl (one_encTok _) h
  rw [if_neg c1] at h
  by_cases c2 : bs l = ⟨#[35, 102]⟩
  ·rw [if_pos c2] at h
   have c1' : ¬ (⟨#[35, 102]⟩ : ByteArray) = ⟨#[35, 116]⟩ := by rw [← c2]; exact c1
   simp only [c2, c1', (bldT 5 1 ⟨#[]⟩).2.1, RR]
   exact fin_cell2 hφ rfl rfl (one_encTok _) h
  rw [if_neg c2] at h
  simp only [c1, c2, (bldT 6 1 (bs l)).2.2, RR]
  refine c_spec_l2Sym (by rw [size_bs]; omega) ?_
  simp only [RR]
  exact fin_cell2 hφ rfl rfl (one_encTok _) h
 refine c_spec_l1Parse hl (fun hp => ?_) fun hp => ?_
 ·have e0 : aext (.tup [iv (parV l), bv (inB (-1000000000) 1000000000 (parV l) && decide (itB (parV l) = bs l))]) 0 = some (iv (parV l)) := rfl
  have e1 : aext (.tup [iv (parV l), bv (inB (-1000000000) 1000000000 (parV l) && decide (itB (parV l) = bs l))]) 1 = some (bv (inB (-1000000000) 1000000000 (parV l) && decide (itB (parV l) = bs l))) := rfl
  simp only [e0, e1, RR]
  have en : isNum l = (inB (-1000000000) 1000000000 (parV l) && decide (itB (parV l) = bs l)) := by unfold isNum; rw [hp, Bool.true_and]
  cases c : (inB (-1000000000) 1000000000 (parV l) && decide (itB (parV l) = bs l)) with
  | true =>
   unfold wordT at h
   rw [en, c] at h
   simp only [if_true] at h
   simp only [(bldT 4 (parV l) ⟨#[]⟩).1, RR]
   exact fin_cell2 hφ rfl rfl (one_encTok _) h
  | false =>
   simp only [RR]
   exact rest (by rw [en, c])
 ·have e0 : aext (.tup [iv 0, bv false]) 0 = some (iv 0) := rfl
  have e1 : aext (.tup [iv 0, bv false]) 1 = some (bv false) := rfl
  simp only [e0, e1, RR]
  exact rest (by unfold isNum; rw [hp]; rfl)
end Go.Proofs.YtbapalgndjiamaaGreatDoor.E
/- Tokens of a text: the reference's way, all of it. -/
namespace Go.Proofs.YtbapalgndjiamaaGreatDoor.E
open Go Go.RowKit
set_option maxRecDepth 100000
theorem skp_zero {c : UInt8} {r : List UInt8} (h : skp false (c :: r) = 0) : ¬ c.toNat = 59 ∧ ¬ c.toNat = 32 ∧ ¬ c.toNat = 10 := by
 rw [skp] at h
 refine ⟨fun c1 => ?_, fun c1 => ?_, fun c1 => ?_⟩
 ·rw [if_pos c1] at h; omega
 ·rw [if_neg (by omega), if_pos (.inl c1)] at h; omega
 ·rw [if_neg (by omega), if_pos (.inr c1)] at h; omega
theorem skp_idem : ∀ (l : List UInt8) (b : Bool), skp false (l.drop (skp b l)) = 0 := by
 intro l
 induction l with
 | nil => intro b; cases b <;> rfl
 | cons c r ih =>
  intro b
  cases b with
  | true =>
   rw [skp]
   split
   ·rw [List.drop_succ_cons]; exact ih false
   ·rw [List.drop_succ_cons]; exact ih true
  | false =>
   rw [skp]
   split
   ·rw [List.drop_succ_cons]; exact ih true
   ·split
    ·rw [List.drop_succ_cons]; exact ih false
    ·rename_i h1 h2
     rw [List.drop_zero, skp, if_neg h1, if_neg h2]
theorem skp_at (t : List UInt8) (q : Nat) : skp false (t.drop (q + skp false (t.drop q))) = 0 := by
 rw [← List.drop_drop]; exact skp_idem _ _
variable [L : Lam]
variable {σ τ : AH} {R : AEnd → AH → Prop}
theorem slc_midI {l : List UInt8} {a b : Nat} (h1 : a ≤ b) (h2 : b ≤ l.length) : slcStr (str (bs l)) (some (iv (a : Int))) (some (iv (b : Int))) = some (str (bs ((l.drop a).take (b - a)))) := by
 have e1 : abd (some (iv (a : Int))) 0 = some a := abd_nat _ _
 have e2 : abd (some (iv (b : Int))) (bs l).size = some b := abd_nat _ _
 simp only [slcStr, e1, e2]
 rw [if_pos ⟨h1, by rw [size_bs]; exact h2⟩]
 congr 3
 apply ByteArray.ext
 rw [ByteArray.data_extract]
 simp [List.drop_take]
theorem afill1 {x : Tok} : afillS 3 [[iv 0, iv 0, str ⟨#[]⟩]] [(0, .agg (encTok x))] = some [encTok x] := rfl
theorem ret_no {a b : AV} (hs : AH.Sub σ τ) (h : R (.ret (.tup [.ro [], a, b])) σ) : aret (.tup [.val (.slice none 0 0), a, b]) τ R := by
 refine aret_freeze (a' := .tup [.ro [], a, b]) hs (.tup rfl fun j hj => ?_) h
 match j, hj with
 | 0, _ => exact .nil
 | 1, _ => exact .same _
 | 2, _ => exact .same _
theorem fin_cellZ {φ n : Nat} {zs cs cs' : List AV} (hφ : σ φ = none) (hz : zs.length = n) (hc : cs.length = n) (h1 : ∀ x, x ∈ cs → x.one = true) (hl : cs.length = cs'.length) (hf : ∀ i, i < cs.length → Fz σ (σ.set φ ⟨0, n, [cs]⟩) (cs.getD i .any) (cs'.getD i .any)) (h : R (.ret (.agg cs')) σ) :
  sto n (.ptr φ 0 0 0) (.agg cs) (σ.set φ ⟨0, n, [zs]⟩) fun σ => og (lodA n (.ptr φ 0 0 0) σ) fun r => aret r σ R := by
 refine sto_own (es := [zs]) (cs := cs) (AH.set_same ..) (by simp) (by simpa using hz) rfl hc h1 ?_
 simp only [List.set_cons_zero, AH.set_set]
 have e := lodA_at (σ := σ.set φ ⟨0, n, [cs]⟩) (φ := φ) (st := 0) (i := 0) (n := n) (cs := cs) (AH.set_same ..) rfl rfl hc
 simp only [e, RR]
 exact aret_freeze (.set (.refl σ) _ hφ) (.agg hl hf) h
theorem c_spec_l2Tokens {t : List UInt8} (hl : t.length ≤ 400) (h : R (.ret (.tup [roT (toks t (t.length + 1) (skp false t) []).1, iv (toks t (t.length + 1) (skp false t) []).2.1, iv ((toks t (t.length + 1) (skp false t) []).2.2 : Nat)])) σ) : acall TP fn_spec_l2Tokens [str (bs t)] σ R := by
 refine s_spec_l2Tokens_ok ?_
 unfold s_spec_l2Tokens
 refine bsl0 ?_
 refine c_spec_l2Skip (p := 0) (Nat.zero_le _) (by omega) ?_
 simp only [RR, List.drop_zero]
 generalize hE : toks t (t.length + 1) (skp false t) [] = E at h
 refine lp_by (fun f x τ => ∃ (p : Nat) (ts : List Tok) (u : AV), x = (str (bs t), u, iv (p : Int), ()) ∧ Buf τ 3 u (ts.map encTok) ∧ AH.Sub σ τ ∧ (∀ ψ, ψ ∈ famL u → σ ψ = none) ∧ toks t f p ts = E ∧ ts.length ≤ 120 ∧ p ≤ t.length ∧ t.length + 1 ≤ f + p ∧ skp false (t.drop p) = 0) (t.length + 1)
  ⟨skp false t, [], .emp, rfl, .inl ⟨.inr rfl, rfl⟩, .refl σ, (fun ψ c => by cases c), hE, by simp, skp_le t false, by omega, skp_idem t false⟩ ?_
 rintro f x τ ⟨p, ts, u, rfl, hB, hs, hf, he, hn, hp, hfp, hz⟩ R' hR'
 simp only [size_bs, RR]
 obtain ⟨f, rfl⟩ : ∃ g, f = g + 1 := ⟨f - 1, by omega⟩
 by_cases c : p < t.length
 ·have g : (p : Int) < (t.length : Int) := by omega
  have dc := List.drop_eq_getElem_cons c
  rw [toks, dc] at he
  dsimp only at he
  rw [dc] at hz
  obtain ⟨z1, z2, z3⟩ := skp_zero hz
  simp only [g, idxStr_bs c, RR]
  refine c_spec_l2Mark ?_
  simp only [(bldT (markB t[p]) 0 ⟨#[]⟩).2.1, ibin_up c (show t.length ≤ 9223372036854775807 by omega), RR]
  intro φ hφ
  refine sto_own (es := [[iv 0, iv 0, str ⟨#[]⟩]]) (cs := encTok ⟨markB t[p], 0, ⟨#[]⟩⟩) (AH.set_same ..) (by simp) rfl rfl rfl (one_encTok _) ?_
  simp only [List.set_cons_zero, AH.set_set]
  refine jn_by (P := fun x τ' => ∃ (q : Nat) (tk : Tok), x = (str (bs t), u, iv (q : Int), iv (p : Int), .ptr φ 0 0 0, ()) ∧ τ' = τ.set φ ⟨0, 3, [encTok tk]⟩ ∧ (120 ≤ ts.length → E = ([], 2, p)) ∧ (ts.length < 120 → toks t f (q + skp false (t.drop q)) (ts ++ [tk]) = E) ∧ q ≤ t.length ∧ p < q) ?_ ?_
  ·rintro x τ' ⟨q, tk, rfl, rfl, h1, h2, h3, h4⟩
   refine frz_cell hφ rfl ?_
   have hlen : lenS u = some (iv (ts.length : Int)) := by have := buf_len hB; simpa using this
   simp only [hlen, RR]
   by_cases cm : 120 ≤ ts.length
   ·have gm : (120 : Int) ≤ (ts.length : Int) := by omega
    simp only [gm, RR]
    rw [h1 cm] at h
    exact ret_no hs h
   ·have gm : ¬ (120 : Int) ≤ (ts.length : Int) := by omega
    simp only [gm, lodA_all (len_encTok tk), RR]
    refine push_rw (row := encTok tk) hB afill1 (by omega) rfl (one_encTok tk) (by simp; omega) fun u' τ2 hB' hK hfam => ?_
    refine c_spec_l2Skip h3 (by omega) ?_
    simp only [RR]
    have hsk := skp_le (t.drop q) false
    rw [List.length_drop] at hsk
    refine hR' _ _ f τ2 (by omega) (.refl _) ⟨q + skp false (t.drop q), ts ++ [tk], u', rfl, by simpa using hB', hK.sub hs hf, fun ψ hψ => (hfam ψ hψ).elim (hf ψ) fun d => hs.none d, h2 (by omega), by simp; omega, by omega, by omega, skp_at t q⟩
  ·intro k hk
   have hF : (τ.set φ ⟨0, 3, [encTok ⟨markB t[p], 0, ⟨#[]⟩⟩]⟩) φ = some ⟨0, 3, [encTok ⟨markB t[p], 0, ⟨#[]⟩⟩]⟩ := AH.set_same ..
   have el := lod_at (st := 0) (i := 0) (off := 0) (c := iv (markB t[p])) hF rfl rfl
   simp only [el, RR]
   by_cases cm : markB t[p] = 0
   ·rw [if_neg (by simp [cm])] at he
    simp only [cm, RR]
    refine c_spec_l2End hp (by omega) ?_
    rw [dc]
    have hw := wrd_le (t[p] :: t.drop (p + 1))
    have hw1 : 1 ≤ wrd (t[p] :: t.drop (p + 1)) := by rw [wrd_go z2 z3 z1 cm]; omega
    have hlc : (t[p] :: t.drop (p + 1)).length = t.length - p := by rw [← dc, List.length_drop]
    generalize hW : wrd (t[p] :: t.drop (p + 1)) = W at *
    simp only [RR]
    rw [slc_midI (a := p) (b := p + W) (by omega) (by omega), show p + W - p = W by omega, dc]
    simp only [RR]
    refine c_spec_l2Word (by rw [List.length_take]; omega) ?_
    generalize wordT ((t[p] :: t.drop (p + 1)).take W) = wt at *
    have e0 : aext (.tup [.agg (encTok wt.1), bv wt.2]) 0 = some (.agg (encTok wt.1)) := rfl
    have e1 : aext (.tup [.agg (encTok wt.1), bv wt.2]) 1 = some (bv wt.2) := rfl
    simp only [e0, e1, RR]
    intro φ9 h9
    refine sto_own (es := [[iv 0, iv 0, str ⟨#[]⟩]]) (cs := encTok wt.1) (AH.set_same ..) (by simp) rfl rfl rfl (one_encTok _) ?_
    simp only [List.set_cons_zero, AH.set_set]
    refine frz_cell h9 rfl ?_
    cases hw2 : wt.2 with
    | false =>
     rw [if_pos hw2] at he
     rw [← he] at h
     simp only [RR]
     exact ret_no (.set hs _ (hs.none hφ)) h
    | true =>
     rw [if_neg (by rw [hw2]; simp)] at he
     simp only [lodA_all (len_encTok wt.1), RR]
     refine sto_own (es := [encTok ⟨0, 0, ⟨#[]⟩⟩]) (cs := encTok wt.1) (by rw [AH.set_same]) (by simp) rfl rfl rfl (one_encTok _) ?_
     simp only [List.set_cons_zero, AH.set_set]
     refine hk _ _ ⟨p + W, wt.1, rfl, rfl, fun c2 => ?_, fun c2 => ?_, by omega, by omega⟩
     ·rw [if_pos c2] at he; exact he.symm
     ·rw [if_neg (by omega)] at he; exact he
   ·rw [if_pos (by simpa using cm)] at he
    simp only [cm, RR]
    refine hk _ _ ⟨p + 1, ⟨markB t[p], 0, ⟨#[]⟩⟩, rfl, rfl, fun c2 => ?_, fun c2 => ?_, by omega, by omega⟩
    ·rw [if_pos c2] at he; exact he.symm
    ·rw [if_neg (by omega)] at he; exact he
 ·have g : ¬ (p : Int) < (t.length : Int) := by omega
  obtain rfl : p = t.length := by omega
  rw [toks, List.drop_length] at he
  dsimp only at he
  rw [← he] at h
  simp only [g, RR]
  refine aret_freeze (a' := .tup [roT ts, iv 0, iv 0]) hs (.tup rfl fun j hj => ?_) h
  match j, hj with
  | 0, _ => exact fz_row hB hf rfl (by intro c hc; obtain ⟨o, _, rfl⟩ := List.mem_map.1 hc; rfl) fun _ _ _ _ => .same _
  | 1, _ => exact .same _
  | 2, _ => exact .same _
theorem bldTR (c a : Int) (es : List (List AV)) : bld [iv 0, iv 0, .val (.slice none 0 0)] [(0, 1), (1, 1), (2, 1)] [(0, iv c), (1, iv a), (2, .ro es)] = some (.agg [iv c, iv a, .ro es]) := rfl
theorem c_spec_TokensOf {t : List UInt8} (hl : t.length ≤ 1048576) (h : R (.ret (.agg [iv (tokR t).2.1, iv ((tokR t).2.2 : Nat), roT (tokR t).1])) σ) : acall TP fn_spec_TokensOf [str (bs t)] σ R := by
 refine s_spec_TokensOf_ok ?_
 unfold s_spec_TokensOf
 intro φ hφ
 unfold tokR at h
 simp only [size_bs, RR]
 by_cases c : 400 < t.length
 ·have g : (400 : Int) < (t.length : Int) := by omega
  rw [if_pos c] at h
  have e : bld [iv 0, iv 0, .val (.slice none 0 0)] [(0, 1), (1, 1), (2, 1)] [(0, iv 2)] = some (.agg [iv 2, iv 0, .val (.slice none 0 0)]) := rfl
  simp only [g, e, RR]
  refine fin_cellZ (cs' := [iv 2, iv 0, roT []]) hφ rfl rfl (by intro x hx; simp at hx; rcases hx with rfl | rfl | rfl <;> rfl) rfl (fun j hj => ?_) h
  match j, hj with
  | 0, _ => exact .same _
  | 1, _ => exact .same _
  | 2, _ => exact .nil
 ·have g : ¬ (400 : Int) < (t.length : Int) := by omega
  rw [if_neg c] at h
  simp only [g, RR]
  refine c_spec_l2Tokens (by omega) ?_
  generalize toks t (t.length + 1) (skp false t) [] = E at h ⊢
  have e0 : aext (.tup [roT E.1, iv E.2.1, iv (E.2.2 : Nat)]) 0 = some (roT E.1) := rfl
  have e1 : aext (.tup [roT E.1, iv E.2.1, iv (E.2.2 : Nat)]) 1 = some (iv E.2.1) := rfl
  have e2 : aext (.tup [roT E.1, iv E.2.1, iv (E.2.2 : Nat)]) 2 = some (iv (E.2.2 : Nat)) := rfl
  simp only [e0, e1, e2, bldTR, RR]
  exact fin_cell hφ rfl rfl (by intro x hx; simp at hx; rcases hx with rfl | rfl | rfl <;> rfl) h
end Go.Proofs.YtbapalgndjiamaaGreatDoor.E
/- Cores that are made to code: the plain law. No program in sight. -/
namespace Go.Proofs.YtbapalgndjiamaaGreatDoor.E
open Go Go.RowKit
def corAt (cs : List Cor) (i : Nat) : Cor := cs.getD i default
def kidsC (cs : List Cor) (x : Nat) : List Nat := (List.range cs.length).filter fun i => decide ((corAt cs i).parent = (x : Int))
abbrev St := List (Int × List OpD)
def putS (B : St) (i : Nat) (o : OpD) : St := B.modify i fun p => (p.1, p.2 ++ [o])
def setS (B : St) (i k : Nat) (a : Int) : St := B.modify i fun p => (p.1, p.2.modify k fun o => { o with a := a })
def lenS' (B : St) (i : Nat) : Nat := (B.getD i (0, [])).2.length
def oc0 (k : Int) : OpD := ⟨k, 0, 0, 0, 0, ⟨#[]⟩, []⟩
def ocA (k a : Int) : OpD := ⟨k, a, 0, 0, 0, ⟨#[]⟩, []⟩
def ocAB (k a b : Int) : OpD := ⟨k, a, b, 0, 0, ⟨#[]⟩, []⟩
def ocN (k : Int) (s : ByteArray) : OpD := ⟨k, 0, 0, 0, 0, s, []⟩
def ocD (k : Int) (d : List Dat) : OpD := ⟨k, 0, 0, 0, 0, ⟨#[]⟩, d⟩
def endS (B : St) (i : Nat) (e : Bool) : St := if e then putS B i (oc0 12) else B
def manyS (g : Nat → St → St) (h : St → St) : List Nat → St → St
 | [], B => B
 | k :: r, B => manyS g h r (h (g k B))
def mkC (cs : List Cor) : Nat → Nat → Nat → Bool → St → St
 | 0, _, _, _, B => B
 | f + 1, x, i, e, B =>
  let c := corAt cs x
  let ks := kidsC cs x
  if c.kind = 1 then endS (putS B i (ocD 1 c.data)) i e
  else if c.kind = 2 then endS (putS B i (ocAB 2 c.a c.b)) i e
  else if c.kind = 3 then endS (putS B i (ocN 3 c.name)) i e
  else if c.kind = 5 then endS (mkC cs f (ks.getD 0 0) B.length true (putS (B ++ [(c.a, [])]) i (ocA 4 (B.length : Int)))) i e
  else if c.kind = 7 ∨ c.kind = 8 then endS (putS (mkC cs f (ks.getD 0 0) i false B) i (ocN (c.kind - 7 + 8) c.name)) i e
  else if c.kind = 4 then
   let B1 := mkC cs f (ks.getD 0 0) i false B
   let B2 := mkC cs f (ks.getD 1 0) i e (putS B1 i (oc0 6))
   let B3 := if e then B2 else putS B2 i (oc0 5)
   let B4 := setS B3 i (lenS' B1 i) (lenS' B3 i : Int)
   let B5 := mkC cs f (ks.getD 2 0) i e B4
   if e then B5 else setS B5 i (lenS' B2 i) (lenS' B5 i : Int)
  else if c.kind = 6 then mkC cs f (ks.getLastD 0) i e (manyS (fun k B => mkC cs f k i false B) (fun B => putS B i (oc0 7)) ks.dropLast B)
  else putS (manyS (fun k B => mkC cs f k i false B) id ks B) i (ocA (if e then 11 else 10) ((ks.length : Int) - 1))
theorem getD_modify {X : Type} (l : List X) (i j : Nat) (f : X → X) (d : X) : (l.modify i f).getD j d = if i = j ∧ j < l.length then f (l.getD j d) else l.getD j d := by
 simp only [List.getD, List.getElem?_modify]
 by_cases h : i = j
 ·subst h
  by_cases h2 : i < l.length
  ·simp [h2]
  ·simp [h2]
 ·simp [h]
theorem len_put (B : St) (i : Nat) (o : OpD) : (putS B i o).length = B.length := by simp [putS]
theorem len_set (B : St) (i k : Nat) (a : Int) : (setS B i k a).length = B.length := by simp [setS]
theorem lenS_put (B : St) (i j : Nat) (o : OpD) : lenS' (putS B i o) j = if i = j ∧ j < B.length then lenS' B j + 1 else lenS' B j := by
 unfold lenS' putS
 rw [getD_modify]
 split <;> simp
theorem lenS_set (B : St) (i j k : Nat) (a : Int) : lenS' (setS B i k a) j = lenS' B j := by
 unfold lenS' setS
 rw [getD_modify]
 split <;> simp
theorem modify_comm {X : Type} (l : List X) {i j : Nat} (h : i ≠ j) (f g : X → X) : (l.modify i f).modify j g = (l.modify j g).modify i f := by
 apply List.ext_getElem (by simp)
 intro k h1 h2
 simp only [List.getElem_modify]
 by_cases c1 : i = k <;> by_cases c2 : j = k
 ·omega
 ·simp [c1, c2]
 ·simp [c1, c2]
 ·simp [c1, c2]
theorem modify_app {X : Type} (l r : List X) {i : Nat} (h : i < l.length) (f : X → X) : (l ++ r).modify i f = l.modify i f ++ r := by
 apply List.ext_getElem (by simp)
 intro k h1 h2
 simp only [List.getElem_modify, List.getElem_append, List.length_modify]
 by_cases c : k < l.length
 ·simp [c]
 ·have : ¬ i = k := by omega
  simp [c, this]
theorem put_put {B : St} {i j : Nat} (h : i ≠ j) (o q : OpD) : putS (putS B i o) j q = putS (putS B j q) i o := modify_comm _ h _ _
theorem set_put {B : St} {i j : Nat} (h : i ≠ j) (o : OpD) (k : Nat) (a : Int) : setS (putS B i o) j k a = putS (setS B j k a) i o := modify_comm _ h _ _
theorem push_put {B : St} {i : Nat} (h : i < B.length) (o : OpD) (r : St) : putS B i o ++ r = putS (B ++ r) i o := (modify_app _ _ h _).symm
theorem lenS_put_ne {B : St} {i j : Nat} (h : i ≠ j) (o : OpD) : lenS' (putS B i o) j = lenS' B j := by rw [lenS_put, if_neg fun c => h c.1]
theorem end_put {B : St} {i j : Nat} (h : i ≠ j) (o : OpD) (e : Bool) : endS (putS B i o) j e = putS (endS B j e) i o := by
 cases e
 ·rfl
 ·exact put_put h _ _
def leS (B B' : St) : Prop := B.length ≤ B'.length ∧ ∀ i, i < B.length → lenS' B i ≤ lenS' B' i
theorem leS.refl (B : St) : leS B B := ⟨Nat.le_refl _, fun _ _ => Nat.le_refl _⟩
theorem leS.trans {A B C : St} (h : leS A B) (k : leS B C) : leS A C := ⟨Nat.le_trans h.1 k.1, fun i hi => Nat.le_trans (h.2 i hi) (k.2 i (Nat.lt_of_lt_of_le hi h.1))⟩
theorem leS_put (B : St) (i : Nat) (o : OpD) : leS B (putS B i o) := ⟨by rw [len_put]; exact Nat.le_refl _, fun j _ => by rw [lenS_put]; split <;> omega⟩
theorem leS_set (B : St) (i k : Nat) (a : Int) : leS B (setS B i k a) := ⟨by rw [len_set]; exact Nat.le_refl _, fun j _ => by rw [lenS_set]; exact Nat.le_refl _⟩
theorem leS_end (B : St) (i : Nat) (e : Bool) : leS B (endS B i e) := by
 cases e
 ·exact .refl B
 ·exact leS_put _ _ _
theorem leS_push (B r : St) : leS B (B ++ r) := ⟨by simp, fun i hi => by unfold lenS'; simp only [List.getD, List.getElem?_append_left hi]; exact Nat.le_refl _⟩
theorem leS_many {g : Nat → St → St} {h : St → St} (hg : ∀ k B, leS B (g k B)) (hh : ∀ B, leS B (h B)) : ∀ ks B, leS B (manyS g h ks B) := by
 intro ks
 induction ks with
 | nil => intro B; exact .refl B
 | cons k r ih => intro B; exact ((hg k B).trans (hh _)).trans (ih _)
theorem mkC_le (cs : List Cor) : ∀ f x i e B, leS B (mkC cs f x i e B) := by
 intro f
 induction f with
 | zero => intro x i e B; exact .refl B
 | succ f ih =>
  intro x i e B
  rw [mkC]
  dsimp only
  split; · exact (leS_put ..).trans (leS_end ..)
  split; · exact (leS_put ..).trans (leS_end ..)
  split; · exact (leS_put ..).trans (leS_end ..)
  split; · exact (((leS_push ..).trans (leS_put ..)).trans (ih ..)).trans (leS_end ..)
  split; · exact ((ih ..).trans (leS_put ..)).trans (leS_end ..)
  split
  ·cases e
   ·exact (((((((ih ..).trans (leS_put ..)).trans (ih ..)).trans (leS_put ..)).trans (leS_set ..)).trans (ih ..))).trans (leS_set ..)
   ·exact (((((ih ..).trans (leS_put ..)).trans (ih ..)).trans (leS_set ..)).trans (ih ..))
  split; · exact (leS_many (fun k B => ih ..) (fun B => leS_put ..) _ _).trans (ih ..)
  exact (leS_many (fun k B => ih ..) (fun B => .refl B) _ _).trans (leS_put ..)
theorem many_put {g : Nat → St → St} {h : St → St} {i : Nat} {o : OpD} (hg : ∀ k B, i < B.length → g k (putS B i o) = putS (g k B) i o) (hh : ∀ B, h (putS B i o) = putS (h B) i o) (hl : ∀ k B, leS B (g k B)) (hl2 : ∀ B, leS B (h B)) :
  ∀ ks B, i < B.length → manyS g h ks (putS B i o) = putS (manyS g h ks B) i o := by
 intro ks
 induction ks with
 | nil => intro B _; rfl
 | cons k r ih => intro B hi; rw [manyS, manyS, hg k B hi, hh, ih _ (Nat.lt_of_lt_of_le hi ((hl k B).trans (hl2 _)).1)]
theorem mkC_put (cs : List Cor) {i : Nat} {o : OpD} : ∀ f x j e B, i ≠ j → i < B.length → mkC cs f x j e (putS B i o) = putS (mkC cs f x j e B) i o := by
 intro f
 induction f with
 | zero => intro x j e B _ _; rfl
 | succ f ih =>
  intro x j e B hij hi
  have lt : ∀ {C : St}, leS B C → i < C.length := fun h => Nat.lt_of_lt_of_le hi h.1
  rw [mkC, mkC]
  dsimp only
  split; · rw [put_put hij, end_put hij]
  split; · rw [put_put hij, end_put hij]
  split; · rw [put_put hij, end_put hij]
  split
  ·rw [len_put, push_put hi, put_put hij, ih _ _ _ _ (by omega) (lt ((leS_push ..).trans (leS_put ..))), end_put hij]
  split; · rw [ih _ _ _ _ hij hi, put_put hij, end_put hij]
  split
  ·have k1 : i < (mkC cs f ((kidsC cs x).getD 0 0) j false B).length := lt (mkC_le ..)
   have k2 : i < (putS (mkC cs f ((kidsC cs x).getD 0 0) j false B) j (oc0 6)).length := by rw [len_put]; exact k1
   have k3 : i < (mkC cs f ((kidsC cs x).getD 1 0) j e (putS (mkC cs f ((kidsC cs x).getD 0 0) j false B) j (oc0 6))).length := Nat.lt_of_lt_of_le k2 (mkC_le ..).1
   rw [ih _ _ _ _ hij hi, put_put hij, ih _ _ _ _ hij k2]
   cases e
   ·simp only [Bool.false_eq_true, if_false]
    rw [put_put hij, lenS_put_ne hij, lenS_put_ne hij, set_put hij, ih _ _ _ _ hij (by rw [len_set, len_put]; exact k3), lenS_put_ne hij, lenS_put_ne hij, set_put hij]
   ·simp only [if_true]
    rw [lenS_put_ne hij, lenS_put_ne hij, set_put hij, ih _ _ _ _ hij (by rw [len_set]; exact k3)]
  split
  ·rw [many_put (h := fun B => putS B j (oc0 7)) (fun k B hB => ih _ _ _ _ hij hB) (fun B => put_put hij _ _) (fun k B => mkC_le ..) (fun B => leS_put ..) _ _ hi]
   exact ih _ _ _ _ hij (lt (leS_many (fun k B => mkC_le ..) (fun B => leS_put ..) _ _))
  rw [many_put (h := id) (fun k B hB => ih _ _ _ _ hij hB) (fun B => rfl) (fun k B => mkC_le ..) (fun B => .refl B) _ _ hi, put_put hij]
def totS (B : St) : Nat := (B.map fun p => p.2.length + 1).sum
theorem sum_modify (l : List (Int × List OpD)) (f : Int × List OpD → Int × List OpD) (d : Nat) (hf : ∀ p, (f p).2.length ≤ p.2.length + d) : ∀ i, ((l.modify i f).map fun p => p.2.length + 1).sum ≤ (l.map fun p => p.2.length + 1).sum + d := by
 induction l with
 | nil => intro i; cases i <;> simp
 | cons a r ih =>
  intro i
  cases i with
  | zero => have := hf a; simp; omega
  | succ i => have := ih i; simp; omega
theorem tot_put (B : St) (i : Nat) (o : OpD) : totS (putS B i o) ≤ totS B + 1 := sum_modify _ _ 1 (fun p => by simp) i
theorem tot_set (B : St) (i k : Nat) (a : Int) : totS (setS B i k a) ≤ totS B := sum_modify _ _ 0 (fun p => by simp) i
theorem tot_end (B : St) (i : Nat) (e : Bool) : totS (endS B i e) ≤ totS B + 1 := by
 cases e
 ·exact Nat.le_succ _
 ·exact tot_put _ _ _
theorem tot_push (B : St) (a : Int) : totS (B ++ [(a, [])]) = totS B + 1 := by simp [totS]
theorem len_tot (B : St) : B.length ≤ totS B := by
 unfold totS
 induction B with
 | nil => simp
 | cons p r ih => simp; omega
theorem lenS_tot (B : St) (i : Nat) : lenS' B i ≤ totS B := by
 unfold lenS' totS
 induction B generalizing i with
 | nil => simp
 | cons p r ih =>
  cases i with
  | zero => simp; omega
  | succ i => have := ih i; simp at this ⊢; omega
def vis (cs : List Cor) : Nat → Nat → List Nat
 | 0, x => [x]
 | f + 1, x => x :: (kidsC cs x).flatMap (vis cs f)
def visK (cs : List Cor) (f : Nat) (ks : List Nat) : Nat := (ks.map fun k => (vis cs f k).length).sum
theorem vis_pos (cs : List Cor) : ∀ f x, 1 ≤ (vis cs f x).length := by intro f x; cases f <;> simp [vis]
theorem vis_len (cs : List Cor) (f x : Nat) : (vis cs (f + 1) x).length = 1 + visK cs f (kidsC cs x) := by
 simp [vis, visK, List.length_flatMap]; omega
theorem visK_app (cs : List Cor) (f : Nat) (a b : List Nat) : visK cs f (a ++ b) = visK cs f a + visK cs f b := by simp [visK]
def hasK (k : Int) (n : Nat) : Prop := if k = 4 then n = 3 else if k = 5 ∨ k = 7 ∨ k = 8 then n = 1 else if k = 6 then 1 ≤ n else if k = 9 then 1 ≤ n ∧ n ≤ 4 else n = 0
structure WfC (cs : List Cor) : Prop where
 len : 1 ≤ cs.length ∧ cs.length ≤ 160
 kind : ∀ i, i < cs.length → 1 ≤ (corAt cs i).kind ∧ (corAt cs i).kind ≤ 9
 top : (corAt cs 0).parent = -1
 par : ∀ i, 0 < i → i < cs.length → 0 ≤ (corAt cs i).parent ∧ (corAt cs i).parent < i
 kids : ∀ i, i < cs.length → hasK (corAt cs i).kind (kidsC cs i).length
theorem mem_kidsC {cs : List Cor} {x k : Nat} : k ∈ kidsC cs x ↔ k < cs.length ∧ (corAt cs k).parent = (x : Int) := by simp [kidsC]
theorem WfC.kid {cs : List Cor} (h : WfC cs) {x k : Nat} (hk : k ∈ kidsC cs x) : x < k ∧ k < cs.length := by
 obtain ⟨h1, h2⟩ := mem_kidsC.1 hk
 have h0 : 0 < k := by
  rcases Nat.eq_zero_or_pos k with c | c
  ·subst c; rw [h.top] at h2; omega
  ·exact c
 have := h.par k h0 h1
 omega
theorem getD_last {l : List Nat} (h : l ≠ []) : l.dropLast ++ [l.getLastD 0] = l := by
 rw [List.getLastD_eq_getLast?, List.getLast?_eq_some_getLast h, Option.getD_some]
 exact List.dropLast_concat_getLast h
theorem mkC_tot {cs : List Cor} (hw : WfC cs) : ∀ f x i e B, x < cs.length → cs.length ≤ f + x → totS (mkC cs f x i e B) + 1 ≤ totS B + 4 * (vis cs f x).length := by
 intro f
 induction f with
 | zero => intro x i e B h1 h2; omega
 | succ f ih =>
  intro x i e B hx hf
  have hkd := fun k (hk : k ∈ kidsC cs x) => hw.kid hk
  have ihk : ∀ k, k ∈ kidsC cs x → ∀ i e B, totS (mkC cs f k i e B) + 1 ≤ totS B + 4 * (vis cs f k).length := fun k hk i e B => ih k i e B (hkd k hk).2 (by have := hkd k hk; omega)
  have hk := hw.kids x hx
  have hkk := hw.kind x hx
  rw [vis_len]
  rw [mkC]
  dsimp only
  generalize hks : kidsC cs x = ks at *
  split
  ·have h1 := tot_put B i (ocD 1 (corAt cs x).data); have h2 := tot_end (putS B i (ocD 1 (corAt cs x).data)) i e; omega
  split
  ·have h1 := tot_put B i (ocAB 2 (corAt cs x).a (corAt cs x).b); have h2 := tot_end (putS B i (ocAB 2 (corAt cs x).a (corAt cs x).b)) i e; omega
  split
  ·have h1 := tot_put B i (ocN 3 (corAt cs x).name); have h2 := tot_end (putS B i (ocN 3 (corAt cs x).name)) i e; omega
  split
  ·rename_i c5
   have h1 := tot_push B (corAt cs x).a
   have h2 := tot_put (B ++ [((corAt cs x).a, [])]) i (ocA 4 (B.length : Int))
   unfold hasK at hk
   rw [if_neg (by omega), if_pos (.inl c5)] at hk
   match ks, hk with
   | [k], _ =>
    have h3 := ihk k (by simp) B.length true (putS (B ++ [((corAt cs x).a, [])]) i (ocA 4 (B.length : Int)))
    have h4 := tot_end (mkC cs f k B.length true (putS (B ++ [((corAt cs x).a, [])]) i (ocA 4 (B.length : Int)))) i e
    simp [visK] at h3 h4 ⊢
    omega
  split
  ·rename_i c5
   unfold hasK at hk
   rw [if_neg (by omega), if_pos (by omega)] at hk
   match ks, hk with
   | [k], _ =>
    have h3 := ihk k (by simp) i false B
    have h4 := tot_put (mkC cs f k i false B) i (ocN ((corAt cs x).kind - 7 + 8) (corAt cs x).name)
    have h5 := tot_end (putS (mkC cs f k i false B) i (ocN ((corAt cs x).kind - 7 + 8) (corAt cs x).name)) i e
    simp [visK] at h3 h4 h5 ⊢
    omega
  split
  ·rename_i c4
   unfold hasK at hk
   rw [if_pos c4] at hk
   match ks, hk with
   | [k1, k2, k3], _ =>
    have h1 := ihk k1 (by simp) i false B
    simp only [List.getD_cons_zero, List.getD_cons_succ]
    generalize mkC cs f k1 i false B = B1 at *
    have h2 := tot_put B1 i (oc0 6)
    have h3 := ihk k2 (by simp) i e (putS B1 i (oc0 6))
    generalize mkC cs f k2 i e (putS B1 i (oc0 6)) = B2 at *
    have e1 : visK cs f [k1, k2, k3] = (vis cs f k1).length + ((vis cs f k2).length + (vis cs f k3).length) := by simp [visK]
    rw [e1]
    cases e
    ·simp only [Bool.false_eq_true, if_false]
     have h4 := tot_put B2 i (oc0 5)
     have h5 := tot_set (putS B2 i (oc0 5)) i (lenS' B1 i) (lenS' (putS B2 i (oc0 5)) i : Int)
     have h6 := ihk k3 (by simp) i false (setS (putS B2 i (oc0 5)) i (lenS' B1 i) (lenS' (putS B2 i (oc0 5)) i : Int))
     generalize mkC cs f k3 i false (setS (putS B2 i (oc0 5)) i (lenS' B1 i) (lenS' (putS B2 i (oc0 5)) i : Int)) = B5 at *
     have h7 := tot_set B5 i (lenS' B2 i) (lenS' B5 i : Int)
     omega
    ·simp only [if_true]
     have h5 := tot_set B2 i (lenS' B1 i) (lenS' B2 i : Int)
     have h6 := ihk k3 (by simp) i true (setS B2 i (lenS' B1 i) (lenS' B2 i : Int))
     omega
  split
  ·rename_i c6
   unfold hasK at hk
   rw [if_neg (by omega), if_neg (by omega), if_pos c6] at hk
   have hne : ks ≠ [] := by intro c; rw [c] at hk; simp at hk
   have hl := getD_last hne
   have hmem : ∀ k, k ∈ ks.dropLast → k ∈ ks := fun k hm => by rw [← hl]; exact List.mem_append_left _ hm
   have hlm : ks.getLastD 0 ∈ ks := by
    have : ks.getLastD 0 ∈ ks.dropLast ++ [ks.getLastD 0] := List.mem_append_right _ (List.mem_singleton.2 rfl)
    rwa [hl] at this
   have e1 : visK cs f ks = visK cs f ks.dropLast + (vis cs f (ks.getLastD 0)).length := by
    conv => lhs; rw [← hl]
    rw [visK_app]; simp [visK]
   have hm : ∀ l : List Nat, (∀ k, k ∈ l → k ∈ ks) → ∀ B, totS (manyS (fun k B => mkC cs f k i false B) (fun B => putS B i (oc0 7)) l B) ≤ totS B + 4 * visK cs f l := by
    intro l
    induction l with
    | nil => intro _ B; simp [manyS, visK]
    | cons k r ih2 =>
     intro hl B
     have g1 := ihk k (hl k (by simp)) i false B
     have g2 := tot_put (mkC cs f k i false B) i (oc0 7)
     have g3 := ih2 (fun k hk => hl k (by simp [hk])) (putS (mkC cs f k i false B) i (oc0 7))
     have e : visK cs f (k :: r) = (vis cs f k).length + visK cs f r := by simp [visK]
     rw [manyS, e]
     omega
   have h1 := hm ks.dropLast hmem B
   have h2 := ihk (ks.getLastD 0) hlm i e (manyS (fun k B => mkC cs f k i false B) (fun B => putS B i (oc0 7)) ks.dropLast B)
   omega
  ·have hm : ∀ l : List Nat, (∀ k, k ∈ l → k ∈ ks) → ∀ B, totS (manyS (fun k B => mkC cs f k i false B) id l B) ≤ totS B + 4 * visK cs f l := by
    intro l
    induction l with
    | nil => intro _ B; simp [manyS, visK]
    | cons k r ih2 =>
     intro hl B
     have g1 := ihk k (hl k (by simp)) i false B
     have g3 := ih2 (fun k hk => hl k (by simp [hk])) (mkC cs f k i false B)
     have e : visK cs f (k :: r) = (vis cs f k).length + visK cs f r := by simp [visK]
     rw [manyS, e]
     simp only [id]
     omega
   have h1 := hm ks (fun k hk => hk) B
   have h2 := tot_put (manyS (fun k B => mkC cs f k i false B) id ks B) i (ocA (if e then 11 else 10) ((ks.length : Int) - 1))
   omega
theorem nodup_bound : ∀ (n : Nat) (l : List Nat), l.Nodup → (∀ x, x ∈ l → x < n) → l.length ≤ n := by
 intro n
 induction n with
 | zero => intro l _ h; cases l with
  | nil => simp
  | cons a r => exact absurd (h a (by simp)) (by omega)
 | succ n ih =>
  intro l hn h
  have h1 := ih (l.erase n) (hn.erase n) fun x hx => by
   have h2 := h x (List.mem_of_mem_erase hx)
   have h3 : x ≠ n := fun c => by subst c; exact (List.Nodup.not_mem_erase hn) hx
   omega
  by_cases c : n ∈ l
  ·rw [List.length_erase_of_mem c] at h1; omega
  ·rw [List.erase_of_not_mem c] at h1; omega
theorem nodup_app' {a b : List Nat} : (a ++ b).Nodup ↔ a.Nodup ∧ b.Nodup ∧ ∀ x, x ∈ a → x ∉ b := by
 rw [List.nodup_append]
 constructor
 ·rintro ⟨h1, h2, h3⟩
  exact ⟨h1, h2, fun x hx hb => h3 x hx x hb rfl⟩
 ·rintro ⟨h1, h2, h3⟩
  exact ⟨h1, h2, fun x hx y hy e => h3 x hx (e ▸ hy)⟩
def upC (cs : List Cor) (y : Nat) : Nat := (corAt cs y).parent.toNat
def upN (cs : List Cor) : Nat → Nat → Nat
 | 0, y => y
 | n + 1, y => upC cs (upN cs n y)
theorem vis_up {cs : List Cor} (hw : WfC cs) : ∀ f x y, x < cs.length → y ∈ vis cs f x → y < cs.length ∧ x ≤ y ∧ ∃ n, upN cs n y = x := by
 intro f
 induction f with
 | zero => intro x y hx h; simp [vis] at h; subst h; exact ⟨hx, Nat.le_refl _, 0, rfl⟩
 | succ f ih =>
  intro x y hx h
  simp only [vis, List.mem_cons, List.mem_flatMap] at h
  rcases h with rfl | ⟨k, hk, hy⟩
  ·exact ⟨hx, Nat.le_refl _, 0, rfl⟩
  ·obtain ⟨h1, h2⟩ := hw.kid hk
   obtain ⟨g1, g2, n, hn⟩ := ih k y h2 hy
   refine ⟨g1, by omega, n + 1, ?_⟩
   rw [upN, hn, upC, (mem_kidsC.1 hk).2]; simp
theorem upN_add (cs : List Cor) (y : Nat) : ∀ a b, upN cs (a + b) y = upN cs a (upN cs b y) := by
 intro a
 induction a with
 | zero => intro b; simp [upN]
 | succ a ih => intro b; rw [Nat.succ_add, upN, ih, upN]
theorem upN_le {cs : List Cor} (hw : WfC cs) : ∀ n y, y < cs.length → upN cs n y ≤ y := by
 intro n
 induction n with
 | zero => intro y _; exact Nat.le_refl _
 | succ n ih =>
  intro y hy
  have h1 := ih y hy
  rw [upN]
  unfold upC
  rcases Nat.eq_zero_or_pos (upN cs n y) with c | c
  ·rw [c, hw.top]; simp
  ·have := hw.par _ c (by omega); omega
theorem vis_nodup {cs : List Cor} (hw : WfC cs) : ∀ f x, x < cs.length → (vis cs f x).Nodup := by
 intro f
 induction f with
 | zero => intro x _; simp [vis]
 | succ f ih =>
  intro x hx
  simp only [vis]
  refine List.nodup_cons.2 ⟨fun h => ?_, ?_⟩
  ·obtain ⟨k, hk, hy⟩ := List.mem_flatMap.1 h
   obtain ⟨h1, h2⟩ := hw.kid hk
   have := (vis_up hw f k x h2 hy).2.1
   omega
  ·have hp : (kidsC cs x).Nodup := by unfold kidsC; exact List.nodup_range.filter _
   have hm : ∀ k, k ∈ kidsC cs x → x < k ∧ k < cs.length ∧ upC cs k = x := fun k hk => ⟨(hw.kid hk).1, (hw.kid hk).2, by rw [upC, (mem_kidsC.1 hk).2]; simp⟩
   generalize kidsC cs x = ks at hp hm
   induction ks with
   | nil => simp
   | cons k r ih2 =>
    rw [List.flatMap_cons]
    obtain ⟨p1, p2⟩ := List.nodup_cons.1 hp
    rw [nodup_app']
    refine ⟨ih k (hm k (by simp)).2.1, ih2 p2 fun q hq => hm q (by simp [hq]), fun y hy c => ?_⟩
    obtain ⟨q, hq, hyq⟩ := List.mem_flatMap.1 c
    obtain ⟨a1, a2, a3⟩ := hm k (by simp)
    obtain ⟨b1, b2, b3⟩ := hm q (by simp [hq])
    obtain ⟨_, _, n1, e1⟩ := vis_up hw f k y a2 hy
    obtain ⟨_, _, n2, e2⟩ := vis_up hw f q y b2 hyq
    have hkq : k ≠ q := by rintro rfl; exact p1 hq
    have key : ∀ (n : Nat) (a b : Nat), a < cs.length → upC cs a = x → x < b → upN cs (n + 1) a ≠ b := by
     intro n a b ha hu hb c
     rw [upN_add cs a n 1] at c
     have h1 : upN cs 1 a = x := hu
     rw [h1] at c
     have := upN_le hw n x hx
     omega
    rcases Nat.lt_trichotomy n1 n2 with c | c | c
    ·have : upN cs (n2 - n1 - 1 + 1) k = q := by rw [← e1, ← upN_add, show n2 - n1 - 1 + 1 + n1 = n2 by omega, e2]
     exact key _ k q a2 a3 b1 this
    ·subst c; rw [e1] at e2; exact hkq e2
    ·have : upN cs (n1 - n2 - 1 + 1) q = k := by rw [← e2, ← upN_add, show n1 - n2 - 1 + 1 + n2 = n1 by omega, e1]
     exact key _ q k b2 b3 a1 this
theorem vis_bound {cs : List Cor} (hw : WfC cs) (f x : Nat) (hx : x < cs.length) : (vis cs f x).length ≤ 160 :=
 Nat.le_trans (nodup_bound cs.length _ (vis_nodup hw f x hx) fun y hy => (vis_up hw f x y hx hy).1) hw.len.2
def AllO (P : OpD → Prop) (B : St) : Prop := ∀ p, p ∈ B → ∀ o, o ∈ p.2 → P o
structure Told (cs : List Cor) (P : OpD → Prop) : Prop where
 bare : ∀ o : OpD, o.name = ⟨#[]⟩ → o.data = [] → P o
 name : ∀ k i, P (ocN k (corAt cs i).name)
 data : ∀ i, P (ocD 1 (corAt cs i).data)
 turn : ∀ (o : OpD) (a : Int), P o → P { o with a := a }
theorem mem_modify {X : Type} {l : List X} {i : Nat} {f : X → X} {y : X} (h : y ∈ l.modify i f) : y ∈ l ∨ ∃ x, x ∈ l ∧ y = f x := by
 obtain ⟨k, hk, rfl⟩ := List.mem_iff_getElem.1 h
 rw [List.length_modify] at hk
 rw [List.getElem_modify]
 split
 ·exact .inr ⟨_, List.getElem_mem hk, rfl⟩
 ·exact .inl (List.getElem_mem hk)
theorem AllO.put {P : OpD → Prop} {B : St} (h : AllO P B) {i : Nat} {o : OpD} (ho : P o) : AllO P (putS B i o) := by
 intro p hp q hq
 rcases mem_modify hp with c | ⟨x, hx, rfl⟩
 ·exact h p c q hq
 ·rcases List.mem_append.1 hq with d | d
  ·exact h x hx q d
  ·obtain rfl := List.mem_singleton.1 d; exact ho
theorem AllO.set {P : OpD → Prop} {B : St} (h : AllO P B) {i k : Nat} {a : Int} (ht : ∀ (o : OpD) (a : Int), P o → P { o with a := a }) : AllO P (setS B i k a) := by
 intro p hp q hq
 rcases mem_modify hp with c | ⟨x, hx, rfl⟩
 ·exact h p c q hq
 ·rcases mem_modify hq with d | ⟨o, ho, rfl⟩
  ·exact h x hx q d
  ·exact ht o a (h x hx o ho)
theorem AllO.push {P : OpD → Prop} {B : St} (h : AllO P B) {a : Int} : AllO P (B ++ [(a, [])]) := by
 intro p hp q hq
 rcases List.mem_append.1 hp with c | c
 ·exact h p c q hq
 ·obtain rfl := List.mem_singleton.1 c; cases hq
theorem AllO.end {P : OpD → Prop} {B : St} (h : AllO P B) {i : Nat} {e : Bool} (ho : P (oc0 12)) : AllO P (endS B i e) := by
 cases e
 ·exact h
 ·exact h.put ho
theorem AllO.many {P : OpD → Prop} {g : Nat → St → St} {h : St → St} (hg : ∀ k B, AllO P B → AllO P (g k B)) (hh : ∀ B, AllO P B → AllO P (h B)) : ∀ ks B, AllO P B → AllO P (manyS g h ks B) := by
 intro ks
 induction ks with
 | nil => intro B hB; exact hB
 | cons k r ih => intro B hB; exact ih _ (hh _ (hg k B hB))
theorem mkC_all {cs : List Cor} {P : OpD → Prop} (hP : Told cs P) : ∀ f x i e B, AllO P B → AllO P (mkC cs f x i e B) := by
 intro f
 induction f with
 | zero => intro x i e B h; exact h
 | succ f ih =>
  intro x i e B h
  have b0 : ∀ k, P (oc0 k) := fun k => hP.bare _ rfl rfl
  have bA : ∀ k a, P (ocA k a) := fun k a => hP.bare _ rfl rfl
  rw [mkC]
  dsimp only
  split; · exact (h.put (hP.data x)).end (b0 _)
  split; · exact (h.put (hP.bare _ rfl rfl)).end (b0 _)
  split; · exact (h.put (hP.name _ x)).end (b0 _)
  split; · exact (ih _ _ _ _ (h.push.put (bA _ _))).end (b0 _)
  split; · exact ((ih _ _ _ _ h).put (hP.name _ x)).end (b0 _)
  split
  ·cases e
   ·exact (ih _ _ _ _ (((ih _ _ _ _ ((ih _ _ _ _ h).put (b0 _))).put (b0 _)).set hP.turn)).set hP.turn
   ·exact ih _ _ _ _ ((ih _ _ _ _ ((ih _ _ _ _ h).put (b0 _))).set hP.turn)
  split; · exact ih _ _ _ _ (AllO.many (fun k B hB => ih _ _ _ _ hB) (fun B hB => hB.put (b0 _)) _ _ h)
  exact (AllO.many (fun k B hB => ih _ _ _ _ hB) (fun B hB => hB) _ _ h).put (bA _ _)
end Go.Proofs.YtbapalgndjiamaaGreatDoor.E
/- Cores that are made to code: what is made, in memory. -/
namespace Go.Proofs.YtbapalgndjiamaaGreatDoor.E
open Go Go.RowKit
set_option maxRecDepth 100000
variable [L : Lam]
variable {σ τ τ' : AH} {R : AEnd → AH → Prop}
theorem nilB {sz : Nat} : Buf τ sz nilS [] := .inl ⟨.inl rfl, rfl⟩
theorem modify_at {X : Type} (A C : List X) (p : X) (f : X → X) : (A ++ p :: C).modify A.length f = A ++ f p :: C := by
 induction A with
 | nil => rfl
 | cons a A ih => simpa using ih
theorem getD_at {X : Type} (A C : List X) (p d : X) : (A ++ p :: C).getD A.length d = p := by simp [List.getD]
theorem split_at' {X : Type} {l : List X} {i : Nat} (h : i < l.length) : ∃ A p C, l = A ++ p :: C ∧ A.length = i := by
 refine ⟨l.take i, l[i], l.drop (i + 1), ?_, by simp; omega⟩
 rw [← List.drop_eq_getElem_cons h, List.take_append_drop]
abbrev rowB (p : Int × List OpD) (a : AV) : List AV := [iv p.1, a]
abbrev innB (p : Int × List OpD) : List (List AV) := p.2.map encOp
structure CSt (pre : List AV) (σ τ : AH) (φm : Nat) (B : St) : Prop where
 ex : ∃ v bs, τ φm = some ⟨0, pre.length + 1, [pre ++ [v]]⟩ ∧ N2 rowB 2 innB 7 σ τ v bs ∧ bs.map (·.1) = B ∧ φm ∉ famL v ++ l2F bs
 fr : σ φm = none
variable {pre : List AV} {φm : Nat} {B : St}
theorem lod_m {v : AV} (h : τ φm = some ⟨0, pre.length + 1, [pre ++ [v]]⟩) : lod (.ptr φm 0 0 pre.length) τ = some v := lod_at h rfl (by simp)
theorem CSt.len (h : CSt pre σ τ φm B) : ∃ v, lod (.ptr φm 0 0 pre.length) τ = some v ∧ lenS v = some (iv (B.length : Int)) := by
 obtain ⟨v, bs, h1, h2, rfl, _⟩ := h.ex
 exact ⟨v, lod_m h1, by rw [h2.len, List.length_map]⟩
theorem CSt.fix (h : CSt pre σ τ φm B) {i : Nat} {x : AV} (hx : pre[i]? = some x) : lod (.ptr φm 0 0 i) τ = some x := by
 obtain ⟨v, bs, h1, _⟩ := h.ex
 refine lod_at h1 rfl ?_
 have hi := (List.getElem?_eq_some_iff.1 hx).1
 simp [List.getElem?_append_left hi, hx]
theorem CSt.open (h : CSt pre σ τ φm B) {i : Nat} (hi : i < B.length) : ∃ v φ st w, lod (.ptr φm 0 0 pre.length) τ = some v ∧ idx 2 v (iv (i : Int)) τ = some (.ptr φ st i 0) ∧ lod (.ptr φ st i 1) τ = some w ∧ lenS w = some (iv (lenS' B i : Int)) ∧
  (∀ (o : OpD) (k : AV → AH → Prop), lenS' B i + 1 ≤ 4294967296 → (∀ w' τ1, lod (.ptr φm 0 0 pre.length) τ1 = some v → idx 2 v (iv (i : Int)) τ1 = some (.ptr φ st i 0) →
   (∀ k' : AH → Prop, (∀ τ2, CSt pre σ τ2 φm (putS B i o) → lod (.ptr φm 0 0 pre.length) τ2 = some v → idx 2 v (iv (i : Int)) τ2 = some (.ptr φ st i 0) → lod (.ptr φ st i 1) τ2 = some w' → lenS w' = some (iv ((lenS' B i + 1 : Nat) : Int)) → k' τ2) → sto 1 (.ptr φ st i 1) w' τ1 k') → k w' τ1) → E.app 7 w (.ro [encOp o]) τ k) ∧
  (∀ j : Nat, j < lenS' B i → ∃ φw stw, idx 7 w (iv (j : Int)) τ = some (.ptr φw stw j 0) ∧ ∀ (a : Int) (k : AH → Prop), (∀ τ2, CSt pre σ τ2 φm (setS B i j a) → k τ2) → sto 1 (.ptr φw stw j 1) (iv a) τ k) := by
 obtain ⟨v, bs, h1, h2, rfl, h4⟩ := h.ex
 rw [List.length_map] at hi
 obtain ⟨A, p, C, rfl, rfl⟩ := split_at' hi
 obtain ⟨φ, st, rfl, hF⟩ := h2.own (by simp)
 have hlen : (A ++ p :: C).length = A.length + (C.length + 1) := by simp
 have ix : ∀ τ1, τ1 φ = some ⟨st, 2, (A ++ p :: C).map fun p => rowB p.1 p.2⟩ → idx 2 (.own φ st 0 (A ++ p :: C).length) (iv (A.length : Int)) τ1 = some (.ptr φ st A.length 0) := fun τ1 hF1 => by
  have := idx_own (st := st) (off := 0) hF1 (show A.length < (A ++ p :: C).length by simp)
  rwa [Nat.zero_add] at this
 have hb : Buf τ 7 p.2 (innB p.1) := h2.ins p (by simp)
 have hpl : lenS' ((A ++ p :: C).map (·.1)) A.length = p.1.2.length := by
  unfold lenS'
  rw [List.map_append, List.map_cons]
  have := getD_at (A.map (·.1)) (C.map (·.1)) p.1 ((0, []) : Int × List OpD)
  rw [List.length_map] at this
  rw [this]
 have hlw := buf_len hb
 rw [List.length_map] at hlw
 refine ⟨_, φ, st, p.2, lod_m h1, ix τ hF, lod_at hF rfl (by simp [List.getD]), by rw [hpl]; exact hlw, fun o k hn hk => ?_, fun j hj => ?_⟩
 ·rw [hpl] at hn hk
  have hφm : φm ∉ famL p.2 := fun c => h4 (List.mem_append_right _ (l2F_mem (by simp) c))
  have hφφ : φ ∉ famL p.2 := fun c => (nodup_app.1 h2.nd).2.2 φ (by simp [famL]) (l2F_mem (by simp) c)
  have hne : φm ≠ φ := fun c => h4 (List.mem_append_left _ (by simp [famL, c]))
  refine buf_app hb (xs := [encOp o]) rfl (by intro c hc; obtain rfl := List.mem_singleton.1 hc; rfl) (by intro c hc; obtain rfl := List.mem_singleton.1 hc; exact one_encOp o) (by simpa using hn) fun w' τ1 hB hK hfam => ?_
  have hm1 : τ1 φm = some ⟨0, pre.length + 1, [pre ++ [.own φ st 0 (A ++ p :: C).length]]⟩ := by rw [hK φm hφm (by rw [h1]; simp)]; exact h1
  have hF1 : τ1 φ = some ⟨st, 2, (A ++ p :: C).map fun p => rowB p.1 p.2⟩ := by rw [hK φ hφφ (by rw [hF]; simp)]; exact hF
  refine hk w' τ1 (lod_m hm1) (ix τ1 hF1) fun k' hk' => ?_
  refine h2.repl (x' := (p.1.1, p.1.2 ++ [o])) rfl (by rw [show innB (p.1.1, p.1.2 ++ [o]) = innB p.1 ++ [encOp o] by simp [innB]]; exact hB) (by omega) rfl hK hfam fun τ2 hN hfr => ?_
  have hm2 : τ2 φm = some ⟨0, pre.length + 1, [pre ++ [.own φ st 0 (A ++ p :: C).length]]⟩ := by rw [hfr φm (by simp [famL, hne])]; exact hm1
  have hl2 : (A ++ p :: C).length = (A ++ ((p.1.1, p.1.2 ++ [o]), w') :: C).length := by simp
  obtain ⟨φ', st', e', hF'⟩ := hN.own (by simp)
  obtain ⟨rfl, rfl⟩ : φ = φ' ∧ st = st' := by injection e' with a b; exact ⟨a, b⟩
  refine hk' τ2 ⟨⟨_, _, hm2, hN, ?_, fun c => ?_⟩, h.fr⟩ (lod_m hm2) ?_ (lod_at hF' rfl (by simp [List.getD])) ?_
  ·rw [List.map_append, List.map_cons, List.map_append, List.map_cons]
   unfold putS
   have := modify_at (A.map (·.1)) (C.map (·.1)) p.1 (fun q : Int × List OpD => (q.1, q.2 ++ [o]))
   rw [List.length_map] at this
   exact this.symm
  ·rw [l2F_app, l2F_cons] at c
   rw [l2F_app, l2F_cons] at h4
   simp only [List.mem_append] at c h4
   rcases c with c | c | c | c
   ·exact h4 (.inl c)
   ·exact h4 (.inr (.inl c))
   ·rcases hfam φm c with d | d
    ·exact hφm d
    ·rw [h1] at d; cases d
   ·exact h4 (.inr (.inr (.inr c)))
  ·rw [hl2]
   have := idx_own (st := st) (off := 0) hF' (show A.length < (A ++ ((p.1.1, p.1.2 ++ [o]), w') :: C).length by simp)
   rwa [Nat.zero_add] at this
  ·have := buf_len hB
   simpa using this
 ·rw [hpl] at hj
  obtain ⟨φw, stw, hw, hFw⟩ := buf_own hb (by intro c; have := congrArg List.length c; simp at this; simp [this] at hj)
  have hwl : (innB p.1).length = p.1.2.length := by simp
  obtain ⟨E1, o, E2, he, rfl⟩ := split_at' hj
  refine ⟨φw, stw, ?_, fun a k hk => ?_⟩
  ·rw [hw]
   have := idx_own (st := stw) (off := 0) hFw (show E1.length < (innB p.1).length by rw [hwl]; exact hj)
   rwa [Nat.zero_add] at this
  ·have e1 : (E1.map encOp).length = E1.length := by simp
   rw [← e1]
   refine h2.wr (x' := (p.1.1, E1 ++ { o with a := a } :: E2)) (es2 := E2.map encOp) (r := encOp o) (by show p.1.2.map encOp = _; rw [he]; simp) (by show (E1 ++ _ :: E2).map encOp = _; simp [encOp]) rfl (by omega) rfl hw fun τ2 hN hfr => ?_
   have hφm : φm ≠ φw := by
    rintro rfl
    exact h4 (List.mem_append_right _ (l2F_mem (p := p) (by simp) (by rw [hw]; simp [famL])))
   have hm2 : τ2 φm = some ⟨0, pre.length + 1, [pre ++ [.own φ st 0 (A ++ p :: C).length]]⟩ := by rw [hfr φm hφm]; exact h1
   refine hk τ2 ⟨⟨_, _, hm2, hN, ?_, fun c => ?_⟩, h.fr⟩
   ·rw [List.map_append, List.map_cons, List.map_append, List.map_cons]
    unfold setS
    have := modify_at (A.map (·.1)) (C.map (·.1)) p.1 (fun q : Int × List OpD => (q.1, q.2.modify E1.length fun o => { o with a := a }))
    rw [List.length_map] at this
    rw [this, he, modify_at]
   ·rw [l2F_app, l2F_cons] at c
    rw [l2F_app, l2F_cons] at h4
    exact h4 c
theorem CSt.push (h : CSt pre σ τ φm B) {v : AV} (hv : lod (.ptr φm 0 0 pre.length) τ = some v) {x : AV} {a : Int} {k : AV → AH → Prop} (hx : aelems τ x = some [[iv a, nilS]]) (hn : B.length + 1 ≤ 4294967296)
  (hk : ∀ v' τ1, (∀ k' : AH → Prop, (∀ τ2, CSt pre σ τ2 φm (B ++ [(a, [])]) → lod (.ptr φm 0 0 pre.length) τ2 = some v' → lenS v' = some (iv ((B.length + 1 : Nat) : Int)) → k' τ2) → sto 1 (.ptr φm 0 0 pre.length) v' τ1 k') → k v' τ1) : E.app 2 v x τ k := by
 obtain ⟨v0, bs, h1, h2, rfl, h4⟩ := h.ex
 obtain rfl : v0 = v := by have := lod_m h1; rw [this] at hv; exact Option.some.inj hv
 rw [List.length_map] at hn
 refine h2.app1 (p := ((a, []), nilS)) hx rfl nilB (fun ψ c => by cases c) (fun ψ c => by cases c) (by intro y hy; simp only [List.mem_cons, List.not_mem_nil, or_false] at hy; rcases hy with rfl | rfl <;> rfl) hn fun v' τ1 hN hK hfam => hk v' τ1 fun k' hk' => ?_
 have hm1 : τ1 φm = some ⟨0, pre.length + 1, [pre ++ [v0]]⟩ := by rw [hK φm (fun c => h4 (List.mem_append_left _ c)) (by rw [h1]; simp)]; exact h1
 refine sto_fld (cs := pre ++ [v0]) hm1 rfl (by omega) (acells_one hN.one) hN.one ?_
 have e : [pre ++ [v0]].set 0 ((pre ++ [v0]).set pre.length v') = [pre ++ [v']] := by simp
 rw [e]
 have h5 : φm ∉ famL v' ++ l2F (bs ++ [((a, []), nilS)]) := fun c => by
  rw [l2F_app] at c
  simp only [List.mem_append] at c
  rcases c with c | c | c
  ·rcases hfam φm c with d | d
   ·exact h4 (List.mem_append_left _ d)
   ·rw [h1] at d; cases d
  ·exact h4 (List.mem_append_right _ c)
  ·simp [l2F, famL] at c
 have hs : AH.Sub σ (τ1.set φm ⟨0, pre.length + 1, [pre ++ [v']]⟩) := fun ψ F hF => by
  rw [AH.set_ne' (by rintro rfl; rw [h.fr] at hF; cases hF)]; exact hN.sub _ _ hF
 refine hk' _ ⟨⟨v', _, AH.set_same .., hN.keep (fun ψ hψ => AH.set_ne' (by rintro rfl; exact h5 hψ)) hs, by simp, h5⟩, h.fr⟩ (lod_m (AH.set_same ..)) ?_
 have := hN.len
 simpa using this
end Go.Proofs.YtbapalgndjiamaaGreatDoor.E
