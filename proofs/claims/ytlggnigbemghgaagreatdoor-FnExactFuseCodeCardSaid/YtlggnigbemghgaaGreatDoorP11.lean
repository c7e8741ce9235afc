/- heightsOf: its walk. -/
import Derived.Test.YtlggnigbemghgaaGreatDoorP10
set_option linter.unusedSectionVars false
set_option linter.unusedSimpArgs false
set_option linter.unusedVariables false
namespace Go.Proofs.YtlggnigbemghgaaGreatDoor.E
open Go Go.RowKit
variable [L : Lam]
variable {σ τ : AH} {R : AEnd → AH → Prop}
/-- As Gr, whatever else there is. -/
def GrS (σ τ : AH) (a : AV) (xs : List Int) : Prop := ∃ τ', Gr σ τ' a xs ∧ AH.Sub τ' τ
theorem Gr.base {τ' : AH} {a : AV} {xs : List Int} (h : Gr σ τ' a xs) : AH.Sub σ τ' := by
  rcases h with ⟨_, _, rfl⟩ | ⟨φ, st, hφ, _, rfl⟩
  · exact .refl _
  · exact .set (.refl σ) _ hφ
theorem GrS.base {a : AV} {xs : List Int} (h : GrS σ τ a xs) : AH.Sub σ τ := by
  obtain ⟨τ', h1, h2⟩ := h
  exact h1.base.trans h2
theorem GrS.emp (h : AH.Sub σ τ) : GrS σ τ .emp [] := ⟨σ, .inl ⟨rfl, rfl, rfl⟩, h⟩
theorem GrS.push {a : AV} {xs : List Int} {x : Int} {k : AV → AH → Prop} (h : GrS σ τ a xs) (hb : xs.length + 1 ≤ 4294967296) (hk : ∀ a' τ', GrS σ τ' a' (xs ++ [x]) → k a' τ') : bsl 1 [iv 0] 1 [(0, iv x)] τ fun v τ => app 1 a v τ k := by
  have hbase := h.base
  obtain ⟨τ1, h, hs⟩ := h
  rcases h with ⟨rfl, rfl, rfl⟩ | ⟨φ, st, hφ, rfl, rfl⟩
  · refine push_emp fun ψ φ h1 h2 h3 => hk _ _ ⟨τ1.set φ ⟨0, 1, ivs [x]⟩, .inr ⟨φ, 0, hs.none h2, rfl, rfl⟩, AH.Sub.set_both (.set hs _ (hs.none h1)) _ _⟩
  · have hF : τ φ = some ⟨st, 1, ivs xs⟩ := hs _ _ (AH.set_same ..)
    refine push_own hF (by simp) (by simpa using hb) fun ψ st' h1 => hk _ _ ⟨σ.set φ ⟨st', 1, ivs (xs ++ [x])⟩, .inr ⟨φ, st', hφ, by simp, rfl⟩, ?_⟩
    have e : ivs (xs ++ [x]) = ivs xs ++ [[iv x]] := by simp [ivs]
    rw [e]
    exact AH.Sub.set_both (.set hbase _ (hbase.none h1)) _ _
/-- It is read, whatever families that were there before hold. -/
theorem GrS.len {a : AV} {xs : List Int} (h : GrS σ τ a xs) : lenS a = some (iv (xs.length : Int)) := by
  obtain ⟨τ1, h, _⟩ := h
  rcases h with ⟨rfl, rfl, _⟩ | ⟨φ, st, _, rfl, _⟩ <;> rfl
theorem own_rd {φ st i : Nat} {out : List Int} (hF : τ φ = some ⟨st, 1, ivs out⟩) (hi : i < out.length) : idx 1 (.own φ st 0 out.length) (iv (i : Int)) τ = some (.ptr φ st i 0) ∧ lod (.ptr φ st i 0) τ = some (iv (atH out i)) := by
  constructor
  · have := idx_own (st := st) (off := 0) hF hi
    rwa [Nat.zero_add] at this
  · refine lod_at hF rfl ?_
    simp [atH, List.getD, hi]
theorem own_wr {φ st i : Nat} {out : List Int} {v : Int} {k : AH → Prop} (hF : τ φ = some ⟨st, 1, ivs out⟩) (hi : i < out.length) (h : k (τ.set φ ⟨st, 1, ivs (out.set i v)⟩)) : sto 1 (.ptr φ st i 0) (iv v) τ k := by
  refine sto_own hF (by simpa using hi) ?_ (cs := [iv v]) rfl rfl (by simp; rfl) ?_
  · simp [List.getD, hi]
  · rw [show ivs (out.set i v) = (ivs out).set i [iv v] by simp [ivs, List.map_set]] at h
    exact h
theorem GrS.rd {a : AV} {xs : List Int} {j : Nat} {τ' : AH} (h : GrS σ τ a xs) (hj : j < xs.length) (hk : ∀ φ, σ φ = none → τ' φ = τ φ) : ∃ p, idx 1 a (iv (j : Int)) τ' = some p ∧ lod p τ' = some (iv xs[j]) := by
  obtain ⟨τ1, h, hs⟩ := h
  rcases h with ⟨rfl, rfl, _⟩ | ⟨φ, st, hφ, rfl, rfl⟩
  · cases hj
  · have hF : τ' φ = some ⟨st, 1, ivs xs⟩ := by rw [hk φ hφ]; exact hs _ _ (AH.set_same ..)
    obtain ⟨h1, h2⟩ := own_rd hF hj
    refine ⟨_, h1, ?_⟩
    rw [h2]
    simp [atH, List.getD, hj]
def negs (out : List Int) : Nat := (out.filter fun x => decide (x < 0)).length
theorem negs_set : ∀ (out : List Int) (i : Nat) (v : Int), i < out.length → atH out i < 0 → 0 ≤ v → negs (out.set i v) + 1 = negs out := by
  intro out
  induction out with
  | nil => intro i v h; cases h
  | cons x out ih =>
    intro i v hi h0 hv
    cases i with
    | zero =>
      have hx : x < 0 := by simpa [atH, List.getD] using h0
      unfold negs
      simp only [List.set_cons_zero, List.filter_cons]
      rw [if_neg (by simp; omega), if_pos (by simpa using hx)]
      rfl
    | succ i =>
      have := ih i v (by simpa using hi) (by simpa [atH, List.getD] using h0) hv
      unfold negs at this ⊢
      simp only [List.set_cons_succ, List.filter_cons]
      split
      · simp only [List.length_cons]; omega
      · exact this
theorem negs_init (n : Nat) : negs (0 :: List.replicate n (-1)) = n := by
  unfold negs
  rw [List.filter_cons, if_neg (by decide), List.filter_replicate, if_pos (by decide), List.length_replicate]
/-- The state of the main loop. -/
structure HSt (os : List OpD) (n : Nat) (out q : List Int) (es : List (List AV)) (off k : Nat) (P : Nat → Prop) (m : Int) : Prop where
  inv : HInv os out P m
  el : es.length = off + q.length
  eq : es.drop off = ivs q
  rng : ∀ t, t ∈ q → ∃ i : Nat, t = i ∧ i < n ∧ 0 ≤ atH out i
  ms : q.length + negs out = k
theorem hd_at {es : List (List AV)} {off : Nat} {t : Int} {q : List Int} (h : es.drop off = ivs (t :: q)) : es[off]? = some [iv t] := by
  have : (es.drop off)[0]? = some [iv t] := by rw [h]; rfl
  rwa [List.getElem?_drop, Nat.add_zero] at this
theorem sub3 {φ1 φ2 ψ : Nat} {N1 N2 O1 O2 G : Fam} (hne : φ1 ≠ φ2) (hψ : τ ψ = none) (h1 : ψ ≠ φ1) (h2 : ψ ≠ φ2) : AH.Sub ((τ.set φ1 N1).set φ2 N2) (((((τ.set φ1 O1).set φ2 O2).set ψ G).set φ2 N2).set φ1 N1) := by
  intro ζ F hζ
  by_cases z1 : ζ = φ1
  · subst z1
    rw [AH.set_ne' hne, AH.set_same] at hζ
    rw [AH.set_same]; exact hζ
  by_cases z2 : ζ = φ2
  · subst z2
    rw [AH.set_same] at hζ
    rw [AH.set_ne' z1, AH.set_same]; exact hζ
  rw [AH.set_ne' z2, AH.set_ne' z1] at hζ
  have z3 : ¬ ζ = ψ := by rintro rfl; rw [hψ] at hζ; cases hζ
  rw [AH.set_ne' z1, AH.set_ne' z2, AH.set_ne' z3, AH.set_ne' z2, AH.set_ne' z1]
  exact hζ
theorem bsl_one {x : Int} {k : AV → AH → Prop} (h : ∀ φ, σ φ = none → k (.own φ 0 0 1) (σ.set φ ⟨0, 1, ivs [x]⟩)) : bsl 1 [iv 0] 1 [(0, iv x)] σ k := by
  refine ⟨by decide, ?_⟩
  rw [if_neg (by decide)]
  exact h
theorem len_own {φ st off n : Nat} : lenS (.own φ st off n) = some (iv (n : Int)) := rfl
theorem slc_own1 {φ st off n : Nat} {es : List (List AV)} (hF : τ φ = some ⟨st, 1, es⟩) : slc 1 (.own φ st off (n + 1)) (some (iv 1)) none none τ = some (.own φ st (off + 1) n) := by
  have e : abd (some (iv 1)) 0 = some 1 := rfl
  have e2 : abd none (n + 1) = some (n + 1) := rfl
  simp only [slc, hF, e, e2]
  rw [if_pos (⟨by omega, Nat.le_refl _, trivial, trivial⟩ : 1 ≤ n + 1 ∧ n + 1 ≤ n + 1 ∧ True ∧ True)]
  rfl
theorem idx_own0 {φ st off n : Nat} {es : List (List AV)} (hF : τ φ = some ⟨st, 1, es⟩) : idx 1 (.own φ st off (n + 1)) (iv 0) τ = some (.ptr φ st off 0) := idx_own (i := 0) hF (Nat.succ_pos n)
set_option maxRecDepth 100000 in
theorem c_impl_heightsOf_own {b : Blk} (hs : smB b.ops) (hl : b.ops.length ≤ 200) (hbad : HBad b.ops → R (.ret (.tup [nilS, bv false])) σ)
    (hok : ∀ out φ, HOk b.ops out → σ φ = none → R (.ret (.tup [.own φ 0 0 out.length, bv true])) (σ.set φ ⟨0, 1, ivs out⟩)) : acall TP fn_impl_heightsOf [.agg (encBlk b)] σ R := by
  refine s_impl_heightsOf_ok ?_
  unfold s_impl_heightsOf
  refine box_encBlk ?_
  simp only [RR, RT, len_ro]
  by_cases c0 : b.ops.length = 0
  · have : ((b.ops.length : Int) = 0) := by omega
    simp only [this, RR]
    exact ret_here (hbad (.inl c0))
  have c0' : ¬ ((b.ops.length : Int) = 0) := by omega
  simp only [c0', lodA_all (len_encBlk b), RR]
  refine c_impl_targets hs hl ?_
  simp only [RR, len_ro]
  refine lp_same (tgtL b.ops).length (fun j => (.rop (encBlk b) 0, iv (b.ops.length : Int), .ro (ivs (tgtL b.ops)), iv ((tgtL b.ops).length : Int), iv (j : Int), ())) (fun j => ∀ (i : Nat) (hi : i < (tgtL b.ops).length), i < j → (tgtL b.ops)[i] < b.ops.length) rfl (fun i hi h => by omega) ?_
  intro j hj hH R' hR'
  by_cases hlt : j < (tgtL b.ops).length
  · have g : (j : Int) < ((tgtL b.ops).length : Int) := by omega
    simp only [g, idx_ro (enc := fun x => [iv x]) hlt (fun _ => rfl), lod_one, RR]
    by_cases c1 : (b.ops.length : Int) ≤ (tgtL b.ops)[j]
    · simp only [c1, RR]
      obtain ⟨_, o, ho, e⟩ := mem_tgtL.1 (List.getElem_mem hlt)
      exact ret_here (hbad (.inr (.inl ⟨o, ho, by omega⟩)))
    · simp only [c1, ibin_up hlt (by have := tgtL_len b.ops; omega), RR]
      refine hR' hlt (fun i hi h => ?_) _ (.refl _)
      rcases Nat.lt_or_ge i j with h1 | h1
      · exact hH i hi h1
      · obtain rfl : i = j := by omega
        omega
  have g : ¬ (j : Int) < ((tgtL b.ops).length : Int) := by omega
  have htg : ∀ o, o ∈ b.ops → tgtN o < b.ops.length := by
    intro o ho
    rcases Int.lt_or_le (tgtN o) 0 with h | h
    · omega
    · obtain ⟨i, hi, e⟩ := List.getElem_of_mem (mem_tgtL.2 ⟨h, o, ho, rfl⟩)
      have := hH i hi (by omega)
      omega
  simp only [g, RR]
  clear hR' R' hH
  refine mk_Li (by omega) (by omega) (by omega) fun φ1 h1 => ?_
  simp only [Int.toNat_natCast, len_own, RR]
  refine lp_for b.ops.length (fun j => (.rop (encBlk b) 0, iv (b.ops.length : Int), .own φ1 0 0 b.ops.length, iv (b.ops.length : Int), iv (j : Int), ())) (fun j τ => τ = σ.set φ1 ⟨0, 1, ivs (List.replicate j (-1) ++ List.replicate (b.ops.length - j) 0)⟩) rfl (by simp [ivs]) ?_
  rintro j _ hj rfl R' hR'
  have hlen : (List.replicate j (-1 : Int) ++ List.replicate (b.ops.length - j) 0).length = b.ops.length := by simp; omega
  by_cases hlt : j < b.ops.length
  · have g : (j : Int) < (b.ops.length : Int) := by omega
    have hF := AH.set_same σ φ1 (⟨0, 1, ivs (List.replicate j (-1) ++ List.replicate (b.ops.length - j) 0)⟩ : Fam)
    obtain ⟨e1, _⟩ := own_rd hF (i := j) (by omega)
    rw [hlen] at e1
    simp only [g, e1, RR]
    refine own_wr hF (by omega) ?_
    simp only [ibin_up hlt (by omega), RR, AH.set_set]
    refine hR' hlt _ _ (.refl _) ?_
    congr 3
    rw [List.set_append_right _ _ (by simp)]
    simp only [List.length_replicate, Nat.sub_self]
    obtain ⟨d, hd⟩ : ∃ d, b.ops.length - j = d + 1 := ⟨b.ops.length - j - 1, by omega⟩
    rw [hd, List.replicate_succ, List.set_cons_zero, show b.ops.length - (j + 1) = d by omega, List.replicate_succ']
    simp
  have g : ¬ (j : Int) < (b.ops.length : Int) := by omega
  obtain rfl : j = b.ops.length := by omega
  simp only [g, RR]
  clear hR' R'
  simp only [Nat.sub_self, List.replicate_zero, List.append_nil] at hlen ⊢
  have hF := AH.set_same σ φ1 (⟨0, 1, ivs (List.replicate b.ops.length (-1))⟩ : Fam)
  obtain ⟨e1, _⟩ := own_rd hF (i := 0) (by omega)
  rw [hlen] at e1
  have e1' : idx 1 (.own φ1 0 0 b.ops.length) (iv 0) (σ.set φ1 ⟨0, 1, ivs (List.replicate b.ops.length (-1))⟩) = some (.ptr φ1 0 0 0) := e1
  simp only [e1', RR]
  refine own_wr hF (by omega) ?_
  simp only [AH.set_set]
  refine bsl_one fun φ2 h2 => ?_
  rw [AH.set_none] at h2
  have hne : φ1 ≠ φ2 := Ne.symm h2.1
  have hbase : ∀ F1 F2, AH.Sub σ ((σ.set φ1 F1).set φ2 F2) := fun F1 F2 => AH.Sub.set (AH.Sub.set (.refl σ) F1 h1) F2 h2.2
  have einit : (List.replicate b.ops.length (-1 : Int)).set 0 0 = 0 :: List.replicate (b.ops.length - 1) (-1) := by
    obtain ⟨d, hd⟩ : ∃ d, b.ops.length = d + 1 := ⟨b.ops.length - 1, by omega⟩
    rw [hd, List.replicate_succ]; rfl
  rw [einit]
  refine lp_by (fun k x τ => ∃ out q es st off, k ≤ b.ops.length ∧ x = (.rop (encBlk b) 0, iv (b.ops.length : Int), .own φ1 0 0 b.ops.length, .own φ2 st off q.length, ()) ∧ τ = (σ.set φ1 ⟨0, 1, ivs out⟩).set φ2 ⟨st, 1, es⟩ ∧
      HSt b.ops b.ops.length out q es off k (fun i => (i : Int) ∈ q) (2 * (b.ops.length - k))) b.ops.length
    ⟨0 :: List.replicate (b.ops.length - 1) (-1), [0], ivs [0], 0, 0, Nat.le_refl _, rfl, rfl, ⟨by
      have := HInv.init (os := b.ops) (by omega) (P := fun i => (i : Int) ∈ [(0 : Int)]) (by simp)
      rw [show (2 * ((b.ops.length : Int) - b.ops.length)) = 0 by omega]; exact this, rfl, rfl, by
      intro t ht
      rw [List.mem_singleton] at ht
      subst ht
      exact ⟨0, rfl, by omega, by simp [atH]⟩, by rw [negs_init]; simp; omega⟩⟩ ?_
  rintro k x τ ⟨out, q, es, st, off, hk, rfl, rfl, hS⟩ R' hR'
  have hF1 : ((σ.set φ1 ⟨0, 1, ivs out⟩).set φ2 ⟨st, 1, es⟩) φ1 = some ⟨0, 1, ivs out⟩ := by rw [AH.set_ne' hne, AH.set_same]
  have hF2 : ((σ.set φ1 ⟨0, 1, ivs out⟩).set φ2 ⟨st, 1, es⟩) φ2 = some ⟨st, 1, es⟩ := AH.set_same ..
  have hol := hS.inv.len
  cases q with
  | nil =>
    simp only [len_own, RR, List.length_nil]
    have hout : HOk b.ops out := HInv.fin (m := 2 * (b.ops.length - k)) (by omega) (hS.inv.weak (Int.le_refl _) fun j _ _ hj => by simp at hj) htg
    have := hok out φ1 hout h1
    rw [hol] at this
    exact aret_sub (.set (.refl _) _ (AH.set_none.2 ⟨Ne.symm hne, h2.2⟩)) this
  | cons t q =>
    obtain ⟨i, rfl, hi, h0⟩ := hS.rng t (by simp)
    have g : (0 : Int) < ((((i : Int) :: q).length : Nat) : Int) := by simp
    have e2 : lod (.ptr φ2 st off 0) ((σ.set φ1 ⟨0, 1, ivs out⟩).set φ2 ⟨st, 1, es⟩) = some (iv (i : Int)) := lod_at hF2 rfl (by simp [List.getD, hd_at hS.eq])
    obtain ⟨e3, e4⟩ := own_rd hF1 (i := i) (by omega)
    rw [hol] at e3
    simp only [List.length_cons, len_own, RR] at g ⊢
    simp only [g, idx_own0 hF2, e2, slc_own1 hF2, RR, RT, idx_ro hi len_encOp]
    refine new_encOp rfl ?_
    have hso := hs _ (List.getElem_mem hi)
    have ho : opA b.ops i = b.ops[i] := (op_at hi).symm
    have hv : atH out i ≤ 2 * (b.ops.length - k) := by
      rcases hS.inv.own i hi with c | ⟨_, c, _⟩
      · omega
      · exact c
    have ht := takes_le hso
    have hp := puts_le b.ops[i]
    have e5 : ibin .sub (iv (atH out i)) (iv (takesN b.ops[i])) = some (iv (atH out i - takesN b.ops[i])) := ibin_sub (by omega) (by omega)
    have e6 : ibin .add (iv (atH out i - takesN b.ops[i])) (iv (putsN b.ops[i])) = some (iv (nextH b.ops[i] (atH out i))) := ibin_add (by omega) (by omega)
    have eb : bslR 1 [AV.val (Value.int IntKind.i64 0)] 0 [] = some .emp := rfl
    simp only [e3, e4, lodA_all (len_encOp _), eb, RR]
    refine c_impl_Op_takes hso ?_
    simp only [e3, e4, e5, lodA_all (len_encOp _), eq_self, and_true, true_and, RR]
    refine c_impl_Op_puts ?_
    simp only [e3, e4, e6, eq_self, and_true, true_and, RR]
    refine jn_of (fun x τ => τ = (σ.set φ1 ⟨0, 1, ivs out⟩).set φ2 ⟨st, 1, es⟩ ∧ x = (.rop (encBlk b) 0, iv (b.ops.length : Int), .own φ1 0 0 b.ops.length, .own φ2 st (off + 1) q.length, iv (i : Int), .rop (encOp b.ops[i]) 0, iv (nextH b.ops[i] (atH out i)), .emp, bv (!highB b.ops[i] (atH out i)), ())) ?_ ?_
    rotate_left
    · intro k4 hk4
      refine c_impl_Op_takes hso ?_
      simp only [e3, e4, eq_self, and_true, true_and, RR]
      have hi2 := high_iff (o := b.ops[i]) h0
      by_cases c : atH out i < takesN b.ops[i]
      · rw [decide_eq_true c, Bool.true_or] at hi2
        rw [← hi2] at hk4
        simp only [c, RR]
        exact hk4 _ _ ⟨rfl, rfl⟩
      · rw [decide_eq_false c, Bool.false_or] at hi2
        rw [← hi2] at hk4
        simp only [c, e4, lodA_all (len_encOp _), e3, RR]
        refine c_impl_Op_ends hso ?_
        simp only [RR]
        exact hk4 _ _ ⟨rfl, rfl⟩
    rintro _ _ ⟨rfl, rfl⟩
    refine apick_cases (fun c => ?_) (fun c => ?_)
    · have : highB (opA b.ops i) (atH out i) = false := by rw [ho]; simpa using c
      exact aret_sub (hbase _ _) (hbad (hS.inv.bad_high hi h0 this))
    have hh : highB (opA b.ops i) (atH out i) = true := by rw [ho]; simpa using c
    have hn0 : nextH (opA b.ops i) (atH out i) = nextH b.ops[i] (atH out i) := by rw [ho]
    have hnb : nextH b.ops[i] (atH out i) ≤ 2 * (b.ops.length - k) + 2 := by unfold nextH; omega
    have hk1 : 1 ≤ k := by have := hS.ms; simp at this; omega
    refine jn_of (fun x τ => ∃ a, GrS ((σ.set φ1 ⟨0, 1, ivs out⟩).set φ2 ⟨st, 1, es⟩) τ a (if goesB b.ops[i].kind then [(i : Int) + 1] else []) ∧ x = (.rop (encBlk b) 0, iv (b.ops.length : Int), .own φ1 0 0 b.ops.length, .own φ2 st (off + 1) q.length, .rop (encOp b.ops[i]) 0, iv (nextH b.ops[i] (atH out i)), a, ())) ?_ ?_
    rotate_left
    · intro k5 hk5
      simp only [lodA_all (len_encOp _), RR]
      refine c_impl_Op_goesOn ?_
      have e7 : ibin .add (iv (i : Int)) (.val (.int .i64 1)) = some (iv ((i : Int) + 1)) := ibin_add (by omega) (by omega)
      cases c2 : goesB b.ops[i].kind
      · rw [c2] at hk5
        simp only [RR]
        exact hk5 _ _ ⟨.emp, .emp (.refl _), rfl⟩
      · rw [c2] at hk5
        simp only [e7, RR]
        refine (GrS.emp (.refl _)).push (by decide) fun a' τ' hG' => ?_
        exact hk5 _ _ ⟨a', hG', rfl⟩
    rintro _ τ1 ⟨a1, hG1, rfl⟩
    refine jn_of (fun x τ => ∃ a, GrS ((σ.set φ1 ⟨0, 1, ivs out⟩).set φ2 ⟨st, 1, es⟩) τ a (leads b.ops[i] i) ∧ x = (.rop (encBlk b) 0, iv (b.ops.length : Int), .own φ1 0 0 b.ops.length, .own φ2 st (off + 1) q.length, iv (nextH b.ops[i] (atH out i)), a, ())) ?_ ?_
    rotate_left
    · intro k6 hk6
      refine c_impl_Op_target ?_
      simp only [RR]
      unfold leads at hk6
      refine tgt_cases hso isPt_122 (fun h0 p hp hq => ?_) (fun h0 => ?_)
      · rw [if_pos h0] at hk6
        simp only [hp, hq, RR]
        refine hG1.push (by split <;> simp) fun a' τ' hG' => ?_
        exact hk6 _ _ ⟨a', hG', rfl⟩
      · rw [if_neg (show ¬ 0 ≤ tgtN b.ops[i] by omega), List.append_nil] at hk6
        exact hk6 _ _ ⟨a1, hG1, rfl⟩
    rintro _ τ0 ⟨a, hG, rfl⟩
    have hb0 := hG.base
    have hbσ : AH.Sub σ τ0 := (hbase _ _).trans hb0
    have hT1 : τ0 φ1 = some ⟨0, 1, ivs out⟩ := hb0 _ _ hF1
    have hT2 : τ0 φ2 = some ⟨st, 1, es⟩ := hb0 _ _ hF2
    simp only [hG.len, RR]
    have hms := hS.ms
    simp only [List.length_cons] at hms
    refine lp_by (fun k7 x τ => ∃ (j : Nat) (out' q' : List Int) (st' off' : Nat) (es' : List (List AV)), j + k7 = (leads b.ops[i] i).length ∧
        x = (.rop (encBlk b) 0, iv (b.ops.length : Int), .own φ1 0 0 b.ops.length, .own φ2 st' off' q'.length, iv (nextH b.ops[i] (atH out i)), a, iv ((leads b.ops[i] i).length : Int), iv (j : Int), ()) ∧
        τ = (τ0.set φ1 ⟨0, 1, ivs out'⟩).set φ2 ⟨st', 1, es'⟩ ∧ HSt b.ops b.ops.length out' q' es' off' (k - 1) (fun l => (l : Int) ∈ q' ∨ l = i) (2 * (b.ops.length - k) + 2) ∧ atH out' i = atH out i ∧
        ∀ (j' : Nat) (hj' : j' < (leads b.ops[i] i).length), j' < j → (leads b.ops[i] i)[j'] < b.ops.length ∧ atH out' ((leads b.ops[i] i)[j']).toNat = nextH b.ops[i] (atH out i)) (leads b.ops[i] i).length
      ⟨0, out, q, st, off + 1, es, by omega, rfl, ?_, ⟨hS.inv.weak (by omega) fun j _ _ hj => .inl ?_, by have := hS.el; simp at this; omega, ?_, fun t ht => hS.rng t (by simp [ht]), by omega⟩, rfl, fun j' _ h => by omega⟩ ?_
    · rw [AH.set_self hT1, AH.set_self hT2]
    · rcases List.mem_cons.1 hj with h | h
      · exact .inr (by omega)
      · exact .inl h
    · have := congrArg List.tail hS.eq
      rw [List.tail_drop] at this
      exact this
    clear hS
    rintro k7 x τ ⟨j, out', q', st', off', es', hj7, rfl, rfl, hS, hsame, hdone⟩ R7 hR7
    have hF1' : ((τ0.set φ1 ⟨0, 1, ivs out'⟩).set φ2 ⟨st', 1, es'⟩) φ1 = some ⟨0, 1, ivs out'⟩ := by rw [AH.set_ne' hne, AH.set_same]
    have hF2' : ((τ0.set φ1 ⟨0, 1, ivs out'⟩).set φ2 ⟨st', 1, es'⟩) φ2 = some ⟨st', 1, es'⟩ := AH.set_same ..
    have hol' := hS.inv.len
    have hbt : AH.Sub σ ((τ0.set φ1 ⟨0, 1, ivs out'⟩).set φ2 ⟨st', 1, es'⟩) := AH.Sub.set (AH.Sub.set hbσ _ h1) _ h2.2
    have h0' : 0 ≤ atH out' i := by rw [hsame]; exact h0
    have hh' : highB (opA b.ops i) (atH out' i) = true := by rw [hsame]; exact hh
    have hn0' : nextH (opA b.ops i) (atH out' i) = nextH b.ops[i] (atH out i) := by rw [hsame, hn0]
    by_cases hlt : j < (leads b.ops[i] i).length
    · have g : (j : Int) < ((leads b.ops[i] i).length : Int) := by omega
      obtain ⟨p, q1, q2⟩ := hG.rd (τ' := (τ0.set φ1 ⟨0, 1, ivs out'⟩).set φ2 ⟨st', 1, es'⟩) hlt (fun φ hφ => by
        have n1 : ¬ φ = φ1 := by rintro rfl; rw [hF1] at hφ; cases hφ
        have n2 : ¬ φ = φ2 := by rintro rfl; rw [hF2] at hφ; cases hφ
        rw [AH.set_ne' n2, AH.set_ne' n1])
      have hmem : (leads b.ops[i] i)[j] ∈ leads (opA b.ops i) i := by rw [ho]; exact List.getElem_mem hlt
      have hnn := lead_nn hmem
      have hl2 : (leads b.ops[i] i).length ≤ 2 := by unfold leads; rw [List.length_append]; split <;> split <;> simp
      generalize ht : (leads b.ops[i] i)[j] = t at hmem hnn q2
      obtain ⟨tn, rfl⟩ : ∃ tn : Nat, t = (tn : Int) := ⟨t.toNat, by omega⟩
      by_cases c1 : (b.ops.length : Int) ≤ (tn : Int)
      · simp only [g, q1, q2, c1, RR, jn]
        exact aret_sub hbt (hbad (hS.inv.bad_lead hi h0' hh' hmem (.inl c1)))
      have htn : tn < b.ops.length := by omega
      obtain ⟨r1, r2⟩ := own_rd hF1' (i := tn) (by omega)
      rw [hol'] at r1
      by_cases c2 : 0 ≤ atH out' tn
      · by_cases c3 : atH out' tn = nextH b.ops[i] (atH out i)
        · have c2' : ¬ atH out' tn < 0 := by omega
          have c2'' : 0 ≤ nextH b.ops[i] (atH out i) := by omega
          have c2x : ¬ nextH b.ops[i] (atH out i) < 0 := by omega
          simp only [g, q1, q2, c1, c2, c2', c2'', c2x, c3, r1, r2, RR, jn, ibin_up hlt (by omega)]
          exact hR7 _ _ (k7 - 1) _ (by omega) (.refl _) ⟨j + 1, out', q', st', off', es', by omega, rfl, rfl, hS, hsame, fun j' hj' h => by
            rcases Nat.lt_or_ge j' j with h1 | h1
            · exact hdone j' hj' h1
            · obtain rfl : j' = j := by omega
              rw [ht]
              exact ⟨by omega, by rw [Int.toNat_natCast]; exact c3⟩⟩
        · simp only [g, q1, q2, c1, c2, c3, r1, r2, RR, jn]
          exact aret_sub hbt (hbad (hS.inv.bad_lead hi h0' hh' hmem (.inr ⟨by rw [Int.toNat_natCast]; exact c2, by rw [Int.toNat_natCast, hn0']; exact c3⟩)))
      · have c2' : atH out' tn < 0 := by omega
        simp only [g, q1, q2, c1, c2, c2', r1, r2, RR, jn]
        have hql : q'.length ≤ 200 := by have := hS.ms; omega
        refine push_own hF2' hS.el (by omega) fun ψ st2 hψ => ?_
        rw [AH.set_none, AH.set_none] at hψ
        have hF3 : ((((τ0.set φ1 ⟨0, 1, ivs out'⟩).set φ2 ⟨st', 1, es'⟩).set ψ ⟨0, 1, [[iv (tn : Int)]]⟩).set φ2 ⟨st2, 1, es' ++ [[iv (tn : Int)]]⟩) φ1 = some ⟨0, 1, ivs out'⟩ := by
          rw [AH.set_ne' hne, AH.set_ne' (Ne.symm hψ.2.1), hF1']
        obtain ⟨r3, r4⟩ := own_rd hF3 (i := tn) (by omega)
        rw [hol'] at r3
        simp only [r3, RR]
        refine own_wr hF3 (by omega) ?_
        simp only [RR, ibin_up hlt (by omega)]
        have hnn2 : 0 ≤ nextH b.ops[i] (atH out i) := by
          rw [← hn0']
          have := takes_of_lead hmem hh'
          have := puts_le (opA b.ops i)
          unfold nextH; omega
        have hneg := negs_set out' tn (nextH b.ops[i] (atH out i)) (by omega) c2' hnn2
        have hne2 : tn ≠ i := by rintro rfl; omega
        refine hR7 _ _ (k7 - 1) ((τ0.set φ1 ⟨0, 1, ivs (out'.set tn (nextH b.ops[i] (atH out i)))⟩).set φ2 ⟨st2, 1, es' ++ [[iv (tn : Int)]]⟩) (by omega) ?_ ⟨j + 1, out'.set tn (nextH b.ops[i] (atH out i)), q' ++ [(tn : Int)], st2, off', es' ++ [[iv (tn : Int)]], by omega, by rw [List.length_append]; rfl, rfl, ⟨?_, ?_, ?_, ?_, ?_⟩, ?_, ?_⟩
        · exact sub3 hne hψ.2.2 hψ.2.1 hψ.1
        · rw [← hn0']
          exact hS.inv.set hi h0' hh' hmem (Int.toNat_natCast tn) htn c2' (fun l hl => by
            rcases hl with h | h
            · exact .inl (by simp [h])
            · exact .inr h) (.inl (by simp)) (Int.le_refl _) (by rw [hn0']; exact hnb)
        · have := hS.el
          simp only [List.length_append, List.length_cons, List.length_nil]
          omega
        · have := hS.el
          rw [List.drop_append_of_le_length (by omega), hS.eq]
          simp [ivs]
        · intro u hu
          rcases List.mem_append.1 hu with h | h
          · obtain ⟨i', e, h3, h4⟩ := hS.rng u h
            refine ⟨i', e, h3, ?_⟩
            rw [atH_set (by omega), if_neg (by rintro rfl; omega)]
            exact h4
          · rw [List.mem_singleton] at h
            refine ⟨tn, h, htn, ?_⟩
            rw [atH_set (by omega), if_pos rfl]
            exact hnn2
        · have := hS.ms
          simp only [List.length_append, List.length_cons, List.length_nil]
          omega
        · rw [atH_set (by omega), if_neg hne2]
          exact hsame
        · intro j' hj' h
          rcases Nat.lt_or_ge j' j with h1 | h1
          · obtain ⟨d1, d2⟩ := hdone j' hj' h1
            refine ⟨d1, ?_⟩
            rw [atH_set (by omega)]
            split
            · rfl
            · exact d2
          · obtain rfl : j' = j := by omega
            rw [ht]
            refine ⟨by omega, ?_⟩
            rw [Int.toNat_natCast, atH_set (by omega), if_pos rfl]
    · have g : ¬ (j : Int) < ((leads b.ops[i] i).length : Int) := by omega
      simp only [g, RR]
      refine hR' _ _ (k - 1) ((σ.set φ1 ⟨0, 1, ivs out'⟩).set φ2 ⟨st', 1, es'⟩) (by omega) (AH.Sub.set_both (AH.Sub.set_both hbσ _ _) _ _) ⟨out', q', es', st', off', by omega, rfl, rfl, ⟨?_, hS.el, hS.eq, hS.rng, hS.ms⟩⟩
      refine hS.inv.weak (by omega) fun l hl h3 h4 => ?_
      rcases h4 with h4 | rfl
      · exact .inl h4
      · refine .inr ⟨hh', fun t ht => ?_⟩
        rw [ho] at ht
        obtain ⟨j', hj', e⟩ := List.getElem_of_mem ht
        obtain ⟨d1, d2⟩ := hdone j' hj' (by omega)
        rw [e] at d1 d2
        exact ⟨d1, by rw [d2, hn0']⟩
end Go.Proofs.YtlggnigbemghgaaGreatDoor.E
