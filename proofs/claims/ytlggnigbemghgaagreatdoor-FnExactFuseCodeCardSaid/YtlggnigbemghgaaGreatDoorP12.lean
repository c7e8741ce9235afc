/- The reference's heights. -/
import Derived.Test.YtlggnigbemghgaaGreatDoorP11
set_option linter.unusedSectionVars false
set_option linter.unusedSimpArgs false
set_option linter.unusedVariables false
namespace Go.Proofs.YtlggnigbemghgaaGreatDoor.E
open Go Go.RowKit
variable [L : Lam]
variable {σ τ : AH} {R : AEnd → AH → Prop}
noncomputable def htsV (os : List OpD) : AV := match hts os with
  | some out => .tup [.ro (ivs out), bv true]
  | none => .tup [nilS, bv false]
theorem fz_own {φ : Nat} {out : List Int} (hφ : σ φ = none) : Fz σ (σ.set φ ⟨0, 1, ivs out⟩) (.own φ 0 0 out.length) (.ro (ivs out)) :=
  fz_ints hφ rfl fun i hi => by rw [List.getElem?_map, List.getElem?_eq_getElem hi]; rfl
theorem Fz.tup2 {a b c d : AV} (h : Fz σ τ a c) (k : Fz σ τ b d) : Fz σ τ (.tup [a, b]) (.tup [c, d]) := by
  refine .tup rfl fun i hi => ?_
  match i, hi with
  | 0, _ => exact h
  | 1, _ => exact k
theorem c_impl_heightsOf {b : Blk} (hs : smB b.ops) (hl : b.ops.length ≤ 200) (h : R (.ret (htsV b.ops)) σ) : acall TP fn_impl_heightsOf [.agg (encBlk b)] σ R := by
  refine acall_imp (c_impl_heightsOf_own (σ := σ) (R := fun e σ' => (e = .ret (.tup [nilS, bv false]) ∧ σ' = σ ∧ HBad b.ops) ∨ ∃ out φ, HOk b.ops out ∧ σ φ = none ∧ e = .ret (.tup [.own φ 0 0 out.length, bv true]) ∧ σ' = σ.set φ ⟨0, 1, ivs out⟩) hs hl (fun h0 => .inl ⟨rfl, rfl, h0⟩) (fun out φ h0 hφ => .inr ⟨out, φ, h0, hφ, rfl, rfl⟩)) ?_
  rintro e σ' (⟨rfl, rfl, h0⟩ | ⟨out, φ, h0, hφ, rfl, rfl⟩)
  · unfold htsV at h
    rw [hts_bad h0] at h
    exact ⟨_, rfl, _, σ', imp_freeze (.refl σ') (.same _), h⟩
  · unfold htsV at h
    rw [hts_ok h0] at h
    exact ⟨_, rfl, _, σ, imp_freeze (.set (.refl σ) _ hφ) (Fz.tup2 (fz_own hφ) (.same _)), h⟩
/-! ### the reference's -/
theorem aext0 (a b : AV) : aext (.tup [a, b]) 0 = some a := id rfl
theorem aext1 (a b : AV) : aext (.tup [a, b]) 1 = some b := id rfl
theorem c_spec_l10Lead {φ st n : Nat} {out : List Int} {t v : Int} (hF : σ φ = some ⟨st, 1, ivs out⟩) (hn : out.length = n) (hl : out.length ≤ 200)
    (h1 : t < 0 ∨ (out.length : Int) ≤ t → R (.ret (.tup [bv false, bv false])) σ)
    (h2 : ∀ n : Nat, t = (n : Int) → n < out.length → atH out n < 0 → R (.ret (.tup [bv true, bv true])) (σ.set φ ⟨st, 1, ivs (out.set n v)⟩))
    (h3 : ∀ n : Nat, t = (n : Int) → n < out.length → 0 ≤ atH out n → R (.ret (.tup [bv false, bv (decide (atH out n = v))])) σ) : acall TP fn_spec_l10Lead [.own φ st 0 n, iv t, iv v] σ R := by
  subst hn
  refine s_spec_l10Lead_ok ?_
  unfold s_spec_l10Lead
  have e : ibin .sub (iv (out.length : Int)) (.val (.int .i64 1)) = some (iv ((out.length : Int) - 1)) := ibin_sub (by omega) (by omega)
  simp only [len_own, e, RR]
  refine c_spec_l1In ?_
  cases c : inB 0 ((out.length : Int) - 1) t
  · simp only [RR]
    refine ret_here (h1 ?_)
    have : ¬ (0 ≤ t ∧ t ≤ (out.length : Int) - 1) := fun h => by rw [inB_iff.2 h] at c; cases c
    omega
  · have hc := inB_iff.1 c
    obtain ⟨n, rfl⟩ : ∃ n : Nat, t = (n : Int) := ⟨t.toNat, by omega⟩
    have hn : n < out.length := by omega
    obtain ⟨r1, r2⟩ := own_rd hF hn
    simp only [r1, r2, RR]
    by_cases c2 : atH out n < 0
    · simp only [c2, r1, RR]
      refine own_wr hF hn ?_
      exact ret_here (h2 n rfl hn c2)
    · simp only [c2, r1, r2, RR]
      exact ret_here (h3 n rfl hn (by omega))
/-- The state of one pass. -/
structure PSt (os : List OpD) (out0 out : List Int) (turned : Bool) (i : Nat) (m : Int) : Prop where
  inv : HInv os out (fun _ => True) m
  le : negs out ≤ negs out0
  lt : turned = true → negs out < negs out0
  eq : turned = false → out = out0 ∧ ∀ j, j < i → 0 ≤ atH out0 j → Done os out0 j
theorem PSt.set {os : List OpD} {out0 out : List Int} {turned : Bool} {i t i2 : Nat} {m m' : Int} {s : Int} (h : PSt os out0 out turned i2 m) (hi : i < os.length) (h0 : 0 ≤ atH out i) (hh : highB (opA os i) (atH out i) = true) (hs : s ∈ leads (opA os i) i) (hst : s = (t : Int))
    (ht : t < os.length) (hn : atH out t < 0) (hm : m ≤ m') (hm' : nextH (opA os i) (atH out i) ≤ m') : PSt os out0 (out.set t (nextH (opA os i) (atH out i))) true i m' := by
  have h1 := takes_of_lead hs hh
  have h2 := puts_le (opA os i)
  have hneg := negs_set out t (nextH (opA os i) (atH out i)) (by rw [h.inv.len]; exact ht) hn (by unfold nextH; omega)
  have := h.le
  exact ⟨h.inv.set hi h0 hh hs (by rw [hst]; rfl) ht hn (fun _ _ => trivial) trivial hm hm', by omega, fun _ => by omega, fun h => by cases h⟩
theorem c_spec_l10Pass {φ st : Nat} {b : Blk} {out : List Int} {m : Int} (hs : smB b.ops) (hl : b.ops.length ≤ 200) (hF : σ φ = some ⟨st, 1, ivs out⟩) (hI : HInv b.ops out (fun _ => True) m) (hm0 : 0 ≤ m) (hm : m ≤ 1000000)
    (hbad : ∀ out', HBad b.ops → R (.ret (.tup [bv false, bv false])) (σ.set φ ⟨st, 1, ivs out'⟩))
    (hok : ∀ out' turned, PSt b.ops out out' turned b.ops.length (m + 2 * b.ops.length) → R (.ret (.tup [bv turned, bv true])) (σ.set φ ⟨st, 1, ivs out'⟩)) : acall TP fn_spec_l10Pass [.rop (encBlk b) 0, .own φ st 0 b.ops.length] σ R := by
  refine s_spec_l10Pass_ok ?_
  unfold s_spec_l10Pass
  refine lp_by (fun k x τ => ∃ (i : Nat) (out' : List Int) (turned : Bool), i + k = b.ops.length ∧ x = (.rop (encBlk b) 0, .own φ st 0 b.ops.length, bv turned, iv (i : Int), ()) ∧ τ = σ.set φ ⟨st, 1, ivs out'⟩ ∧ PSt b.ops out out' turned i (m + 2 * i)) b.ops.length
    ⟨0, out, false, by omega, rfl, (AH.set_self hF).symm, ⟨hI.weak (by omega) fun _ _ _ _ => .inl trivial, Nat.le_refl _, fun h => (by cases h), fun _ => ⟨rfl, fun j hj => by omega⟩⟩⟩ ?_
  rintro k x τ ⟨i, out', turned, hk, rfl, rfl, hP⟩ R' hR'
  have hF1 := AH.set_same σ φ (⟨st, 1, ivs out'⟩ : Fam)
  have hol := hP.inv.len
  simp only [RR, RT, len_ro]
  by_cases hi : i < b.ops.length
  case neg =>
    have g : ¬ (i : Int) < (b.ops.length : Int) := by omega
    obtain rfl : i = b.ops.length := by omega
    simp only [g, RR]
    exact ret_here (hok out' turned hP)
  have g : (i : Int) < (b.ops.length : Int) := by omega
  have hso := hs _ (List.getElem_mem hi)
  have ho : opA b.ops i = b.ops[i] := (op_at hi).symm
  simp only [g, RR]
  refine jn_of (fun x τ => ∃ (out2 : List Int) (turned2 : Bool), x = (.rop (encBlk b) 0, .own φ st 0 b.ops.length, bv turned2, iv (i : Int), ()) ∧ τ = σ.set φ ⟨st, 1, ivs out2⟩ ∧ PSt b.ops out out2 turned2 (i + 1) (m + 2 * ((i + 1 : Nat) : Int))) ?_ ?_
  · rintro _ _ ⟨out2, turned2, rfl, rfl, hP2⟩
    simp only [ibin_up hi (by omega), RR]
    exact hR' _ _ (k - 1) _ (by omega) (.refl _) ⟨i + 1, out2, turned2, by omega, rfl, rfl, hP2⟩
  intro k2 hk2
  obtain ⟨r1, r2⟩ := own_rd hF1 (i := i) (by omega)
  rw [hol] at r1
  simp only [idx_ro hi len_encOp, r1, r2, RR]
  by_cases h0 : atH out' i < 0
  · simp only [h0, RR]
    refine hk2 _ _ ⟨out', turned, rfl, rfl, ⟨hP.inv.weak (by omega) fun _ _ _ _ => .inl trivial, hP.le, hP.lt, fun ht => ?_⟩⟩
    obtain ⟨e1, e2⟩ := hP.eq ht
    refine ⟨e1, fun j hj hj0 => ?_⟩
    rcases Nat.lt_or_ge j i with h1 | h1
    · exact e2 j h1 hj0
    · obtain rfl : j = i := by omega
      rw [← e1] at hj0; omega
  have h0' : 0 ≤ atH out' i := by omega
  have hv : atH out' i ≤ m + 2 * i := by
    rcases hP.inv.own i hi with c | ⟨_, c, _⟩
    · omega
    · exact c
  simp only [h0, r1, r2, RR]
  refine c_spec_l10High hso ?_
  cases hh : highB b.ops[i] (atH out' i)
  · simp only [RR]
    exact ret_here (hbad out' (hP.inv.bad_high hi h0' (by rw [ho]; exact hh)))
  have hh' : highB (opA b.ops i) (atH out' i) = true := by rw [ho]; exact hh
  have hn0 : nextH (opA b.ops i) (atH out' i) = nextH b.ops[i] (atH out' i) := by rw [ho]
  simp only [RR]
  refine c_spec_l10Takes hso ?_
  have ht := takes_le hso
  have hp := puts_le b.ops[i]
  have x0 : aext (.tup [iv (takesN b.ops[i]), iv (putsN b.ops[i])]) 0 = some (iv (takesN b.ops[i])) := rfl
  have x1 : aext (.tup [iv (takesN b.ops[i]), iv (putsN b.ops[i])]) 1 = some (iv (putsN b.ops[i])) := rfl
  have e5 : ibin .sub (iv (atH out' i)) (iv (takesN b.ops[i])) = some (iv (atH out' i - takesN b.ops[i])) := ibin_sub (by omega) (by omega)
  have e6 : ibin .add (iv (atH out' i - takesN b.ops[i])) (iv (putsN b.ops[i])) = some (iv (nextH b.ops[i] (atH out' i))) := ibin_add (by omega) (by omega)
  have hnb : nextH b.ops[i] (atH out' i) ≤ m + 2 * ((i + 1 : Nat) : Int) := by unfold nextH; omega
  simp only [x0, x1, r1, r2, e5, e6, RR]
  have lead : ∀ (out2 : List Int) (turned2 : Bool) (t : Int) (k : AV → AH → Prop), t ∈ leads b.ops[i] i → PSt b.ops out out2 turned2 i (m + 2 * ((i + 1 : Nat) : Int)) → atH out2 i = atH out' i →
      (∀ (n : Nat) (out3 : List Int) (turned3 : Bool), t = (n : Int) → n < b.ops.length → atH out3 n = nextH b.ops[i] (atH out' i) → PSt b.ops out out3 turned3 i (m + 2 * ((i + 1 : Nat) : Int)) → atH out3 i = atH out' i →
        (∀ j, atH out2 j = nextH b.ops[i] (atH out' i) → atH out3 j = nextH b.ops[i] (atH out' i)) → k (bv turned3) (σ.set φ ⟨st, 1, ivs out3⟩)) →
      acall TP fn_spec_l10Lead [.own φ st 0 b.ops.length, iv t, iv (nextH b.ops[i] (atH out' i))] (σ.set φ ⟨st, 1, ivs out2⟩) (onr (fun v85 σ =>
        og (aext v85 0) fun v86 =>
        og (aext v85 1) fun v87 =>
        og (aun .not v87) fun v89 =>
        apick v89 (
          aret (.tup [bv false, bv false]) σ R) (
          og (gval (bv turned2) false false (some v86)) fun v92 =>
          og (pickV (bv turned2) (bv true) v92) fun v93 =>
          k v93 σ)) (fun v σ => apan v σ R)) := by
    intro out2 turned2 t k htm hP2 hsame hk
    have hol2 := hP2.inv.len
    have htm' : t ∈ leads (opA b.ops i) i := by rw [ho]; exact htm
    have h02 : 0 ≤ atH out2 i := by rw [hsame]; exact h0'
    have hh2 : highB (opA b.ops i) (atH out2 i) = true := by rw [hsame]; exact hh'
    have hn2 : nextH (opA b.ops i) (atH out2 i) = nextH b.ops[i] (atH out' i) := by rw [hsame, hn0]
    refine c_spec_l10Lead (AH.set_same ..) hol2 (by omega) (fun hb => ?_) (fun n e hn hneg => ?_) (fun n e hn hpos => ?_)
    · simp only [aext0, aext1, RR]
      refine ret_here (hbad out2 (hP2.inv.bad_lead hi h02 hh2 htm' (.inl ?_)))
      have := lead_nn htm'
      omega
    · simp only [aext0, aext1, RR, AH.set_set]
      have hne : n ≠ i := by rintro rfl; omega
      have hset := hP2.set hi h02 hh2 htm' e (by omega) hneg (Int.le_refl _) (by rw [hn2]; exact hnb)
      rw [hn2] at hset
      have hk' := hk n (out2.set n (nextH b.ops[i] (atH out' i))) true e (by omega) (by rw [atH_set hn, if_pos rfl]) hset (by rw [atH_set hn, if_neg hne]; exact hsame) (fun j hj => by
        rw [atH_set hn]
        split
        · rfl
        · exact hj)
      cases turned2 <;> simp only [RR] <;> exact hk'
    · by_cases c : atH out2 n = nextH b.ops[i] (atH out' i)
      · have hk' := hk n out2 turned2 e (by omega) c hP2 hsame (fun j hj => hj)
        simp only [aext0, aext1, c, RR]
        cases turned2 <;> simp only [RR] <;> exact hk'
      · simp only [aext0, aext1, c, RR]
        exact ret_here (hbad out2 (hP2.inv.bad_lead hi h02 hh2 htm' (.inr ⟨by rw [e, Int.toNat_natCast]; exact hpos, by rw [e, Int.toNat_natCast, hn2]; exact c⟩)))
  refine jn_of (fun x τ => ∃ (out2 : List Int) (turned2 : Bool), x = (.rop (encBlk b) 0, .own φ st 0 b.ops.length, bv turned2, iv (i : Int), .rop (encOp b.ops[i]) 0, iv (nextH b.ops[i] (atH out' i)), ()) ∧ τ = σ.set φ ⟨st, 1, ivs out2⟩ ∧ PSt b.ops out out2 turned2 i (m + 2 * ((i + 1 : Nat) : Int)) ∧
      atH out2 i = atH out' i ∧ (goesB b.ops[i].kind = true → i + 1 < b.ops.length ∧ atH out2 (i + 1) = nextH b.ops[i] (atH out' i))) ?_ ?_
  rotate_left
  · intro k3 hk3
    simp only [RR, RT]
    refine c_spec_l10Ends ?_
    have hP1 : PSt b.ops out out' turned i (m + 2 * ((i + 1 : Nat) : Int)) := ⟨hP.inv.weak (by omega) fun _ _ _ _ => .inl trivial, hP.le, hP.lt, hP.eq⟩
    cases c : goesB b.ops[i].kind
    · simp only [RR]
      exact hk3 _ _ ⟨out', turned, rfl, rfl, hP1, rfl, fun h => by rw [c] at h; cases h⟩
    · have e7 : ibin .add (iv (i : Int)) (.val (.int .i64 1)) = some (iv ((i : Int) + 1)) := ibin_add (by omega) (by omega)
      simp only [e7, RR]
      refine lead out' turned ((i : Int) + 1) _ (by unfold leads; rw [c]; simp) hP1 rfl fun n out3 turned3 e hn h1 h2 h3 _ => ?_
      obtain rfl : n = i + 1 := by omega
      exact hk3 _ _ ⟨out3, turned3, rfl, rfl, h2, h3, fun _ => ⟨hn, h1⟩⟩
  rintro _ _ ⟨out2, turned2, rfl, rfl, hP2, hsame, hgo⟩
  simp only [RR]
  refine c_spec_l9Target ?_
  simp only [RR]
  have fin : ∀ (out3 : List Int) (turned3 : Bool), PSt b.ops out out3 turned3 i (m + 2 * ((i + 1 : Nat) : Int)) → atH out3 i = atH out' i → (∀ t, t ∈ leads b.ops[i] i → t < b.ops.length ∧ atH out3 t.toNat = nextH b.ops[i] (atH out' i)) →
      PSt b.ops out out3 turned3 (i + 1) (m + 2 * ((i + 1 : Nat) : Int)) := by
    intro out3 turned3 hP3 hs3 hd
    refine ⟨hP3.inv, hP3.le, hP3.lt, fun ht => ?_⟩
    obtain ⟨e1, e2⟩ := hP3.eq ht
    refine ⟨e1, fun j hj hj0 => ?_⟩
    rcases Nat.lt_or_ge j i with h1 | h1
    · exact e2 j h1 hj0
    · obtain rfl : j = i := by omega
      rw [← e1]
      refine ⟨by rw [hs3]; exact hh', fun t ht => ?_⟩
      rw [ho] at ht
      rw [hs3, hn0]
      exact hd t ht
  by_cases c : 0 ≤ tgtN b.ops[i]
  · simp only [c, RR]
    refine lead out2 turned2 _ _ (by unfold leads; rw [if_pos c]; simp) hP2 hsame fun n out3 turned3 e hn h1 h2 h3 h4 => ?_
    refine hk2 _ _ ⟨out3, turned3, rfl, rfl, fin out3 turned3 h2 h3 fun t ht => ?_⟩
    unfold leads at ht
    rcases List.mem_append.1 ht with h | h
    · split at h
      · rename_i hg
        rw [List.mem_singleton] at h
        obtain ⟨g1, g2⟩ := hgo hg
        subst h
        exact ⟨by omega, h4 _ g2⟩
      · cases h
    · rw [if_pos c, List.mem_singleton] at h
      rw [h, e]
      exact ⟨by omega, h1⟩
  · simp only [c, RR]
    refine hk2 _ _ ⟨out2, turned2, rfl, rfl, fin out2 turned2 hP2 hsame fun t ht => ?_⟩
    unfold leads at ht
    rw [if_neg c, List.append_nil] at ht
    split at ht
    · rename_i hg
      rw [List.mem_singleton] at ht
      obtain ⟨g1, g2⟩ := hgo hg
      subst ht
      exact ⟨by omega, g2⟩
    · cases ht
end Go.Proofs.YtlggnigbemghgaaGreatDoor.E
