import Derived.Test.YtlggnigbemghgaaGreatDoorOB
/- Code that is fused: what it comes to. -/
set_option linter.unusedSectionVars false
set_option linter.unusedSimpArgs false
set_option linter.unusedVariables false
namespace Go.Proofs.YtlggnigbemghgaaGreatDoor.E
open Go Go.RowKit
set_option maxRecDepth 100000
variable [L : Lam]
variable {σ τ τ' : AH} {R : AEnd → AH → Prop}
def hasB (tab bit : Int) : Bool := decide ((tab / bit) % 2 = 1)
def twoD (tab : Int) (o p : OpD) : Option OpD :=
  if o.kind = 1 ∧ p.kind = 12 ∧ hasB tab 1 = true then some ⟨13, 0, 0, 0, 0, ⟨#[]⟩, o.data⟩
  else if o.kind = 2 ∧ p.kind = 12 ∧ hasB tab 2 = true then some ⟨14, o.a, o.b, 0, 0, ⟨#[]⟩, []⟩
  else if o.kind = 2 ∧ p.kind = 2 ∧ hasB tab 4 = true then some ⟨15, o.a, o.b, p.a, p.b, ⟨#[]⟩, []⟩
  else if o.kind = 2 ∧ p.kind = 6 ∧ hasB tab 8 = true then some ⟨16, o.a, o.b, p.a, 0, ⟨#[]⟩, []⟩ else none
def twoA (p : OpD × AV) : AV := if p.1.kind = 1 then p.2 else nilS
def fuseD (tab : Int) (T : Nat → Bool) : Nat → List OpD → List OpD
  | _, [] => []
  | _, [p] => [p]
  | k, p :: q :: r => match T (k + 1), twoD tab p q with
    | false, some o => o :: fuseD tab T (k + 2) r
    | _, _ => p :: fuseD tab T (k + 1) (q :: r)
def fuseP (tab : Int) (T : Nat → Bool) : Nat → Its → Its
  | _, [] => []
  | _, [p] => [p]
  | k, p :: q :: r => match T (k + 1), twoD tab p.1 q.1 with
    | false, some o => (o, twoA p) :: fuseP tab T (k + 2) r
    | _, _ => p :: fuseP tab T (k + 1) (q :: r)
/-- Where operations stand; the other one of two: as z tells. -/
def plF (tab : Int) (T : Nat → Bool) (z : Int → Int) : Nat → Int → List OpD → List Int
  | _, _, [] => []
  | _, m, [_] => [m]
  | k, m, p :: q :: r => match T (k + 1), twoD tab p q with
    | false, some _ => m :: z m :: plF tab T z (k + 2) (m + 1) r
    | _, _ => m :: plF tab T z (k + 1) (m + 1) (q :: r)
theorem fuseP_fst (tab : Int) (T : Nat → Bool) : ∀ (n k : Nat) (its : Its), its.length ≤ n → (fuseP tab T k its).map (·.1) = fuseD tab T k (its.map (·.1)) := by
  intro n
  induction n with
  | zero => intro k its h; cases its with | nil => rfl | cons => simp at h
  | succ n ih =>
    intro k its h
    match its, h with
    | [], _ => rfl
    | [p], _ => rfl
    | p :: q :: r, h =>
      simp only [fuseP, fuseD, List.map_cons]
      split
      · rename_i o h1 h2
        simp only [List.map_cons]
        rw [ih (k + 2) r (by simp at h; omega)]
      · simp only [List.map_cons]
        rw [ih (k + 1) (q :: r) (by simp at h ⊢; omega)]
        rfl
theorem twoA_fam (p : OpD × AV) : (famL (twoA p)).Sublist (famL p.2) := by
  unfold twoA
  split
  · exact .refl _
  · simp [famL]
theorem fuseP_fam (tab : Int) (T : Nat → Bool) : ∀ (n k : Nat) (its : Its), its.length ≤ n → (itsF (fuseP tab T k its)).Sublist (itsF its) := by
  intro n
  induction n with
  | zero => intro k its h; cases its with | nil => exact .slnil | cons => simp at h
  | succ n ih =>
    intro k its h
    match its, h with
    | [], _ => exact .slnil
    | [p], _ => exact .refl _
    | p :: q :: r, h =>
      simp only [fuseP]
      split
      · rename_i o h1 h2
        rw [itsF_cons, itsF_cons, itsF_cons]
        exact (twoA_fam p).append ((ih (k + 2) r (by simp at h; omega)).trans (List.sublist_append_right _ _))
      · rw [itsF_cons, itsF_cons]
        exact (List.Sublist.refl _).append (ih (k + 1) (q :: r) (by simp at h ⊢; omega))
theorem twoD_data {tab : Int} {o p q : OpD} (h : twoD tab o p = some q) : q.data = (if o.kind = 1 then o.data else []) ∧ q.name = ⟨#[]⟩ := by
  unfold twoD at h
  split at h
  · rename_i c; cases h; rw [if_pos c.1]; exact ⟨rfl, rfl⟩
  split at h
  · rename_i c; cases h; rw [if_neg (by omega)]; exact ⟨rfl, rfl⟩
  split at h
  · rename_i c; cases h; rw [if_neg (by omega)]; exact ⟨rfl, rfl⟩
  split at h
  · rename_i c; cases h; rw [if_neg (by omega)]; exact ⟨rfl, rfl⟩
  · cases h
theorem twoA_own {tab : Int} {p : OpD × AV} {q o : OpD} (h : twoD tab p.1 q = some o) (hb : Buf τ 4 p.2 (p.1.data.map encDat)) : Buf τ 4 (twoA p) (o.data.map encDat) := by
  rw [(twoD_data h).1]
  unfold twoA
  split
  · exact hb
  · exact nil_buf
theorem twoA_one {p : OpD × AV} (h : p.2.one = true) : (twoA p).one = true := by
  unfold twoA
  split
  · exact h
  · rfl
theorem plF_len (tab : Int) (T : Nat → Bool) (z : Int → Int) : ∀ (n k : Nat) (m : Int) (os : List OpD), os.length ≤ n → (plF tab T z k m os).length = os.length := by
  intro n
  induction n with
  | zero => intro k m os h; cases os with | nil => rfl | cons => simp at h
  | succ n ih =>
    intro k m os h
    match os, h with
    | [], _ => rfl
    | [p], _ => rfl
    | p :: q :: r, h =>
      simp only [plF]
      split
      · simp only [List.length_cons]; rw [ih _ _ r (by simp at h; omega)]
      · simp only [List.length_cons]; rw [ih _ _ (q :: r) (by simp at h ⊢; omega)]; rfl
/-- Both ways tell the same of what is led to. -/
theorem plF_same (tab : Int) (T : Nat → Bool) (z z' : Int → Int) : ∀ (n k : Nat) (m : Int) (os : List OpD), os.length ≤ n → ∀ j, (j = 0 ∨ T (k + j) = true) → atH (plF tab T z k m os) j = atH (plF tab T z' k m os) j := by
  intro n
  induction n with
  | zero => intro k m os h; cases os with | nil => intro j _; rfl | cons => simp at h
  | succ n ih =>
    intro k m os h j hj
    match os, h with
    | [], _ => rfl
    | [p], _ => rfl
    | p :: q :: r, h =>
      simp only [plF]
      split
      · rename_i o h1 h2
        match j with
        | 0 => rfl
        | 1 =>
          rcases hj with c | c
          · cases c
          · rw [h1] at c; cases c
        | j + 2 =>
          have := ih (k + 2) (m + 1) r (by simp at h; omega) j (by
            rcases hj with c | c
            · cases c
            · right; rw [show k + 2 + j = k + (j + 2) by omega]; exact c)
          simpa [atH] using this
      · match j with
        | 0 => rfl
        | j + 1 =>
          have := ih (k + 1) (m + 1) (q :: r) (by simp at h ⊢; omega) j (by
            rcases hj with c | c
            · cases c
            · right; rw [show k + 1 + j = k + (j + 1) by omega]; exact c)
          simpa [atH] using this
theorem twoD_ok {n : Nat} {tab : Int} {o p q : OpD} (h1 : smO o) (h2 : smO p) (ht : tgtN p < n) (h : twoD tab o p = some q) : 0 ≤ q.a ∧ 0 ≤ q.c ∧ okT n q ∧ (0 ≤ tgtN q → tgtN q = tgtN p) := by
  obtain ⟨a1, a2, a3, a4, a5, a6, a7, a8⟩ := h1
  obtain ⟨b1, b2, b3, b4, b5, b6, b7, b8⟩ := h2
  unfold tgtN at ht
  unfold twoD at h
  unfold okT
  split at h
  · cases h; simp [tgtN]; omega
  split at h
  · cases h; simp [tgtN]; omega
  split at h
  · cases h; simp [tgtN]; omega
  split at h
  · rename_i c
    cases h
    rw [if_pos (by omega)] at ht
    simp [tgtN, c.2.1]; omega
  · cases h
theorem fuseD_ok (tab : Int) (T : Nat → Bool) (N : Nat) : ∀ (n k : Nat) (os : List OpD), os.length ≤ n → smB os → (∀ o, o ∈ os → tgtN o < N) → ∀ q, q ∈ fuseD tab T k os → 0 ≤ q.a ∧ 0 ≤ q.c ∧ okT N q ∧ (0 ≤ tgtN q → ∃ o, o ∈ os ∧ tgtN o = tgtN q) := by
  intro n
  induction n with
  | zero => intro k os h; cases os with | nil => intro _ _ q hq; cases hq | cons => simp at h
  | succ n ih =>
    intro k os h hs ht q hq
    have self : ∀ o, o ∈ os → 0 ≤ o.a ∧ 0 ≤ o.c ∧ okT N o := fun o ho => by
      obtain ⟨a1, a2, a3, a4, a5, a6, a7, a8⟩ := hs o ho
      refine ⟨a1, a5, ?_, ht o ho⟩
      unfold tgtN; repeat' split <;> omega
    match os, h, hs, ht, self, hq with
    | [], _, _, _, _, hq => cases hq
    | [p], _, hs, ht, self, hq =>
      obtain rfl : q = p := by simpa [fuseD] using hq
      obtain ⟨s1, s2, s3⟩ := self q (by simp)
      exact ⟨s1, s2, s3, fun _ => ⟨q, by simp, rfl⟩⟩
    | p :: p2 :: r, h, hs, ht, self, hq =>
      simp only [fuseD] at hq
      split at hq
      · rename_i o h1 h2
        rcases List.mem_cons.1 hq with rfl | hq
        · obtain ⟨t1, t2, t3, t4⟩ := twoD_ok (n := N) (hs p (by simp)) (hs p2 (by simp)) (ht p2 (by simp)) h2
          exact ⟨t1, t2, t3, fun c => ⟨p2, by simp, (t4 c).symm⟩⟩
        · obtain ⟨s1, s2, s3, s4⟩ := ih (k + 2) r (by simp at h; omega) (fun o ho => hs o (by simp [ho])) (fun o ho => ht o (by simp [ho])) q hq
          exact ⟨s1, s2, s3, fun c => by obtain ⟨o, ho, e⟩ := s4 c; exact ⟨o, by simp [ho], e⟩⟩
      · rcases List.mem_cons.1 hq with rfl | hq
        · obtain ⟨s1, s2, s3⟩ := self q (by simp)
          exact ⟨s1, s2, s3, fun _ => ⟨q, by simp, rfl⟩⟩
        · obtain ⟨s1, s2, s3, s4⟩ := ih (k + 1) (p2 :: r) (by simp at h ⊢; omega) (fun o ho => hs o (by simp at ho ⊢; rcases ho with rfl | ho <;> simp [*])) (fun o ho => ht o (by simp at ho ⊢; rcases ho with rfl | ho <;> simp [*])) q hq
          exact ⟨s1, s2, s3, fun c => by obtain ⟨o, ho, e⟩ := s4 c; exact ⟨o, by simp at ho ⊢; rcases ho with rfl | ho <;> simp [*], e⟩⟩
def isT (os : List OpD) (t : Nat) : Bool := os.any fun o => decide (tgtN o = (t : Int))
def fusO (tab : Int) (os : List OpD) : List OpD := (fuseD tab (isT os) 0 os).map (turnO (plF tab (isT os) (fun m => m) 0 0 os))
theorem turnO_same {xs ys : List Int} {o : OpD} (h : 0 ≤ tgtN o → atH xs (tgtN o).toNat = atH ys (tgtN o).toNat) (h0 : 0 ≤ o.a) (h2 : 0 ≤ o.c) : turnO xs o = turnO ys o := by
  unfold tgtN at h
  unfold turnO
  split
  · rename_i c
    rw [if_pos c] at h
    rw [h h0]
  · rename_i c
    rw [if_neg c] at h
    split
    · rename_i c2
      rw [if_pos c2] at h
      rw [h h2]
    · rfl
/-- The program's places do as well as the reference's. -/
theorem fusO_any (tab : Int) (z : Int → Int) {os : List OpD} (hs : smB os) (ht : ∀ o, o ∈ os → tgtN o < os.length) : (fuseD tab (isT os) 0 os).map (turnO (plF tab (isT os) z 0 0 os)) = fusO tab os := by
  refine List.map_congr_left fun q hq => ?_
  obtain ⟨h1, h2, h3, h4⟩ := fuseD_ok tab (isT os) os.length os.length 0 os (Nat.le_refl _) hs ht q hq
  refine turnO_same (fun c => ?_) h1 h2
  refine plF_same tab (isT os) z _ os.length 0 0 os (Nat.le_refl _) _ (.inr ?_)
  obtain ⟨o, ho, e⟩ := h4 c
  unfold isT
  rw [List.any_eq_true]
  exact ⟨o, ho, decide_eq_true (by rw [e, Nat.zero_add]; omega)⟩
end Go.Proofs.YtlggnigbemghgaaGreatDoor.E
/- Code that is fused: two operations as one. -/
set_option linter.unusedSectionVars false
set_option linter.unusedSimpArgs false
set_option linter.unusedVariables false
namespace Go.Proofs.YtlggnigbemghgaaGreatDoor.E
open Go Go.RowKit
set_option maxRecDepth 100000
variable [L : Lam]
variable {σ τ τ' : AH} {R : AEnd → AH → Prop}
theorem box2_new {x y : AV} {xs ys z : List AV} {n m k0 : Nat} {k : AV → AV → AV → AH → Prop} (hx : acells x = some xs) (hy : acells y = some ys) (h : ∀ φ, σ φ = none → k (.rop xs 0) (.rop ys 0) (.ptr φ 0 0 0) (σ.set φ ⟨0, z.length, [z]⟩)) :
    abox x σ fun v3 σ => abox y σ fun v4 σ => new z σ fun v6 σ => frz v3 σ fun f3 σ => frz v4 σ fun f4 σ => k f3 f4 v6 σ := by
  unfold abox
  rw [hx]
  simp only []
  intro φ3 h3
  rw [hy]
  simp only []
  intro φ4 h4 φ6 h6
  rw [AH.set_none] at h4 h6
  rw [AH.set_none] at h6
  have e : ((σ.set φ3 ⟨0, xs.length, [xs]⟩).set φ4 ⟨0, ys.length, [ys]⟩).set φ6 ⟨0, z.length, [z]⟩ = ((σ.set φ6 ⟨0, z.length, [z]⟩).set φ4 ⟨0, ys.length, [ys]⟩).set φ3 ⟨0, xs.length, [xs]⟩ := by
    rw [AH.set_comm (σ.set φ3 ⟨0, xs.length, [xs]⟩) _ _ (Ne.symm h6.1), AH.set_comm σ _ _ (Ne.symm h6.2.1), AH.set_comm _ _ _ (Ne.symm h4.1)]
  rw [e]
  refine frz_cell (AH.set_none.2 ⟨Ne.symm h4.1, AH.set_none.2 ⟨Ne.symm h6.2.1, h3⟩⟩) rfl ?_
  refine frz_cell (AH.set_none.2 ⟨Ne.symm h6.1, h4.2⟩) rfl ?_
  exact h φ6 h6.2.2
theorem and_bit {tab bit : Int} (h0 : 0 ≤ tab) (h1 : tab ≤ 15) (hb : bit = 1 ∨ bit = 2 ∨ bit = 4 ∨ bit = 8) : ∃ v, ibin .and (iv tab) (.val (.int .i64 bit)) = some (iv v) ∧ decide (v = 0) = !hasB tab bit := by
  have : tab = 0 ∨ tab = 1 ∨ tab = 2 ∨ tab = 3 ∨ tab = 4 ∨ tab = 5 ∨ tab = 6 ∨ tab = 7 ∨ tab = 8 ∨ tab = 9 ∨ tab = 10 ∨ tab = 11 ∨ tab = 12 ∨ tab = 13 ∨ tab = 14 ∨ tab = 15 := by omega
  rcases hb with rfl | rfl | rfl | rfl <;> rcases this with rfl | rfl | rfl | rfl | rfl | rfl | rfl | rfl | rfl | rfl | rfl | rfl | rfl | rfl | rfl | rfl <;> exact ⟨_, rfl, by decide⟩
theorem fin7 {φ : Nat} {z cs : List AV} {ok : Bool} (hF : τ φ = some ⟨0, 7, [z]⟩) (hz : z.length = 7) (hc : cs.length = 7) (h1 : ∀ y, y ∈ cs → y.one = true) (h : aret (.tup [.agg cs, bv ok]) (τ.set φ ⟨0, 7, [cs]⟩) R) :
    sto 7 (.ptr φ 0 0 0) (.agg cs) τ fun σ => og (lodA 7 (.ptr φ 0 0 0) σ) fun r => aret (.tup [r, bv ok]) σ R := by
  refine sto_own (es := [z]) (cs := cs) hF (by simp) (by simpa using hz) rfl hc h1 ?_
  simp only [List.set_cons_zero]
  have e := lodA_at (σ := τ.set φ ⟨0, 7, [cs]⟩) (φ := φ) (st := 0) (i := 0) (n := 7) (cs := cs) (AH.set_same ..) rfl rfl hc
  rw [e]
  exact h
theorem bld_data13 {a : AV} {es : List (List AV)} {o : OpD} (h : Buf τ 4 a es) : bld [(.val (.int .i64 0)), (.val (.int .i64 0)), (.val (.int .i64 0)), (.val (.int .i64 0)), (.val (.int .i64 0)), (.val (.string ⟨#[]⟩)), (.val (.slice none 0 0))] [(0, 1), (1, 1), (2, 1), (3, 1), (4, 1), (5, 1), (6, 1)] [(0, (.val (.int .i64 13))), (6, a)] = some (.agg (encOpA ⟨13, 0, 0, 0, 0, ⟨#[]⟩, o.data⟩ a)) := by
  rcases h with ⟨rfl | rfl, _⟩ | ⟨φ, st, rfl, _⟩ <;> rfl
/-- What a function that fuses two hands back. -/
structure TwoR (tab : Int) (p q : OpD × AV) (row : List AV) (ok : Bool) : Prop where
  len : row.length = 7
  one : ∀ y, y ∈ row → y.one = true
  yes : ∀ o, twoD tab p.1 q.1 = some o → ok = true ∧ row = encIt (o, twoA p)
  no : twoD tab p.1 q.1 = none → ok = false
set_option maxHeartbeats 2000000 in
theorem c_impl_both {p q : OpD × AV} {tab : Int} (h0 : 0 ≤ tab) (h1 : tab ≤ 15) (hp : Buf σ 4 p.2 (p.1.data.map encDat)) (h : ∀ row ok, TwoR tab p q row ok → R (.ret (.tup [.agg row, bv ok])) σ) : acall TP fn_impl_both [.agg (encIt p), .agg (encIt q), iv tab] σ R := by
  obtain ⟨v1, e1, g1⟩ := and_bit h0 h1 (bit := 1) (by simp)
  obtain ⟨v2, e2, g2⟩ := and_bit h0 h1 (bit := 2) (by simp)
  obtain ⟨v4, e4, g4⟩ := and_bit h0 h1 (bit := 4) (by simp)
  obtain ⟨v8, e8, g8⟩ := and_bit h0 h1 (bit := 8) (by simp)
  have ha1 := hp.av1
  refine s_impl_both_ok ?_
  unfold s_impl_both
  refine box2_new (n := 7) (m := 7) (k0 := 7) rfl rfl fun φ hφ => ?_
  have hF := AH.set_same σ φ (⟨0, 7, [[(AV.val (.int .i64 0)), (.val (.int .i64 0)), (.val (.int .i64 0)), (.val (.int .i64 0)), (.val (.int .i64 0)), (.val (.string ⟨#[]⟩)), (.val (.slice none 0 0))]]⟩ : Fam)
  have fin : ∀ (cs : List AV) (ok : Bool), TwoR tab p q cs ok → sto 7 (.ptr φ 0 0 0) (.agg cs) (σ.set φ ⟨0, 7, [[(AV.val (.int .i64 0)), (.val (.int .i64 0)), (.val (.int .i64 0)), (.val (.int .i64 0)), (.val (.int .i64 0)), (.val (.string ⟨#[]⟩)), (.val (.slice none 0 0))]]⟩) fun σ => og (lodA 7 (.ptr φ 0 0 0) σ) fun r => aret (.tup [r, bv ok]) σ R := fun cs ok ht =>
    fin7 hF rfl ht.len ht.one (aret_sub (by rw [AH.set_set]; exact .set (.refl σ) _ hφ) (h cs ok ht))
  have k0 : ∀ τ, lod (.rop (encIt p) 0) τ = some (iv p.1.kind) := fun _ => rfl
  have k1 : ∀ τ, lod (.rop (encIt p) 1) τ = some (iv p.1.a) := fun _ => rfl
  have k2 : ∀ τ, lod (.rop (encIt p) 2) τ = some (iv p.1.b) := fun _ => rfl
  have k6 : ∀ τ, lod (.rop (encIt p) 6) τ = some p.2 := fun _ => rfl
  have q0 : ∀ τ, lod (.rop (encIt q) 0) τ = some (iv q.1.kind) := fun _ => rfl
  have q1 : ∀ τ, lod (.rop (encIt q) 1) τ = some (iv q.1.a) := fun _ => rfl
  have q2 : ∀ τ, lod (.rop (encIt q) 2) τ = some (iv q.1.b) := fun _ => rfl
  have b13 := bld_data13 (o := p.1) hp
  have b14 : bld [(.val (.int .i64 0)), (.val (.int .i64 0)), (.val (.int .i64 0)), (.val (.int .i64 0)), (.val (.int .i64 0)), (.val (.string ⟨#[]⟩)), (.val (.slice none 0 0))] [(0, 1), (1, 1), (2, 1), (3, 1), (4, 1), (5, 1), (6, 1)] [(0, (.val (.int .i64 14))), (1, iv p.1.a), (2, iv p.1.b)] = some (.agg (encOpA ⟨14, p.1.a, p.1.b, 0, 0, ⟨#[]⟩, []⟩ nilS)) := rfl
  have b15 : bld [(.val (.int .i64 0)), (.val (.int .i64 0)), (.val (.int .i64 0)), (.val (.int .i64 0)), (.val (.int .i64 0)), (.val (.string ⟨#[]⟩)), (.val (.slice none 0 0))] [(0, 1), (1, 1), (2, 1), (3, 1), (4, 1), (5, 1), (6, 1)] [(0, (.val (.int .i64 15))), (1, iv p.1.a), (2, iv p.1.b), (3, iv q.1.a), (4, iv q.1.b)] = some (.agg (encOpA ⟨15, p.1.a, p.1.b, q.1.a, q.1.b, ⟨#[]⟩, []⟩ nilS)) := rfl
  have b16 : bld [(.val (.int .i64 0)), (.val (.int .i64 0)), (.val (.int .i64 0)), (.val (.int .i64 0)), (.val (.int .i64 0)), (.val (.string ⟨#[]⟩)), (.val (.slice none 0 0))] [(0, 1), (1, 1), (2, 1), (3, 1), (4, 1), (5, 1), (6, 1)] [(0, (.val (.int .i64 16))), (1, iv p.1.a), (2, iv p.1.b), (3, iv q.1.a)] = some (.agg (encOpA ⟨16, p.1.a, p.1.b, q.1.a, 0, ⟨#[]⟩, []⟩ nilS)) := rfl
  have bz : bld [(.val (.int .i64 0)), (.val (.int .i64 0)), (.val (.int .i64 0)), (.val (.int .i64 0)), (.val (.int .i64 0)), (.val (.string ⟨#[]⟩)), (.val (.slice none 0 0))] [(0, 1), (1, 1), (2, 1), (3, 1), (4, 1), (5, 1), (6, 1)] [] = some (.agg (encOpA ⟨0, 0, 0, 0, 0, ⟨#[]⟩, []⟩ nilS)) := rfl
  have no : twoD tab p.1 q.1 = none → TwoR tab p q (encOpA ⟨0, 0, 0, 0, 0, ⟨#[]⟩, []⟩ nilS) false := fun hn => ⟨rfl, one7 rfl, (fun o ho => by rw [hn] at ho; cases ho), fun _ => rfl⟩
  have yes : ∀ o a, twoD tab p.1 q.1 = some o → a = twoA p → a.one = true → TwoR tab p q (encOpA o a) true := fun o a ho ha ha1 => ⟨rfl, one7 ha1, (fun o' ho' => by rw [ho] at ho'; cases ho'; subst ha; exact ⟨rfl, rfl⟩), fun hn => by rw [ho] at hn; cases hn⟩
  have big : ∀ X : Prop, (∀ (c1 : Bool) (d12 d2 d6 : Bool), X) → X := fun X hX => hX true true true true
  by_cases a1 : p.1.kind = 1
  · have a2 : ¬ p.1.kind = 2 := by omega
    by_cases a12 : q.1.kind = 12
    · cases hb : hasB tab 1
      · have hn : twoD tab p.1 q.1 = none := by unfold twoD; simp [a1, a12, hb]
        rw [hb] at g1
        simp only [k0, q0, a1, a12, e1, g1, Int.reduceEq, bz, RR]
        exact fin _ _ (no hn)
      · have hn : twoD tab p.1 q.1 = some ⟨13, 0, 0, 0, 0, ⟨#[]⟩, p.1.data⟩ := by unfold twoD; simp [a1, a12, hb]
        rw [hb] at g1
        simp only [k0, k6, q0, a1, a12, e1, g1, Int.reduceEq, b13, RR]
        exact fin _ _ (yes _ _ hn (by unfold twoA; rw [if_pos a1]) ha1)
    · have hn : twoD tab p.1 q.1 = none := by unfold twoD; simp [a1, a12]
      simp only [k0, q0, a1, a12, Int.reduceEq, bz, RR]
      exact fin _ _ (no hn)
  by_cases a2 : p.1.kind = 2
  · have tA : nilS = twoA p := by unfold twoA; rw [if_neg a1]
    by_cases a12 : q.1.kind = 12
    · cases hb : hasB tab 2
      · have hn : twoD tab p.1 q.1 = none := by unfold twoD; simp [a2, a12, hb]
        rw [hb] at g2
        simp only [k0, q0, a2, a12, e2, g2, Int.reduceEq, bz, RR]
        exact fin _ _ (no hn)
      · have hn : twoD tab p.1 q.1 = some ⟨14, p.1.a, p.1.b, 0, 0, ⟨#[]⟩, []⟩ := by unfold twoD; simp [a2, a12, hb]
        rw [hb] at g2
        simp only [k0, k1, k2, q0, a2, a12, e2, g2, Int.reduceEq, b14, RR]
        exact fin _ _ (yes _ _ hn tA rfl)
    by_cases a22 : q.1.kind = 2
    · cases hb : hasB tab 4
      · have hn : twoD tab p.1 q.1 = none := by unfold twoD; simp [a2, a22, hb]
        rw [hb] at g4
        simp only [k0, q0, a2, a22, e4, g4, Int.reduceEq, bz, RR]
        exact fin _ _ (no hn)
      · have hn : twoD tab p.1 q.1 = some ⟨15, p.1.a, p.1.b, q.1.a, q.1.b, ⟨#[]⟩, []⟩ := by unfold twoD; simp [a2, a22, hb]
        rw [hb] at g4
        simp only [k0, k1, k2, q0, q1, q2, a2, a22, e4, g4, Int.reduceEq, b15, RR]
        exact fin _ _ (yes _ _ hn tA rfl)
    by_cases a6 : q.1.kind = 6
    · cases hb : hasB tab 8
      · have hn : twoD tab p.1 q.1 = none := by unfold twoD; simp [a2, a6, hb]
        rw [hb] at g8
        simp only [k0, q0, a2, a6, e8, g8, Int.reduceEq, bz, RR]
        exact fin _ _ (no hn)
      · have hn : twoD tab p.1 q.1 = some ⟨16, p.1.a, p.1.b, q.1.a, 0, ⟨#[]⟩, []⟩ := by unfold twoD; simp [a2, a6, hb]
        rw [hb] at g8
        simp only [k0, k1, k2, q0, q1, a2, a6, e8, g8, Int.reduceEq, b16, RR]
        exact fin _ _ (yes _ _ hn tA rfl)
    have hn : twoD tab p.1 q.1 = none := by unfold twoD; simp [a2, a12, a22, a6]
    simp only [k0, q0, a2, a12, a22, a6, Int.reduceEq, bz, RR]
    exact fin _ _ (no hn)
  have hn : twoD tab p.1 q.1 = none := by unfold twoD; simp [a1, a2]
  simp only [k0, a1, a2, bz, RR]
  exact fin _ _ (no hn)
theorem c_spec_l11Has {tab bit : Int} (h0 : 0 ≤ tab) (h1 : tab ≤ 15) (hb : bit = 1 ∨ bit = 2 ∨ bit = 4 ∨ bit = 8) (h : R (.ret (bv (hasB tab bit))) σ) : acall TP fn_spec_l11Has [iv tab, .val (.int .i64 bit)] σ R := by
  refine s_spec_l11Has_ok ?_
  unfold s_spec_l11Has
  unfold hasB at h
  have e1 : ibin .quo (iv tab) (.val (.int .i64 bit)) = some (iv (tab / bit)) := by
    rcases hb with rfl | rfl | rfl | rfl
    all_goals
      show some (iv (IntKind.i64.wrap (tab.tdiv _))) = _
      rw [Int.tdiv_eq_ediv_of_nonneg h0, i64_wrap (by omega) (by omega)]
  have hq : 0 ≤ tab / bit := by rcases hb with rfl | rfl | rfl | rfl <;> omega
  have e2 : ibin .rem (iv (tab / bit)) (.val (.int .i64 2)) = some (iv (tab / bit % 2)) := by
    show some (iv ((tab / bit).tmod 2)) = _
    rw [Int.tmod_eq_emod_of_nonneg hq]
  simp only [e1, e2, RR]
  exact ret_here h
end Go.Proofs.YtlggnigbemghgaaGreatDoor.E
/- Code that is fused: the reference's two as one; who is led to. -/
set_option linter.unusedSectionVars false
set_option linter.unusedSimpArgs false
set_option linter.unusedVariables false
namespace Go.Proofs.YtlggnigbemghgaaGreatDoor.E
open Go Go.RowKit
set_option maxRecDepth 100000
variable [L : Lam]
variable {σ τ τ' : AH} {R : AEnd → AH → Prop}
set_option maxHeartbeats 2000000 in
theorem c_spec_l11Two {p q : OpD × AV} {tab : Int} {φ st i j : Nat} {F : Fam} (h0 : 0 ≤ tab) (h1 : tab ≤ 15) (hF : σ φ = some F) (hst : F.st = st) (hi : F.es[i]? = some (encIt p)) (hj : F.es[j]? = some (encIt q)) (hp : Buf σ 4 p.2 (p.1.data.map encDat))
    (h : ∀ row ok, TwoR tab p q row ok → R (.ret (.tup [.agg row, bv ok])) σ) : acall TP fn_spec_l11Two [.ptr φ st i 0, .ptr φ st j 0, iv tab] σ R := by
  have ha1 := hp.av1
  have hrp : F.es.getD i [] = encIt p := by simp [List.getD, hi]
  have hrq : F.es.getD j [] = encIt q := by simp [List.getD, hj]
  refine s_spec_l11Two_ok ?_
  unfold s_spec_l11Two
  intro χ hχ
  have hFχ := AH.set_same σ χ (⟨0, [(AV.val (.int .i64 0)), (.val (.int .i64 0)), (.val (.int .i64 0)), (.val (.int .i64 0)), (.val (.int .i64 0)), (.val (.string ⟨#[]⟩)), (.val (.slice none 0 0))].length, [[(AV.val (.int .i64 0)), (.val (.int .i64 0)), (.val (.int .i64 0)), (.val (.int .i64 0)), (.val (.int .i64 0)), (.val (.string ⟨#[]⟩)), (.val (.slice none 0 0))]]⟩ : Fam)
  have hs0 : ∀ G, AH.Sub σ ((σ.set χ ⟨0, [(AV.val (.int .i64 0)), (.val (.int .i64 0)), (.val (.int .i64 0)), (.val (.int .i64 0)), (.val (.int .i64 0)), (.val (.string ⟨#[]⟩)), (.val (.slice none 0 0))].length, [[(AV.val (.int .i64 0)), (.val (.int .i64 0)), (.val (.int .i64 0)), (.val (.int .i64 0)), (.val (.int .i64 0)), (.val (.string ⟨#[]⟩)), (.val (.slice none 0 0))]]⟩).set χ G) := fun G => by rw [AH.set_set]; exact .set (.refl σ) _ hχ
  have hφ : (σ.set χ ⟨0, [(AV.val (.int .i64 0)), (.val (.int .i64 0)), (.val (.int .i64 0)), (.val (.int .i64 0)), (.val (.int .i64 0)), (.val (.string ⟨#[]⟩)), (.val (.slice none 0 0))].length, [[(AV.val (.int .i64 0)), (.val (.int .i64 0)), (.val (.int .i64 0)), (.val (.int .i64 0)), (.val (.int .i64 0)), (.val (.string ⟨#[]⟩)), (.val (.slice none 0 0))]]⟩) φ = some F := by
    rw [AH.set_ne' (by rintro rfl; rw [hF] at hχ; cases hχ)]; exact hF
  generalize σ.set χ ⟨0, [(AV.val (.int .i64 0)), (.val (.int .i64 0)), (.val (.int .i64 0)), (.val (.int .i64 0)), (.val (.int .i64 0)), (.val (.string ⟨#[]⟩)), (.val (.slice none 0 0))].length, [[(AV.val (.int .i64 0)), (.val (.int .i64 0)), (.val (.int .i64 0)), (.val (.int .i64 0)), (.val (.int .i64 0)), (.val (.string ⟨#[]⟩)), (.val (.slice none 0 0))]]⟩ = τ0 at hFχ hs0 hφ ⊢
  have fin : ∀ (cs : List AV) (ok : Bool), TwoR tab p q cs ok → sto 7 (.ptr χ 0 0 0) (.agg cs) τ0 fun σ => og (lodA 7 (.ptr χ 0 0 0) σ) fun r => aret (.tup [r, bv ok]) σ R := fun cs ok ht =>
    fin7 hFχ rfl ht.len ht.one (aret_sub (hs0 _) (h cs ok ht))
  have lp : ∀ (k : Nat) (v : AV), (encIt p)[k]? = some v → lod (.ptr φ st i k) τ0 = some v := fun k v h => lod_at hφ hst (by rw [hrp]; exact h)
  have lq : ∀ (k : Nat) (v : AV), (encIt q)[k]? = some v → lod (.ptr φ st j k) τ0 = some v := fun k v h => lod_at hφ hst (by rw [hrq]; exact h)
  have k0 := lp 0 _ rfl
  have k1 := lp 1 _ rfl
  have k2 := lp 2 _ rfl
  have k6 := lp 6 _ rfl
  have q0 := lq 0 _ rfl
  have q1 := lq 1 _ rfl
  have q2 := lq 2 _ rfl
  have b13 := bld_data13 (o := p.1) hp
  have b14 : bld [(.val (.int .i64 0)), (.val (.int .i64 0)), (.val (.int .i64 0)), (.val (.int .i64 0)), (.val (.int .i64 0)), (.val (.string ⟨#[]⟩)), (.val (.slice none 0 0))] [(0, 1), (1, 1), (2, 1), (3, 1), (4, 1), (5, 1), (6, 1)] [(0, (.val (.int .i64 14))), (1, iv p.1.a), (2, iv p.1.b)] = some (.agg (encOpA ⟨14, p.1.a, p.1.b, 0, 0, ⟨#[]⟩, []⟩ nilS)) := rfl
  have b15 : bld [(.val (.int .i64 0)), (.val (.int .i64 0)), (.val (.int .i64 0)), (.val (.int .i64 0)), (.val (.int .i64 0)), (.val (.string ⟨#[]⟩)), (.val (.slice none 0 0))] [(0, 1), (1, 1), (2, 1), (3, 1), (4, 1), (5, 1), (6, 1)] [(0, (.val (.int .i64 15))), (1, iv p.1.a), (2, iv p.1.b), (3, iv q.1.a), (4, iv q.1.b)] = some (.agg (encOpA ⟨15, p.1.a, p.1.b, q.1.a, q.1.b, ⟨#[]⟩, []⟩ nilS)) := rfl
  have b16 : bld [(.val (.int .i64 0)), (.val (.int .i64 0)), (.val (.int .i64 0)), (.val (.int .i64 0)), (.val (.int .i64 0)), (.val (.string ⟨#[]⟩)), (.val (.slice none 0 0))] [(0, 1), (1, 1), (2, 1), (3, 1), (4, 1), (5, 1), (6, 1)] [(0, (.val (.int .i64 16))), (1, iv p.1.a), (2, iv p.1.b), (3, iv q.1.a)] = some (.agg (encOpA ⟨16, p.1.a, p.1.b, q.1.a, 0, ⟨#[]⟩, []⟩ nilS)) := rfl
  have bz : bld [(.val (.int .i64 0)), (.val (.int .i64 0)), (.val (.int .i64 0)), (.val (.int .i64 0)), (.val (.int .i64 0)), (.val (.string ⟨#[]⟩)), (.val (.slice none 0 0))] [(0, 1), (1, 1), (2, 1), (3, 1), (4, 1), (5, 1), (6, 1)] [] = some (.agg (encOpA ⟨0, 0, 0, 0, 0, ⟨#[]⟩, []⟩ nilS)) := rfl
  have no : twoD tab p.1 q.1 = none → TwoR tab p q (encOpA ⟨0, 0, 0, 0, 0, ⟨#[]⟩, []⟩ nilS) false := fun hn => ⟨rfl, one7 rfl, (fun o ho => by rw [hn] at ho; cases ho), fun _ => rfl⟩
  have yes : ∀ o a (b : Bool), (b = true → twoD tab p.1 q.1 = some o) → (b = false → twoD tab p.1 q.1 = none) → a = twoA p → a.one = true → TwoR tab p q (encOpA o a) b := fun o a b ho hn ha ha1 => ⟨rfl, one7 ha1, (fun o' ho' => by
    cases b with
    | true => rw [ho rfl] at ho'; cases ho'; subst ha; exact ⟨rfl, rfl⟩
    | false => rw [hn rfl] at ho'; cases ho'), fun hn2 => by
    cases b with
    | true => rw [ho rfl] at hn2; cases hn2
    | false => rfl⟩
  by_cases a1 : p.1.kind = 1
  · have a2 : ¬ p.1.kind = 2 := by omega
    by_cases a12 : q.1.kind = 12
    · simp only [k0, k6, q0, a1, a12, Int.reduceEq, b13, RR]
      refine c_spec_l11Has h0 h1 (by simp) ?_
      simp only [k6, true_and, RR]
      exact fin _ _ (yes _ _ _ (fun hb => by unfold twoD; simp [a1, a12, hb]) (fun hb => by unfold twoD; simp [a1, a12, hb]) (by unfold twoA; rw [if_pos a1]) ha1)
    · have hn : twoD tab p.1 q.1 = none := by unfold twoD; simp [a1, a12]
      simp only [k0, q0, a1, a12, Int.reduceEq, bz, RR]
      exact fin _ _ (no hn)
  by_cases a2 : p.1.kind = 2
  · have tA : nilS = twoA p := by unfold twoA; rw [if_neg a1]
    by_cases a12 : q.1.kind = 12
    · simp only [k0, k1, k2, q0, a2, a12, Int.reduceEq, b14, RR]
      refine c_spec_l11Has h0 h1 (by simp) ?_
      simp only [k1, k2, true_and, RR]
      exact fin _ _ (yes _ _ _ (fun hb => by unfold twoD; simp [a2, a12, hb]) (fun hb => by unfold twoD; simp [a2, a12, hb]) tA rfl)
    by_cases a22 : q.1.kind = 2
    · simp only [k0, k1, k2, q0, q1, q2, a2, a22, Int.reduceEq, b15, RR]
      refine c_spec_l11Has h0 h1 (by simp) ?_
      simp only [k1, k2, q1, q2, true_and, RR]
      exact fin _ _ (yes _ _ _ (fun hb => by unfold twoD; simp [a2, a22, hb]) (fun hb => by unfold twoD; simp [a2, a22, hb]) tA rfl)
    by_cases a6 : q.1.kind = 6
    · simp only [k0, k1, k2, q0, q1, a2, a6, Int.reduceEq, b16, RR]
      refine c_spec_l11Has h0 h1 (by simp) ?_
      simp only [k1, k2, q1, true_and, RR]
      exact fin _ _ (yes _ _ _ (fun hb => by unfold twoD; simp [a2, a6, hb]) (fun hb => by unfold twoD; simp [a2, a6, hb]) tA rfl)
    have hn : twoD tab p.1 q.1 = none := by unfold twoD; simp [a2, a12, a22, a6]
    simp only [k0, q0, a2, a12, a22, a6, Int.reduceEq, bz, RR]
    exact fin _ _ (no hn)
  have hn : twoD tab p.1 q.1 = none := by unfold twoD; simp [a1, a2]
  simp only [k0, a1, a2, bz, RR]
  exact fin _ _ (no hn)
/-! ### who is led to -/
theorem c_spec_l9IsTarget {b : Blk} {t : Nat} (hl : b.ops.length ≤ 200) (h : R (.ret (bv (isT b.ops t))) σ) : acall TP fn_spec_l9IsTarget [.rop (encBlk b) 0, iv (t : Int)] σ R := by
  refine s_spec_l9IsTarget_ok ?_
  unfold s_spec_l9IsTarget
  refine lp_same b.ops.length (fun i => (AV.rop (encBlk b) 0, iv (t : Int), iv (i : Int), ())) (fun i => ∀ (j : Nat) (hj : j < b.ops.length), j < i → tgtN b.ops[j] ≠ (t : Int)) rfl (fun j hj h => by omega) ?_
  intro i hi hH R' hR'
  simp only [RR, RT, len_ro]
  by_cases hlt : i < b.ops.length
  · have g : (i : Int) < (b.ops.length : Int) := by omega
    simp only [g, idx_ro hlt len_encOp, RR, RT]
    refine c_spec_l9Target ?_
    by_cases c : tgtN b.ops[i] = (t : Int)
    · simp only [c, RR]
      have : isT b.ops t = true := by
        unfold isT
        rw [List.any_eq_true]
        exact ⟨_, List.getElem_mem hlt, decide_eq_true c⟩
      rw [this] at h
      exact ret_here h
    · simp only [c, ibin_up hlt (by omega), RR]
      refine hR' hlt (fun j hj h1 => ?_) _ (.refl _)
      rcases Nat.lt_or_ge j i with h2 | h2
      · exact hH j hj h2
      · obtain rfl : j = i := by omega
        exact c
  · have g : ¬ (i : Int) < (b.ops.length : Int) := by omega
    simp only [g, RR]
    have : isT b.ops t = false := by
      unfold isT
      rw [List.any_eq_false]
      intro o ho
      obtain ⟨j, hj, rfl⟩ := List.getElem_of_mem ho
      simpa using hH j hj (by omega)
    rw [this] at h
    exact ret_here h
/-- The same of a block that is owned. -/
theorem lend_isTarget {av : AV} {its : Its} {n : Int} {φ st i t : Nat} {F : Fam} {K : AEnd → AH → Prop} (hF : τ φ = some F) (hst : F.st = st) (hsz : F.sz = 2) (hi : F.es[i]? = some [iv n, av]) (hH : OpsH τ av its) (hl : its.length ≤ 200)
    (hK : K (.ret (bv (isT (its.map (·.1)) t))) τ) : acall TP fn_spec_l9IsTarget [.ptr φ st i 0, iv (t : Int)] τ K := by
  have hlt : i < F.es.length := (List.getElem?_eq_some_iff.1 hi).1
  have hg : F.es.getD i [] = [iv n, av] := by simp [List.getD, hi]
  refine lend_val (args' := [.rop (encBlk ⟨n, its.map (·.1)⟩) 0, iv (t : Int)]) (.val _) rfl (fun k hk => ?_) (fun R hR => c_spec_l9IsTarget (by simpa using hl) hR) hK
  match k, hk with
  | 0, _ =>
    refine .ptr hF rfl hst hlt (by rw [hg, hsz]; rfl) (by rw [hsz]; rfl) fun j hj => ?_
    rw [hg]
    match j, hj with
    | 0, _ => exact .same _
    | 1, _ => exact fz_ops hH fun _ _ => rfl
  | 1, _ => exact .same _
/-! ### who is led to: the program's list -/
def LedH (τ : AH) (a : AV) (xs : List Int) : Prop := (a = .emp ∧ xs = []) ∨ ∃ φ st fs, a = .own φ st 0 xs.length ∧ τ φ = some ⟨st, 1, ivs (xs ++ fs)⟩
theorem LedH.live {a : AV} {xs : List Int} (h : LedH τ a xs) {ψ : Nat} (hψ : ψ ∈ famL a) : τ ψ ≠ none := by
  rcases h with ⟨rfl, _⟩ | ⟨φ, st, fs, rfl, hF⟩
  · cases hψ
  · obtain rfl : ψ = φ := by simpa [famL] using hψ
    rw [hF]; simp
theorem LedH.kp {a : AV} {xs : List Int} {F : List Nat} (h : LedH τ a xs) (k : Kp F τ τ') (hd : ∀ ψ, ψ ∈ famL a → ψ ∉ F) : LedH τ' a xs := by
  rcases h with h | ⟨φ, st, fs, rfl, hF⟩
  · exact .inl h
  · exact .inr ⟨φ, st, fs, rfl, by rw [k φ (hd φ (by simp [famL])) (by rw [hF]; simp)]; exact hF⟩
theorem LedH.fz {a : AV} {xs : List Int} (h : LedH τ a xs) : Fz ah0 τ a (.ro (ivs xs)) := by
  rcases h with ⟨rfl, rfl⟩ | ⟨φ, st, fs, rfl, hF⟩
  · exact .emp
  · refine .own hF rfl rfl (by simp) (by simp) (fun i hi => by simp [hi]) fun i j hi hj => ?_
    have hj : j < 1 := hj
    obtain rfl : j = 0 := by omega
    rw [Nat.zero_add]
    have e1 : (ivs (xs ++ fs)).getD i [] = [iv xs[i]] := by simp [List.getD, List.getElem?_append, hi]
    have e2 : (ivs xs).getD i [] = [iv xs[i]] := by simp [List.getD, hi]
    simp only [e1, e2]
    exact .same _
theorem c_slices_Contains {xs : List Int} {t : Nat} (hl : xs.length ≤ 1000000) (h : R (.ret (bv (decide ((t : Int) ∈ xs)))) σ) : acall TP fn_slices_Contains [.ro (ivs xs), iv (t : Int)] σ R := by
  refine s_slices_Contains_ok ?_
  unfold s_slices_Contains
  refine s_slices_Index_ok ?_
  unfold s_slices_Index
  simp only [len_ro (fun x : Int => [iv x]), RR]
  refine lp_same xs.length (fun i => (AV.ro (ivs xs), iv (t : Int), iv (xs.length : Int), iv (i : Int), ())) (fun i => ∀ (j : Nat) (hj : j < xs.length), j < i → xs[j] ≠ (t : Int)) rfl (fun j hj h => by omega) ?_
  intro i hi hH R' hR'
  by_cases hlt : i < xs.length
  · have g : (i : Int) < (xs.length : Int) := by omega
    have ix := idx_ro (σ := σ) (enc := fun x : Int => [iv x]) (sz := 1) hlt fun _ => rfl
    have el : ∀ τ, lod (.rop [iv xs[i]] 0) τ = some (iv xs[i]) := fun _ => rfl
    simp only [g, ix, el, RR]
    by_cases c : (t : Int) = xs[i]
    · have g2 : (0 : Int) ≤ (i : Int) := by omega
      have hm : (t : Int) ∈ xs := by rw [c]; exact List.getElem_mem hlt
      rw [decide_eq_true hm] at h
      simp only [c, RR]
      refine ret_here ?_
      simp only [g2, RR]
      exact ret_here h
    · simp only [c, ibin_up hlt (by omega), RR]
      refine hR' hlt (fun j hj h1 => ?_) _ (.refl _)
      rcases Nat.lt_or_ge j i with h2 | h2
      · exact hH j hj h2
      · obtain rfl : j = i := by omega
        exact fun e => c e.symm
  · have g : ¬ (i : Int) < (xs.length : Int) := by omega
    have hm : ¬ (t : Int) ∈ xs := fun hm => by
      obtain ⟨j, hj, e⟩ := List.getElem_of_mem hm
      exact hH j hj (by omega) e
    rw [decide_eq_false hm] at h
    have g2 : ¬ (0 : Int) ≤ -1 := by omega
    simp only [g, RR]
    refine ret_here ?_
    simp only [g2, RR]
    exact ret_here h
theorem isT_tgtL (os : List OpD) (t : Nat) : decide ((t : Int) ∈ tgtL os) = isT os t := by
  rw [Bool.eq_iff_iff, decide_eq_true_iff, mem_tgtL]
  unfold isT
  rw [List.any_eq_true]
  constructor
  · rintro ⟨_, o, ho, e⟩; exact ⟨o, ho, decide_eq_true e⟩
  · rintro ⟨o, ho, e⟩; exact ⟨by omega, o, ho, of_decide_eq_true e⟩
theorem lend_contains {led : AV} {os : List OpD} {t : Nat} {K : AEnd → AH → Prop} (h : LedH τ led (tgtL os)) (hl : os.length ≤ 200) (hK : K (.ret (bv (isT os t))) τ) : acall TP fn_slices_Contains [led, iv (t : Int)] τ K := by
  have hlen := tgtL_len os
  refine lend_val (args' := [.ro (ivs (tgtL os)), iv (t : Int)]) (v := bv (isT os t)) (.val _) rfl (fun k hk => ?_) (fun R hR => c_slices_Contains (by omega) (by rw [isT_tgtL]; exact hR)) hK
  match k, hk with
  | 0, _ => exact h.fz
  | 1, _ => exact .same _
theorem nomH_led {φ st : Nat} {xs : List Int} : NomH (ah0.set φ ⟨st, 1, ivs xs⟩) := by
  intro ψ F hF i j hi hj
  by_cases e : ψ = φ
  · subst e
    rw [AH.set_same] at hF
    cases hF
    have hj : j < 1 := hj
    obtain rfl : j = 0 := by omega
    have hi' : i < xs.length := by simpa using hi
    have e : ((ivs xs).getD i []).getD 0 .any = iv (xs[i]) := by simp only [List.getD, List.getElem?_map, List.getElem?_eq_getElem hi']; rfl
    simp only
    rw [e]
    exact .val _
  · rw [AH.set_ne' e] at hF; cases hF
/-- The program's list, of a block that is owned. -/
theorem lend_targets {av : AV} {its : Its} {n : Int} {K : AEnd → AH → Prop} (hH : OpsH τ av its) (hs : smB (its.map (·.1))) (hl : its.length ≤ 200)
    (hK : ∀ led τ', LedH τ' led (tgtL (its.map (·.1))) → AH.Sub τ τ' → (∀ ψ, ψ ∈ famL led → τ ψ = none) → K (.ret led) τ') : acall TP fn_impl_targets [.agg [iv n, av]] τ K := by
  refine (acall_lend (σ0 := ah0) (args := [.agg [iv n, av]]) (args' := [.agg (encBlk ⟨n, its.map (·.1)⟩)]) (Q := fun e σ1 => ∃ led, LedH σ1 led (tgtL (its.map (·.1))) ∧ e = .ret led) (sub_none τ) rfl (fun k hk => ?_)
    (c_impl_targets_own (b := ⟨n, its.map (·.1)⟩) hs (by simpa using hl) (fun h0 => ⟨.emp, nomH_none, .emp, .inl ⟨rfl, h0⟩, rfl⟩) (fun φ st fs _ => ⟨.own .., nomH_led, _, .inr ⟨φ, st, fs, rfl, AH.set_same ..⟩, rfl⟩))).mono ?_
  · obtain rfl : k = 0 := by simp at hk; omega
    exact Fz.agg2 (.same _) (fz_ops hH fun _ _ => rfl)
  · rintro e σ' ⟨σ1, ⟨led, hL, rfl⟩, rfl, hd⟩
    have hn : ∀ ψ, ψ ∈ famL led → τ ψ = none := fun ψ hψ => by
      cases e2 : τ ψ with
      | none => rfl
      | some G => exact absurd (hd ψ G e2 rfl) (hL.live hψ)
    refine hK led _ ?_ (fun ψ F hF => thaw_lent hF rfl) hn
    rcases hL with h | ⟨φ, st, fs, rfl, hF⟩
    · exact .inl h
    · exact .inr ⟨φ, st, fs, rfl, by rw [thaw_other (.inl (hn φ (by simp [famL])))]; exact hF⟩
end Go.Proofs.YtlggnigbemghgaaGreatDoor.E
/- Code that is fused: the program's way. -/
set_option linter.unusedSectionVars false
set_option linter.unusedSimpArgs false
set_option linter.unusedVariables false
namespace Go.Proofs.YtlggnigbemghgaaGreatDoor.E
open Go Go.RowKit
set_option maxRecDepth 100000
variable [L : Lam]
variable {σ τ τ' : AH} {R : AEnd → AH → Prop}
def fusB (tab : Int) (b : Blk) : Blk := ⟨b.args, fusO tab b.ops⟩
theorem frz_rop {cs : List AV} {o : Nat} {k : AV → AH → Prop} (h : k (.rop cs o) τ) : frz (.rop cs o) τ k := ⟨_, τ, .refl τ, .same _, h⟩
theorem fuseP_ne {tab : Int} {T : Nat → Bool} {k : Nat} {p : OpD × AV} {r : Its} (h : r = [] ∨ T (k + 1) = true ∨ ∃ q r', r = q :: r' ∧ twoD tab p.1 q.1 = none) : fuseP tab T k (p :: r) = p :: fuseP tab T (k + 1) r := by
  cases r with
  | nil => rfl
  | cons q r =>
    simp only [fuseP]
    split
    · rename_i o h1 h2
      rcases h with h | h | ⟨q', r', e, h⟩
      · cases h
      · rw [h1] at h; cases h
      · cases e; rw [h2] at h; cases h
    · rfl
theorem plF_ne {tab : Int} {T : Nat → Bool} {z : Int → Int} {k : Nat} {m : Int} {p : OpD} {r : List OpD} (h : r = [] ∨ T (k + 1) = true ∨ ∃ q r', r = q :: r' ∧ twoD tab p q = none) : plF tab T z k m (p :: r) = m :: plF tab T z (k + 1) (m + 1) r := by
  cases r with
  | nil => rfl
  | cons q r =>
    simp only [plF]
    split
    · rename_i o h1 h2
      rcases h with h | h | ⟨q', r', e, h⟩
      · cases h
      · rw [h1] at h; cases h
      · cases e; rw [h2] at h; cases h
    · rfl
theorem fuseP_eq {tab : Int} {T : Nat → Bool} {k : Nat} {p q : OpD × AV} {o : OpD} {r : Its} (h1 : T (k + 1) = false) (h2 : twoD tab p.1 q.1 = some o) : fuseP tab T k (p :: q :: r) = (o, twoA p) :: fuseP tab T (k + 2) r := by
  simp only [fuseP, h1, h2]
theorem plF_eq {tab : Int} {T : Nat → Bool} {z : Int → Int} {k : Nat} {m : Int} {p q o : OpD} {r : List OpD} (h1 : T (k + 1) = false) (h2 : twoD tab p q = some o) : plF tab T z k m (p :: q :: r) = m :: z m :: plF tab T z (k + 2) (m + 1) r := by
  simp only [plF, h1, h2]
/-- A place that is told, beside a cell. -/
theorem place_sto {u : AV} {xs : List Int} {k χ : Nat} {m : Int} {N : Nat} {A : Fam} (hχ : τ χ = none) (h : Buf τ 1 u (ivs (xs ++ 0 :: List.replicate N 0))) (hk : xs.length = k)
    : ∃ p, idx 1 u (iv (k : Int)) (τ.set χ A) = some p ∧ ∀ K : AH → Prop, (∀ τu, Buf τu 1 u (ivs (xs ++ m :: List.replicate N 0)) → (∀ ψ, ψ ∉ famL u → τu ψ = τ ψ) → τu χ = none → K (τu.set χ A)) → sto 1 p (iv m) (τ.set χ A) K := by
  obtain ⟨φ, st, rfl, hF⟩ := buf_own h (by simp)
  have hne : φ ≠ χ := by rintro rfl; rw [hF] at hχ; cases hχ
  have hl : (ivs (xs ++ 0 :: List.replicate N 0)).length = k + (N + 1) := by simp [hk]
  have hF2 : (τ.set χ A) φ = some ⟨st, 1, ivs (xs ++ 0 :: List.replicate N 0)⟩ := by rw [AH.set_ne' hne]; exact hF
  have ix := idx_own (st := st) (off := 0) hF2 (show k < (ivs (xs ++ 0 :: List.replicate N 0)).length by rw [hl]; omega)
  rw [Nat.zero_add] at ix
  refine ⟨_, ix, fun K hK => ?_⟩
  have hset : τ.set χ A = (τ.set χ A).set φ ⟨st, 1, ivs xs ++ [iv 0] :: ivs (List.replicate N 0)⟩ := (AH.set_self (by rw [hF2]; simp)).symm
  rw [hset]
  refine sto_at (by simpa using hk) (by omega) rfl ?_
  have er : [iv 0].set 0 (iv m) = [iv m] := rfl
  rw [er, AH.set_comm _ _ _ (Ne.symm hne)]
  refine hK _ (.inr ⟨φ, st, by simp, by rw [AH.set_same]; simp⟩) (fun ψ hψ => AH.set_ne' (by rintro rfl; exact hψ (by simp [famL]))) ?_
  rw [AH.set_ne' (Ne.symm hne)]; exact hχ
set_option maxHeartbeats 4000000 in
theorem c_impl_fused {bs : List Blk} {tab : Int} (hb : bC 1048576 bs) (h0 : 0 ≤ tab) (h1 : tab ≤ 15) (hc : codeF bs = 0) (h : ∀ v B τ, cont B = bs.map (fusB tab) → NewB σ τ v B → R (.ret v) τ) : acall TP fn_impl_fused [roBk bs, iv tab] σ R := by
  obtain ⟨hp, hht, _⟩ := codeF_pre hc
  have hl := hp.len
  refine s_impl_fused_ok ?_
  unfold s_impl_fused
  refine c_impl_copiedCode hb.1 (fun b hm => ⟨(hb.2 b hm).1, fun o ho => ((hb.2 b hm).2 o ho).2.1⟩) fun v B0 τ0 hc0 hN0 => ?_
  have hlv := buf_len hN0.own.1
  have hB0 : (B0.map fun b => [iv b.args, b.av]).length = bs.length := by have := congrArg List.length hc0; simpa [cont] using this
  rw [hB0] at hlv
  simp only [hlv, RR]
  refine lp_rel bs.length (fun i x τ => ∃ B, x = (iv tab, v, v, iv (bs.length : Int), iv (i : Int), ()) ∧ cont B = (bs.take i).map (fusB tab) ++ bs.drop i ∧ NewB σ τ v B) ⟨B0, rfl, by simpa using hc0, hN0⟩ ?_
  rintro i _ τ hi ⟨B, rfl, hcB, hN⟩ R' hR'
  by_cases hlt : i < bs.length
  case neg =>
    have g : ¬ (i : Int) < (bs.length : Int) := by omega
    obtain rfl : i = bs.length := by omega
    rw [List.take_length, List.drop_length, List.append_nil] at hcB
    simp only [g, RR]
    exact ret_here (h v B τ hcB hN)
  have g : (i : Int) < (bs.length : Int) := by omega
  obtain ⟨hsmb, hol⟩ := hp.sm _ (List.getElem_mem hlt)
  obtain ⟨out, hout⟩ : ∃ out, hts bs[i].ops = some out := by
    cases e : hts bs[i].ops with
    | none => exact absurd e (hht _ (List.getElem_mem hlt))
    | some o => exact ⟨o, rfl⟩
  have hok := hts_some hout
  rw [List.drop_eq_getElem_cons hlt] at hcB
  obtain ⟨BA, b, BC, rfl, hcA, hcb, hcC, hAl⟩ := cont_split hcB
  have hAl : BA.length = i := by rw [hAl]; simp; omega
  have hba : b.args = bs[i].args := congrArg Blk.args hcb
  have hbo : b.its.map (·.1) = bs[i].ops := congrArg Blk.ops hcb
  have hbl : b.its.length = bs[i].ops.length := by rw [← hbo]; simp
  have hbH : OpsH τ b.av b.its := hN.own.2 b (by simp)
  have hrow : (((BA ++ b :: BC).map fun b => [iv b.args, b.av])[i]'(by simp; omega)) = [iv b.args, b.av] := by
    subst hAl; simp
  obtain ⟨pt, q1, q2⟩ := buf_at (i := i) hN.own.1 (by simp; omega) (by rw [hrow]; rfl)
  rw [hrow] at q2
  simp only [g, q1, q2, RR]
  intro φ7 h7
  refine sto_own (es := [[iv 0, nilS]]) (cs := [iv b.args, b.av]) (by rw [AH.set_same]; rfl) (by simp) rfl rfl rfl (one2 rfl hbH.av1) ?_
  simp only [List.set_cons_zero, AH.set_set]
  have hitl : ∀ ψ, ψ ∈ itsF b.its → τ ψ ≠ none := fun ψ hψ => live_ne (hbH.2.live hψ)
  have hitf : ∀ ψ, ψ ∈ itsF b.its → σ ψ = none := fun ψ hψ => hN.fr ψ (by
    refine List.mem_append_right _ (List.mem_flatMap.2 ⟨b, by simp, List.mem_append_right _ hψ⟩))
  have hitn : (itsF b.its).Nodup := by
    have := hN.nd
    have e : blksF v (BA ++ b :: BC) = famL v ++ (bsF BA ++ ((famL b.av ++ itsF b.its) ++ bsF BC)) := by
      have : bsF (BA ++ b :: BC) = bsF BA ++ ((famL b.av ++ itsF b.its) ++ bsF BC) := by rw [bsF_app, bsF_cons]; rfl
      rw [← this]; rfl
    rw [e] at this
    exact (nodup_app.1 (nodup_app.1 (nodup_app.1 (nodup_app.1 this).2.1).2.1).1).2.1
  have l1 : ∀ τ, lod (.rop [iv b.args, b.av] 1) τ = some b.av := fun _ => rfl
  have lA : ∀ τ, lodA 2 (.rop [iv b.args, b.av] 0) τ = some (.agg [iv b.args, b.av]) := fun _ => rfl
  have hlb := buf_len hbH.1
  rw [show (b.its.map fun p => encOpA p.1 p.2).length = b.its.length by simp] at hlb
  refine jn_of (fun x τ' => ∃ led u, x = (iv tab, v, iv (i : Int), .rop [iv b.args, b.av] 0, led, .emp, u, v, iv (bs.length : Int), iv (i : Int), ()) ∧ LedH τ' led (tgtL (b.its.map (·.1))) ∧ Buf τ' 1 u (ivs (List.replicate b.its.length 0)) ∧ AH.Sub τ τ' ∧
      (∀ ψ, ψ ∈ famL led → τ ψ = none) ∧ (∀ ψ, ψ ∈ famL u → τ ψ = none) ∧ ∀ ψ, ψ ∈ famL u → ψ ∉ famL led) ?_ ?_
  case refine_2 =>
    intro k hk
    refine frz_cell h7 rfl ?_
    have e0 : bslR 7 [(.val (.int .i64 0)), (.val (.int .i64 0)), (.val (.int .i64 0)), (.val (.int .i64 0)), (.val (.int .i64 0)), (.val (.string ⟨#[]⟩)), (.val (.slice none 0 0))] 0 [] = some AV.emp := rfl
    have er : ∀ n : Nat, ivs (List.replicate n 0) = List.replicate n [iv 0] := fun n => by simp [ivs]
    refine ⟨?_, ?_⟩
    · simp only [lA, e0, l1, hlb, RR]
      refine lend_targets hbH (by rw [hbo]; exact hsmb) (by omega) fun led τ1 hL hs1 hf1 => ?_
      simp only [l1, lA, true_and, and_true, RR]
      refine mk_Li (by omega) (by omega) (by omega) fun φu hu => ?_
      simp only [Int.toNat_natCast, lA, true_and, and_true]
      have hs2 : AH.Sub τ1 (τ1.set φu ⟨0, 1, List.replicate b.its.length [iv 0]⟩) := .set (.refl τ1) _ hu
      refine hk _ _ ⟨led, _, rfl, hL.kp (Kp.of_sub (F := []) hs2) (fun _ _ c => by cases c), .inr ⟨φu, 0, by simp, by rw [AH.set_same, er]⟩, hs1.trans hs2, hf1, fun ψ hψ => ?_, fun ψ hψ c => ?_⟩
      · obtain rfl : ψ = φu := by simpa [famL] using hψ
        exact hs1.none hu
      · obtain rfl : ψ = φu := by simpa [famL] using hψ
        exact hL.live c hu
    · simp only [lA, e0, l1, hlb, RR]
      refine mk_Li (by omega) (by omega) (by omega) fun φu hu => ?_
      simp only [Int.toNat_natCast, lA, true_and, and_true]
      have hs2 : AH.Sub τ (τ.set φu ⟨0, 1, List.replicate b.its.length [iv 0]⟩) := .set (.refl τ) _ hu
      have hbH2 : OpsH (τ.set φu ⟨0, 1, List.replicate b.its.length [iv 0]⟩) b.av b.its := (Kp.of_sub (F := []) hs2).ops hbH fun _ _ c => by cases c
      refine lend_targets hbH2 (by rw [hbo]; exact hsmb) (by omega) fun led τ1 hL hs1 hf1 => ?_
      simp only [l1, true_and, and_true, RR]
      refine hk _ _ ⟨led, _, rfl, hL, .inr ⟨φu, 0, by simp, by rw [hs1 _ _ (AH.set_same ..), er]⟩, hs2.trans hs1, fun ψ hψ => hs2.none (hf1 ψ hψ), fun ψ hψ => ?_, fun ψ hψ c => ?_⟩
      · obtain rfl : ψ = φu := by simpa [famL] using hψ
        exact hu
      · obtain rfl : ψ = φu := by simpa [famL] using hψ
        have := hf1 ψ c
        rw [AH.set_same] at this; cases this
  rintro _ τs ⟨led, u, rfl, hL, hU, hsub0, hLf, huf, huL⟩
  have hB0H : OpsH τs b.av b.its := (Kp.of_sub (F := []) hsub0).ops hbH fun _ _ c => by cases c
  have wuse : ∀ ψ, ψ ∈ famL u → τs ψ ≠ none := fun ψ hψ => live_ne (buf_live hU hψ)
  refine lp_by (fun n x τ' => ∃ (pre rest W : Its) (xs : List Int) (w : AV), b.its = pre ++ rest ∧ rest.length = n ∧ x = (iv tab, v, iv (i : Int), .rop [iv b.args, b.av] 0, led, w, u, iv (pre.length : Int), v, iv (bs.length : Int), iv (i : Int), ()) ∧
      NewO σ τ' w W ∧ W ++ fuseP tab (isT bs[i].ops) pre.length rest = fuseP tab (isT bs[i].ops) 0 b.its ∧ W.length ≤ pre.length ∧ xs ++ plF tab (isT bs[i].ops) (fun _ => 0) pre.length (W.length : Int) (rest.map (·.1)) = plF tab (isT bs[i].ops) (fun _ => 0) 0 0 bs[i].ops ∧ xs.length = pre.length ∧
      Buf τ' 1 u (ivs (xs ++ List.replicate rest.length 0)) ∧ LedH τ' led (tgtL bs[i].ops) ∧ AH.Sub τ τ' ∧ (∀ ψ, ψ ∈ famL w → τ ψ = none) ∧ (∀ ψ, ψ ∈ famL w → ψ ∉ famL u) ∧ ∀ ψ, ψ ∈ famL w → ψ ∉ famL led) b.its.length
    ⟨[], b.its, [], [], .emp, rfl, rfl, rfl, .emp (hN.sub.trans hsub0), rfl, Nat.le_refl _, by rw [hbo]; rfl, rfl, by simpa using hU, by rw [← hbo]; exact hL, hsub0, (fun ψ c => by cases c), (fun ψ c => by cases c), fun ψ c => by cases c⟩ ?_
  rintro n x τ1 ⟨pre, rest, W, xs, w, hit, hrl, rfl, hO, hfu, hWl, hpl, hxl, hU1, hL1, hsub, hwf, hwu, hwl⟩ R2 hR2
  have hn : b.its.length = pre.length + rest.length := by rw [hit]; simp
  have hlw := buf_len hO.own.1
  rw [List.length_map] at hlw
  have hbH1 : OpsH τ1 b.av b.its := (Kp.of_sub (F := []) hsub).ops hbH fun _ _ c => by cases c
  simp only [l1, hlb, RR]
  cases rest with
  | nil =>
    have g2 : ¬ (pre.length : Int) < (b.its.length : Int) := by rw [hn]; simp
    simp only [g2, RR]
    have hW : W = fuseP tab (isT bs[i].ops) 0 b.its := by rw [← hfu]; simp [fuseP]
    have hX : xs = plF tab (isT bs[i].ops) (fun _ => 0) 0 0 bs[i].ops := by rw [← hpl]; simp [plF]
    have hU2 : Buf τ1 1 u (ivs xs) := by simpa using hU1
    have hWs : W.map (·.1) = fuseD tab (isT bs[i].ops) 0 bs[i].ops := by rw [hW, fuseP_fst tab _ b.its.length 0 b.its (Nat.le_refl _), hbo]
    have hxl2 : xs.length = bs[i].ops.length := by rw [hX]; exact plF_len tab _ _ bs[i].ops.length 0 0 _ (Nat.le_refl _)
    refine c_impl_moved hO.own.1 hU2 hwu (fun p hpm => ?_) (by omega) fun τ4 hB4 hK4 => ?_
    · have hm : p.1 ∈ fuseD tab (isT bs[i].ops) 0 bs[i].ops := by rw [← hWs]; exact List.mem_map.2 ⟨p, hpm, rfl⟩
      obtain ⟨s1, s2, s3, _⟩ := fuseD_ok tab (isT bs[i].ops) bs[i].ops.length bs[i].ops.length 0 _ (Nat.le_refl _) hsmb hok.tgt _ hm
      rw [hxl2]
      exact ⟨s1, s2, s3⟩
    obtain ⟨_, _, hn3⟩ := nodup_app.1 hO.nd
    have hI4 : ItsH τ4 (W.map (turnP xs)) := turnP_own (hO.own.2.keep fun ψ hψ => hK4 ψ fun c => hn3 ψ c hψ)
    obtain ⟨φ, st, hv, _, _, ix, hst⟩ := NewB.repl (τ := τ4) (w := w) (W := W.map (turnP xs)) hN ⟨hB4, hI4⟩ (by rw [turnP_fam, hW]; exact fuseP_fam tab _ b.its.length 0 b.its (Nat.le_refl _)) hwf (fun ψ h1 h2 => by
      rw [hK4 ψ h1]
      cases e : τ ψ with
      | none => exact absurd e h2
      | some F => exact hsub _ _ e) hO.own.av1
    rw [hAl] at ix hst
    simp only [ix, RR]
    refine hst _ fun τ5 hN5 => ?_
    simp only [ibin_up hlt (by omega), RR]
    refine hR' _ _ _ hlt (.refl _) ⟨_, rfl, ?_, hN5⟩
    have : cont (BA ++ ⟨b.args, w, W.map (turnP xs)⟩ :: BC) = cont BA ++ ⟨b.args, (W.map (turnP xs)).map (·.1)⟩ :: cont BC := by simp [cont]
    rw [this, hcA, hcC, turnP_fst, hWs, hX, fusO_any tab _ hsmb hok.tgt, hba, List.take_succ_eq_append_getElem hlt, List.map_append, List.append_assoc]
    try rfl
  | cons p r =>
    have g2 : (pre.length : Int) < (b.its.length : Int) := by rw [hn]; simp; omega
    have hpk : pre.length < b.its.length := by omega
    have hpat : b.its[pre.length] = p := by simp [hit]
    have hrow2 : ((b.its.map fun p => encOpA p.1 p.2)[pre.length]'(by simpa using hpk)) = encIt p := by simp [hpat]
    obtain ⟨pt2, q3, q4⟩ := buf_at (i := pre.length) hbH1.1 (by simpa using hpk) (by rw [hrow2]; rfl)
    rw [hrow2] at q4
    have hpm : p ∈ b.its := by rw [hit]; simp
    have hpD : Buf τ 4 p.2 (p.1.data.map encDat) := hbH.2 p hpm
    have hp1 : p.2.one = true := hpD.av1
    have hpF : ∀ ψ, ψ ∈ famL p.2 → ψ ∈ itsF b.its := fun ψ hψ => List.mem_flatMap.2 ⟨p, hpm, hψ⟩
    simp only [g2, q3, q4, RR]
    intro χ hχ
    refine sto_own (es := [[iv 0, iv 0, iv 0, iv 0, iv 0, str ⟨#[]⟩, nilS]]) (cs := encIt p) (by rw [AH.set_same]; rfl) (by simp) rfl rfl rfl (one7 hp1) ?_
    simp only [List.set_cons_zero, AH.set_set, hlw, RR]
    obtain ⟨pu, ixu, hstu⟩ := place_sto (τ := τ1) (χ := χ) (A := ⟨0, 7, [encIt p]⟩) (m := (W.length : Int)) hχ (by simpa [List.replicate_succ] using hU1) hxl
    simp only [ixu, RR]
    refine hstu _ fun τu hUu hKu hχu => ?_
    have hKpu : Kp (famL u) τ1 τu := fun ψ h _ => hKu ψ h
    have hsubu : AH.Sub τ τu := hKpu.sub hsub huf
    have hWsub : (itsF (W ++ fuseP tab (isT bs[i].ops) pre.length (p :: r))).Sublist (itsF b.its) := by rw [hfu]; exact fuseP_fam tab _ b.its.length 0 b.its (Nat.le_refl _)
    have hWin : ∀ ψ, ψ ∈ itsF W → ψ ∈ itsF b.its := fun ψ hψ => hWsub.subset (by rw [itsF_append]; exact List.mem_append_left _ hψ)
    have hWnd : (itsF W ++ itsF (fuseP tab (isT bs[i].ops) pre.length (p :: r))).Nodup := by rw [← itsF_append]; exact hitn.sublist hWsub
    have hOu : NewO σ τu w W := hO.kp hKpu (fun ψ hψ c => by
      rcases List.mem_append.1 hψ with d | d
      · exact hwu ψ d c
      · exact hitl ψ (hWin ψ d) (huf ψ c)) fun ψ hψ => hN.sub.none (huf ψ hψ)
    have hLu : LedH τu led (tgtL bs[i].ops) := hL1.kp hKpu fun ψ h c => huL ψ c h
    have hbHu : OpsH τu b.av b.its := (Kp.of_sub (F := []) hsubu).ops hbH fun _ _ c => by cases c
    have hpDu : Buf τu 4 p.2 (p.1.data.map encDat) := hbHu.2 p hpm
    have e7 : ∀ (row : List AV) τ, row.length = 7 → lodA 7 (.rop row 0) τ = some (.agg row) := fun row τ hr => lodA_all hr
    have e7 : ∀ (p : OpD × AV) τ, lodA 7 (.rop (encIt p) 0) τ = some (.agg (encIt p)) := fun _ _ => rfl
    have push : ∀ (p' : OpD × AV) (K : AV → AH → Prop), Buf τu 4 p'.2 (p'.1.data.map encDat) → (∀ ψ, ψ ∈ famL p'.2 → ψ ∈ famL p.2) → (∀ ψ, ψ ∈ famL p'.2 → ψ ∉ itsF W) → p'.2.one = true →
        (∀ w' τ4, NewO σ τ4 w' (W ++ [p']) → Kp (famL w) τu τ4 → (∀ ψ, ψ ∈ famL w' → ψ ∈ famL w ∨ τu ψ = none) → K w' τ4) → bsl 7 [(.val (.int .i64 0)), (.val (.int .i64 0)), (.val (.int .i64 0)), (.val (.int .i64 0)), (.val (.int .i64 0)), (.val (.string ⟨#[]⟩)), (.val (.slice none 0 0))] 1 [(0, .agg (encIt p'))] τu fun x σ => E.app 7 w x σ K := by
      intro p' K f1 f2 f3 f4 f5
      refine hOu.push rfl f1 (fun ψ hψ c => ?_) (fun ψ hψ => hitf ψ (hpF ψ (f2 ψ hψ))) f4 (by omega) f5
      rcases List.mem_append.1 c with c | c
      · exact hitl ψ (hpF ψ (f2 ψ hψ)) (hwf ψ c)
      · exact f3 ψ hψ c
    have next : ∀ (p' : OpD × AV) (pre' rest' : Its) (xs' : List Int) (w' : AV) (τ4 : AH), NewO σ τ4 w' (W ++ [p']) → Kp (famL w) τu τ4 → (∀ ψ, ψ ∈ famL w' → ψ ∈ famL w ∨ τu ψ = none) → b.its = pre' ++ rest' → rest'.length < n → (W ++ [p']) ++ fuseP tab (isT bs[i].ops) pre'.length rest' = fuseP tab (isT bs[i].ops) 0 b.its →
        xs' ++ plF tab (isT bs[i].ops) (fun _ => 0) pre'.length ((W.length : Int) + 1) (rest'.map (·.1)) = plF tab (isT bs[i].ops) (fun _ => 0) 0 0 bs[i].ops → xs'.length = pre'.length → W.length + 1 ≤ pre'.length → Buf τu 1 u (ivs (xs' ++ List.replicate rest'.length 0)) → ∀ {k : Nat}, k = pre'.length →
        R2 (iv tab, v, iv (i : Int), .rop [iv b.args, b.av] 0, led, w', u, iv (k : Int), v, iv (bs.length : Int), iv (i : Int), ()) τ4 := by
      intro p' pre' rest' xs' w' τ4 f1 f2 f3 f4 f5 f6 f7 f8 f9 f10 k hk
      subst hk
      refine hR2 _ _ rest'.length τ4 f5 (.refl _) ⟨pre', rest', W ++ [p'], xs', w', f4, rfl, rfl, f1, f6, by simpa using f9, by rw [← f7]; simp, f8, f2.buf f10 (fun ψ h c => hwu ψ c h), hLu.kp f2 (fun ψ h c => hwl ψ c h), f2.sub hsubu hwf, fun ψ hψ => ?_, fun ψ hψ c => ?_, fun ψ hψ c => ?_⟩
      · rcases f3 ψ hψ with d | d
        · exact hwf ψ d
        · exact hsubu.none d
      · rcases f3 ψ hψ with d | d
        · exact hwu ψ d c
        · exact live_ne (buf_live hUu c) d
      · rcases f3 ψ hψ with d | d
        · exact hwl ψ d c
        · exact hLu.live c d
    have hpW : (r = [] ∨ isT bs[i].ops (pre.length + 1) = true ∨ ∃ q r', r = q :: r' ∧ twoD tab p.1 q.1 = none) → ∀ ψ, ψ ∈ famL p.2 → ψ ∉ itsF W := fun hne ψ hψ c => by
      rw [fuseP_ne hne, itsF_cons] at hWnd
      exact (nodup_app.1 hWnd).2.2 ψ c (List.mem_append_left _ hψ)
    have hneD : (r = [] ∨ isT bs[i].ops (pre.length + 1) = true ∨ ∃ q r', r = q :: r' ∧ twoD tab p.1 q.1 = none) → (r.map (·.1) = [] ∨ isT bs[i].ops (pre.length + 1) = true ∨ ∃ q r', r.map (·.1) = q :: r' ∧ twoD tab p.1 q = none) := by
      rintro (h | h | ⟨q, r', rfl, h⟩)
      · exact .inl (by rw [h]; rfl)
      · exact .inr (.inl h)
      · exact .inr (.inr ⟨q.1, r'.map (·.1), rfl, h⟩)
    have up1 := ibin_up hpk (show b.its.length ≤ 9223372036854775807 by omega)
    cases r with
    | nil =>
      have hne : ([] : Its) = [] ∨ isT bs[i].ops (pre.length + 1) = true ∨ ∃ q r', ([] : Its) = q :: r' ∧ twoD tab p.1 q.1 = none := .inl rfl
      have g3 : ¬ ((pre.length + 1 : Nat) : Int) < (b.its.length : Int) := by rw [hn]; simp
      simp only [jn, up1, l1, hlb, g3, RR]
      refine frz_cell hχu rfl ?_
      simp only [e7, RR]
      refine push p _ hpDu (fun ψ hψ => hψ) (hpW hne) hp1 fun w' τ4 a1 a2 a3 => ?_
      try simp only [ibin_up hpk (by omega), RR]
      exact next p (pre ++ [p]) [] (xs ++ [(W.length : Int)]) w' τ4 a1 a2 a3 (by simp [hit]) (by rw [← hrl]; simp) (by rw [← hfu, fuseP_ne hne]; simp) (by rw [← hpl, List.map_cons, plF_ne (hneD hne)]; simp) (by simp [hxl]) (by simp; omega) (by simpa using hUu) (by simp)
    | cons q r' =>
      have hpk1 : pre.length + 1 < b.its.length := by rw [hn]; simp
      have g3 : ((pre.length + 1 : Nat) : Int) < (b.its.length : Int) := by omega
      simp only [jn, up1, l1, hlb, g3, RR]
      have hLc : LedH (τu.set χ ⟨0, 7, [encIt p]⟩) led (tgtL bs[i].ops) := hLu.kp (Kp.of_sub (F := []) (.set (.refl τu) _ hχu)) fun _ _ c => by cases c
      refine lend_contains hLc hol ?_
      cases hT : isT bs[i].ops (pre.length + 1)
      case true =>
        have hne : (q :: r') = [] ∨ isT bs[i].ops (pre.length + 1) = true ∨ ∃ q2 r2, (q :: r') = q2 :: r2 ∧ twoD tab p.1 q2.1 = none := .inr (.inl hT)
        generalize hrr : q :: r' = r at *
        simp only [RR]
        refine frz_cell hχu rfl ?_
        simp only [e7, RR]
        refine push p _ hpDu (fun ψ hψ => hψ) (hpW hne) hp1 fun w' τ4 a1 a2 a3 => ?_
        try simp only [ibin_up hpk (by omega), RR]
        exact next p (pre ++ [p]) r (xs ++ [(W.length : Int)]) w' τ4 a1 a2 a3 (by simp [hit]) (by rw [← hrl]; simp) (by rw [← hfu, fuseP_ne hne]; simp) (by rw [← hpl, List.map_cons, plF_ne (hneD hne)]; simp) (by simp [hxl]) (by simp; omega) (by simpa using hUu) (by simp)
      case false =>
        have hbHx : OpsH (τu.set χ ⟨0, 7, [encIt p]⟩) b.av b.its := (Kp.of_sub (F := []) (.set (.refl τu) _ hχu)).ops hbHu fun _ _ c => by cases c
        have hqat : b.its[pre.length + 1] = q := by simp [hit]
        have hrow3 : ((b.its.map fun p => encOpA p.1 p.2)[pre.length + 1]'(by simpa using hpk1)) = encIt q := by simp [hqat]
        obtain ⟨pt3, q5, q6⟩ := buf_at (i := pre.length + 1) hbHx.1 (by simpa using hpk1) (by rw [hrow3]; rfl)
        rw [hrow3] at q6
        have eχ : lodA 7 (.ptr χ 0 0 0) (τu.set χ ⟨0, 7, [encIt p]⟩) = some (.agg (encIt p)) := lodA_at (AH.set_same ..) rfl rfl rfl
        simp only [eχ, l1, up1, q5, q6, RR]
        refine c_impl_both h0 h1 (hbHx.2 p hpm) fun row ok hTw => ?_
        simp only [true_and, aext0, aext1, RR]
        refine new_frz rfl hTw.len rfl hTw.one ?_
        cases hD : twoD tab p.1 q.1 with
        | none =>
          have hne : (q :: r') = [] ∨ isT bs[i].ops (pre.length + 1) = true ∨ ∃ q2 r2, (q :: r') = q2 :: r2 ∧ twoD tab p.1 q2.1 = none := .inr (.inr ⟨q, r', rfl, hD⟩)
          rw [hTw.no hD]
          generalize hrr : q :: r' = r at *
          simp only [RR]
          refine frz_cell hχu rfl ?_
          simp only [e7, RR]
          refine push p _ hpDu (fun ψ hψ => hψ) (hpW hne) hp1 fun w' τ4 a1 a2 a3 => ?_
          try simp only [ibin_up hpk (by omega), RR]
          exact next p (pre ++ [p]) r (xs ++ [(W.length : Int)]) w' τ4 a1 a2 a3 (by simp [hit]) (by rw [← hrl]; simp) (by rw [← hfu, fuseP_ne hne]; simp) (by rw [← hpl, List.map_cons, plF_ne (hneD hne)]; simp) (by simp [hxl]) (by simp; omega) (by simpa using hUu) (by simp)
        | some o =>
          obtain ⟨t1, t2⟩ := hTw.yes o hD
          subst t1 t2
          have hA1 : (twoA p).one = true := twoA_one hp1
          simp only [e7 (o, twoA p), RR]
          refine sto_own (es := [encIt p]) (cs := encIt (o, twoA p)) (AH.set_same ..) (by simp) rfl rfl rfl (one7 hA1) ?_
          simp only [List.set_cons_zero, AH.set_set]
          refine frz_cell hχu rfl ?_
          try simp only [up1, RR]
          refine frz_rop ?_
          simp only [e7 (o, twoA p), RR]
          have hfe := fuseP_eq (r := r') hT hD
          refine push (o, twoA p) _ (twoA_own hD hpDu) (fun ψ hψ => (twoA_fam p).subset hψ) (fun ψ hψ c => ?_) hA1 fun w' τ4 a1 a2 a3 => ?_
          · rw [hfe, itsF_cons] at hWnd
            exact (nodup_app.1 hWnd).2.2 ψ c (List.mem_append_left _ hψ)
          have up2 := ibin_up hpk1 (show b.its.length ≤ 9223372036854775807 by omega)
          try simp only [up2, RR]
          refine next (o, twoA p) (pre ++ [p, q]) r' (xs ++ [(W.length : Int), 0]) w' τ4 a1 a2 a3 (by simp [hit]) (by rw [← hrl]; simp; omega) (by rw [← hfu, hfe]; simp) ?_ (by simp [hxl]) (by simp; omega) (by simpa [List.replicate_succ] using hUu) (by simp)
          rw [← hpl, List.map_cons, List.map_cons, plF_eq hT hD]
          simp
end Go.Proofs.YtlggnigbemghgaaGreatDoor.E
/- Code that is fused: the reference's way. -/
set_option linter.unusedSectionVars false
set_option linter.unusedSimpArgs false
set_option linter.unusedVariables false
namespace Go.Proofs.YtlggnigbemghgaaGreatDoor.E
open Go Go.RowKit
set_option maxRecDepth 100000
variable [L : Lam]
variable {σ τ τ' : AH} {R : AEnd → AH → Prop}
set_option maxHeartbeats 4000000 in
theorem c_spec_l11Fuse {σ1 : AH} {φ st i : Nat} {F : Fam} {n tab : Int} {av : AV} {its : Its} {os : List OpD} (h0 : 0 ≤ tab) (h1 : tab ≤ 15) (hF : τ φ = some F) (hst : F.st = st) (hsz : F.sz = 2) (hr : F.es[i]? = some [iv n, av]) (hH : OpsH τ av its) (hbo : its.map (·.1) = os) (hol : os.length ≤ 200) (hsm : smB os) (htg : ∀ o, o ∈ os → tgtN o < os.length)
    (hbase : AH.Sub σ1 τ) (hitf : ∀ ψ, ψ ∈ itsF its → σ1 ψ = none) (hitn : (itsF its).Nodup)
    (h : ∀ w τ', OpsH τ' w ((fuseP tab (isT os) 0 its).map (turnP (plF tab (isT os) (fun m => m) 0 0 os))) → AH.Sub τ τ' → (∀ ψ, ψ ∈ famL w → τ ψ = none) → R (.ret w) τ') : acall TP fn_spec_l11Fuse [.ptr φ st i 0, iv tab] τ R := by
  have hrg : F.es.getD i [] = [iv n, av] := by simp [List.getD, hr]
  have hbl : its.length = os.length := by rw [← hbo]; simp
  have hitl : ∀ ψ, ψ ∈ itsF its → τ ψ ≠ none := fun ψ hψ => live_ne (hH.2.live hψ)
  have el : ∀ τ2, AH.Sub τ τ2 → lod (.ptr φ st i 1) τ2 = some av := fun τ2 hs => lod_at (hs _ _ hF) hst (by rw [hrg]; rfl)
  refine s_spec_l11Fuse_ok ?_
  unfold s_spec_l11Fuse
  refine bsl0 ?_
  refine bsl0 ?_
  refine lp_by (fun n x τ' => ∃ (pre rest W : Its) (xs : List Int) (w u : AV), its = pre ++ rest ∧ rest.length = n ∧ x = (.ptr φ st i 0, iv tab, w, u, iv (pre.length : Int), ()) ∧
      NewO σ1 τ' w W ∧ W ++ fuseP tab (isT os) pre.length rest = fuseP tab (isT os) 0 its ∧ W.length ≤ pre.length ∧ xs ++ plF tab (isT os) (fun m => m) pre.length (W.length : Int) (rest.map (·.1)) = plF tab (isT os) (fun m => m) 0 0 os ∧ xs.length = pre.length ∧
      Buf τ' 1 u (ivs xs) ∧ AH.Sub τ τ' ∧ (∀ ψ, ψ ∈ famL w → τ ψ = none) ∧ (∀ ψ, ψ ∈ famL u → τ ψ = none) ∧ ∀ ψ, ψ ∈ famL w → ψ ∉ famL u) its.length
    ⟨[], its, [], [], .emp, .emp, rfl, rfl, rfl, .emp hbase, rfl, Nat.le_refl _, by rw [hbo]; rfl, rfl, .inl ⟨.inr rfl, rfl⟩, .refl τ, (fun ψ c => by cases c), (fun ψ c => by cases c), fun ψ c => by cases c⟩ ?_
  rintro n0 x τ1 ⟨pre, rest, W, xs, w, u, hit, hrl, rfl, hO, hfu, hWl, hpl, hxl, hU1, hsub, hwf, huf, hwu⟩ R2 hR2
  have hn : its.length = pre.length + rest.length := by rw [hit]; simp
  have hlw := buf_len hO.own.1
  rw [List.length_map] at hlw
  have hbH1 : OpsH τ1 av its := (Kp.of_sub (F := []) hsub).ops hH fun _ _ c => by cases c
  have hlb := buf_len hbH1.1
  rw [show (its.map fun p => encOpA p.1 p.2).length = its.length by simp] at hlb
  have el1 := el τ1 hsub
  simp only [el1, hlb, RR]
  cases rest with
  | nil =>
    have g2 : ¬ (pre.length : Int) < (its.length : Int) := by rw [hn]; simp
    simp only [g2, RR]
    have hW : W = fuseP tab (isT os) 0 its := by rw [← hfu]; simp [fuseP]
    have hX : xs = plF tab (isT os) (fun m => m) 0 0 os := by rw [← hpl]; simp [plF]
    have hWs : W.map (·.1) = fuseD tab (isT os) 0 os := by rw [hW, fuseP_fst tab _ its.length 0 its (Nat.le_refl _), hbo]
    have hxl2 : xs.length = os.length := by rw [hX]; exact plF_len tab _ _ os.length 0 0 _ (Nat.le_refl _)
    refine c_spec_l11Turn hO.own.1 hU1 hwu (fun p hpm => ?_) (by omega) fun τ4 hB4 hK4 => ?_
    · have hm : p.1 ∈ fuseD tab (isT os) 0 os := by rw [← hWs]; exact List.mem_map.2 ⟨p, hpm, rfl⟩
      obtain ⟨s1, s2, s3, _⟩ := fuseD_ok tab (isT os) os.length os.length 0 _ (Nat.le_refl _) hsm htg _ hm
      rw [hxl2]
      exact ⟨s1, s2, s3⟩
    obtain ⟨_, _, hn3⟩ := nodup_app.1 hO.nd
    simp only [RR]
    rw [← hW, ← hX] at h
    refine ret_here (h w τ4 ⟨hB4, turnP_own (hO.own.2.keep fun ψ hψ => hK4 ψ fun c => hn3 ψ c hψ)⟩ (fun ψ G hG => ?_) hwf)
    rw [hK4 ψ fun c => by rw [hwf ψ c] at hG; cases hG]
    exact hsub _ _ hG
  | cons p r =>
    have g2 : (pre.length : Int) < (its.length : Int) := by rw [hn]; simp; omega
    have hpk : pre.length < its.length := by omega
    have hpat : its[pre.length] = p := by simp [hit]
    have hpm : p ∈ its := by rw [hit]; simp
    have hpD : Buf τ 4 p.2 (p.1.data.map encDat) := hH.2 p hpm
    have hp1 : p.2.one = true := hpD.av1
    have hpF : ∀ ψ, ψ ∈ famL p.2 → ψ ∈ itsF its := fun ψ hψ => List.mem_flatMap.2 ⟨p, hpm, hψ⟩
    simp only [jn, g2, hlw, RR]
    refine buf_push (row := [iv (W.length : Int)]) hU1 rfl rfl (fun y hy => by rw [List.mem_singleton.1 hy]; rfl) (by omega) (by simp; omega) fun u2 τ2 hU2 hK2 hf2 => ?_
    have hU2 : Buf τ2 1 u2 (ivs (xs ++ [(W.length : Int)])) := by rw [ivs, List.map_append]; exact hU2
    have hsub2 : AH.Sub τ τ2 := hK2.sub hsub huf
    have hWsub : (itsF (W ++ fuseP tab (isT os) pre.length (p :: r))).Sublist (itsF its) := by rw [hfu]; exact fuseP_fam tab _ its.length 0 its (Nat.le_refl _)
    have hWin : ∀ ψ, ψ ∈ itsF W → ψ ∈ itsF its := fun ψ hψ => hWsub.subset (by rw [itsF_append]; exact List.mem_append_left _ hψ)
    have hWnd : (itsF W ++ itsF (fuseP tab (isT os) pre.length (p :: r))).Nodup := by rw [← itsF_append]; exact hitn.sublist hWsub
    have hO2 : NewO σ1 τ2 w W := hO.kp hK2 (fun ψ hψ c => by
      rcases List.mem_append.1 hψ with d | d
      · exact hwu ψ d c
      · exact hitl ψ (hWin ψ d) (huf ψ c)) fun ψ hψ => hbase.none (huf ψ hψ)
    have hu2f : ∀ ψ, ψ ∈ famL u2 → τ ψ = none := fun ψ hψ => by
      rcases hf2 ψ hψ with d | d
      · exact huf ψ d
      · exact hsub.none d
    have hwu2 : ∀ ψ, ψ ∈ famL w → ψ ∉ famL u2 := fun ψ hψ c => by
      rcases hf2 ψ c with d | d
      · exact hwu ψ hψ d
      · exact live_ne (buf_live hO.own.1 hψ) d
    have hbH2 : OpsH τ2 av its := (Kp.of_sub (F := []) hsub2).ops hH fun _ _ c => by cases c
    have hlb2 := buf_len hbH2.1
    rw [show (its.map fun p => encOpA p.1 p.2).length = its.length by simp] at hlb2
    have hpDu : Buf τ2 4 p.2 (p.1.data.map encDat) := hbH2.2 p hpm
    have el2 := el τ2 hsub2
    obtain ⟨φo, sto, hav, hFo⟩ := buf_own hbH2.1 (by intro c; rw [List.map_eq_nil_iff] at c; rw [c] at hpk; cases hpk)
    have ixo := idx_own (st := sto) (off := 0) hFo (show pre.length < (its.map fun p => encOpA p.1 p.2).length by simpa using hpk)
    rw [Nat.zero_add, ← hav] at ixo
    have lo : lodA 7 (.ptr φo sto pre.length 0) τ2 = some (.agg (encIt p)) := lodA_at (cs := encIt p) hFo rfl (by simp [hit]) rfl
    have push : ∀ (p' : OpD × AV) (K : AV → AH → Prop), Buf τ2 4 p'.2 (p'.1.data.map encDat) → (∀ ψ, ψ ∈ famL p'.2 → ψ ∈ famL p.2) → (∀ ψ, ψ ∈ famL p'.2 → ψ ∉ itsF W) → p'.2.one = true →
        (∀ w' τ4, NewO σ1 τ4 w' (W ++ [p']) → Kp (famL w) τ2 τ4 → (∀ ψ, ψ ∈ famL w' → ψ ∈ famL w ∨ τ2 ψ = none) → K w' τ4) → bsl 7 [(.val (.int .i64 0)), (.val (.int .i64 0)), (.val (.int .i64 0)), (.val (.int .i64 0)), (.val (.int .i64 0)), (.val (.string ⟨#[]⟩)), (.val (.slice none 0 0))] 1 [(0, .agg (encIt p'))] τ2 fun x σ => E.app 7 w x σ K := by
      intro p' K f1 f2 f3 f4 f5
      refine hO2.push rfl f1 (fun ψ hψ c => ?_) (fun ψ hψ => hitf ψ (hpF ψ (f2 ψ hψ))) f4 (by omega) f5
      rcases List.mem_append.1 c with c | c
      · exact hitl ψ (hpF ψ (f2 ψ hψ)) (hwf ψ c)
      · exact f3 ψ hψ c
    have next : ∀ (p' : OpD × AV) (pre' rest' : Its) (xs' : List Int) (w' u' : AV) (τ4 : AH), NewO σ1 τ4 w' (W ++ [p']) → its = pre' ++ rest' → rest'.length < n0 → (W ++ [p']) ++ fuseP tab (isT os) pre'.length rest' = fuseP tab (isT os) 0 its →
        xs' ++ plF tab (isT os) (fun m => m) pre'.length ((W.length : Int) + 1) (rest'.map (·.1)) = plF tab (isT os) (fun m => m) 0 0 os → xs'.length = pre'.length → W.length + 1 ≤ pre'.length → Buf τ4 1 u' (ivs xs') → AH.Sub τ τ4 → (∀ ψ, ψ ∈ famL w' → τ ψ = none) → (∀ ψ, ψ ∈ famL u' → τ ψ = none) → (∀ ψ, ψ ∈ famL w' → ψ ∉ famL u') → ∀ {k : Nat}, k = pre'.length →
        R2 (.ptr φ st i 0, iv tab, w', u', iv (k : Int), ()) τ4 := by
      intro p' pre' rest' xs' w' u' τ4 f1 f4 f5 f6 f7 f8 f9 f10 f11 f12 f13 f14 k hk
      subst hk
      exact hR2 _ _ rest'.length τ4 f5 (.refl _) ⟨pre', rest', W ++ [p'], xs', w', u', f4, rfl, rfl, f1, f6, by simpa using f9, by rw [← f7]; simp, f8, f10, f11, f12, f13, f14⟩
    have hpW : (r = [] ∨ isT os (pre.length + 1) = true ∨ ∃ q r', r = q :: r' ∧ twoD tab p.1 q.1 = none) → ∀ ψ, ψ ∈ famL p.2 → ψ ∉ itsF W := fun hne ψ hψ c => by
      rw [fuseP_ne hne, itsF_cons] at hWnd
      exact (nodup_app.1 hWnd).2.2 ψ c (List.mem_append_left _ hψ)
    have hneD : (r = [] ∨ isT os (pre.length + 1) = true ∨ ∃ q r', r = q :: r' ∧ twoD tab p.1 q.1 = none) → (r.map (·.1) = [] ∨ isT os (pre.length + 1) = true ∨ ∃ q r', r.map (·.1) = q :: r' ∧ twoD tab p.1 q = none) := by
      rintro (h | h | ⟨q, r', rfl, h⟩)
      · exact .inl (by rw [h]; rfl)
      · exact .inr (.inl h)
      · exact .inr (.inr ⟨q.1, r'.map (·.1), rfl, h⟩)
    have up1 := ibin_up hpk (show its.length ≤ 9223372036854775807 by omega)
    -- one operation as it is
    have plain : (r = [] ∨ isT os (pre.length + 1) = true ∨ ∃ q r', r = q :: r' ∧ twoD tab p.1 q.1 = none) →
        bsl 7 [(.val (.int .i64 0)), (.val (.int .i64 0)), (.val (.int .i64 0)), (.val (.int .i64 0)), (.val (.int .i64 0)), (.val (.string ⟨#[]⟩)), (.val (.slice none 0 0))] 1 [(0, .agg (encIt p))] τ2 fun x σ => E.app 7 w x σ fun v81 σ => R2 (.ptr φ st i 0, iv tab, v81, u2, iv ((pre.length + 1 : Nat) : Int), ()) σ := fun hne => by
      refine push p _ hpDu (fun ψ hψ => hψ) (hpW hne) hp1 fun w' τ4 a1 a2 a3 => ?_
      refine next p (pre ++ [p]) r (xs ++ [(W.length : Int)]) w' u2 τ4 a1 (by simp [hit]) (by rw [← hrl]; simp) (by rw [← hfu, fuseP_ne hne]; simp) (by rw [← hpl, List.map_cons, plF_ne (hneD hne)]; simp) (by simp [hxl]) (by simp; omega) (a2.buf hU2 fun ψ h c => hwu2 ψ c h) (a2.sub hsub2 hwf) (fun ψ hψ => ?_) hu2f (fun ψ hψ c => ?_) (by simp)
      · rcases a3 ψ hψ with d | d
        · exact hwf ψ d
        · exact hsub2.none d
      · rcases a3 ψ hψ with d | d
        · exact hwu2 ψ d c
        · exact live_ne (buf_live hU2 c) d
    cases r with
    | nil =>
      have g3 : ¬ ((pre.length + 1 : Nat) : Int) < (its.length : Int) := by rw [hn]; simp
      simp only [up1, el2, hlb2, g3, ixo, lo, RR]
      exact plain (.inl rfl)
    | cons q r' =>
      have hpk1 : pre.length + 1 < its.length := by rw [hn]; simp
      have g3 : ((pre.length + 1 : Nat) : Int) < (its.length : Int) := by omega
      simp only [up1, el2, hlb2, g3, RR]
      refine lend_isTarget (hsub2 _ _ hF) hst hsz hr hbH2 (by omega) ?_
      rw [hbo]
      cases hT : isT os (pre.length + 1)
      case true =>
        simp only [el2, ixo, lo, RR]
        exact plain (.inr (.inl hT))
      case false =>
        have ixo1 := idx_own (st := sto) (off := 0) hFo (show pre.length + 1 < (its.map fun p => encOpA p.1 p.2).length by simpa using hpk1)
        rw [Nat.zero_add, ← hav] at ixo1
        simp only [el2, up1, ixo, ixo1, RR]
        refine c_spec_l11Two (p := p) (q := q) h0 h1 hFo rfl (by simp [hit]) (by simp [hit]) hpDu fun row ok hTw => ?_
        simp only [true_and, aext0, aext1, RR]
        refine new_frz rfl hTw.len rfl hTw.one ?_
        cases hD : twoD tab p.1 q.1 with
        | none =>
          rw [hTw.no hD]
          simp only [el2, ixo, lo, RR]
          exact plain (.inr (.inr ⟨q, r', rfl, hD⟩))
        | some o =>
          obtain ⟨t1, t2⟩ := hTw.yes o hD
          subst t1 t2
          have hA1 : (twoA p).one = true := twoA_one hp1
          have e7 : ∀ τ, lodA 7 (.rop (encIt (o, twoA p)) 0) τ = some (.agg (encIt (o, twoA p))) := fun _ => rfl
          simp only [e7, RR]
          have hfe := fuseP_eq (r := r') hT hD
          refine push (o, twoA p) _ (twoA_own hD hpDu) (fun ψ hψ => (twoA_fam p).subset hψ) (fun ψ hψ c => ?_) hA1 fun w' τ3 a1 a2 a3 => ?_
          · rw [hfe, itsF_cons] at hWnd
            exact (nodup_app.1 hWnd).2.2 ψ c (List.mem_append_left _ hψ)
          have hlw3 := buf_len a1.own.1
          rw [List.length_map, List.length_append] at hlw3
          have e1 : ibin .sub (iv ((W.length + [(o, twoA p)].length : Nat) : Int)) (.val (.int .i64 1)) = some (iv (W.length : Int)) := by
            rw [ibin_sub (by simp) (by simp; omega)]; simp
          have up2 := ibin_up hpk1 (show its.length ≤ 9223372036854775807 by omega)
          simp only [hlw3, e1, RR]
          have hU3 : Buf τ3 1 u2 (ivs (xs ++ [(W.length : Int)])) := a2.buf hU2 fun ψ h c => hwu2 ψ c h
          have hsub3 : AH.Sub τ τ3 := a2.sub hsub2 hwf
          have hwf3 : ∀ ψ, ψ ∈ famL w' → τ ψ = none := fun ψ hψ => by
            rcases a3 ψ hψ with d | d
            · exact hwf ψ d
            · exact hsub2.none d
          have hwu3 : ∀ ψ, ψ ∈ famL w' → ψ ∉ famL u2 := fun ψ hψ c => by
            rcases a3 ψ hψ with d | d
            · exact hwu2 ψ d c
            · exact live_ne (buf_live hU2 c) d
          refine buf_push (row := [iv (W.length : Int)]) hU3 rfl rfl (fun y hy => by rw [List.mem_singleton.1 hy]; rfl) (by omega) (by simp; omega) fun u4 τ4 hU4 hK4 hf4 => ?_
          have hU4 : Buf τ4 1 u4 (ivs (xs ++ [(W.length : Int), (W.length : Int)])) := by
            have e : ivs (xs ++ [(W.length : Int), (W.length : Int)]) = ivs (xs ++ [(W.length : Int)]) ++ [[iv (W.length : Int)]] := by simp [ivs]
            rw [e]; exact hU4
          simp only [up1, up2, RR]
          refine next (o, twoA p) (pre ++ [p, q]) r' (xs ++ [(W.length : Int), (W.length : Int)]) w' u4 τ4 (a1.kp hK4 (fun ψ hψ c => ?_) fun ψ hψ => hbase.none (hu2f ψ hψ)) (by simp [hit]) (by rw [← hrl]; simp; omega) (by rw [← hfu, hfe]; simp) ?_ (by simp [hxl]) (by simp; omega) hU4 (hK4.sub hsub3 hu2f) hwf3 (fun ψ hψ => ?_) (fun ψ hψ c => ?_) (by simp)
          · rcases List.mem_append.1 hψ with d | d
            · exact hwu3 ψ d c
            · have hm : ψ ∈ itsF its := by
                rw [itsF_append] at d
                rcases List.mem_append.1 d with d | d
                · exact hWin ψ d
                · exact hpF ψ ((twoA_fam p).subset (by simpa [itsF] using d))
              exact hitl ψ hm (hu2f ψ c)
          · rw [← hpl, List.map_cons, List.map_cons, plF_eq hT hD]
            simp
          · rcases hf4 ψ hψ with d | d
            · exact hu2f ψ d
            · exact hsub3.none d
          · rcases hf4 ψ c with d | d
            · exact hwu3 ψ hψ d
            · exact live_ne (buf_live a1.own.1 hψ) d
end Go.Proofs.YtlggnigbemghgaaGreatDoor.E
/- FuseCode. -/
set_option linter.unusedSectionVars false
set_option linter.unusedSimpArgs false
set_option linter.unusedVariables false
namespace Go.Proofs.YtlggnigbemghgaaGreatDoor.E
open Go Go.RowKit
set_option maxRecDepth 100000
variable [L : Lam]
variable {σ τ τ' : AH} {R : AEnd → AH → Prop}
theorem newB_nil' : NewB σ σ nilS [] := ⟨⟨nil_buf, fun p hp => by cases hp⟩, .nil, (fun ψ c => by cases c), .refl σ⟩
theorem NewB.fz' {v : AV} {B : List BI} (h : NewB σ τ v B) : Fz σ τ v (roBk (cont B)) := fz_blks h.own h.fr
theorem ret_frz' {v v' : AV} (hs : AH.Sub σ τ) (hf : Fz σ τ v v') (h : R (.ret v') σ) : aret v τ R := ⟨v', σ, imp_freeze hs hf, h⟩
set_option maxHeartbeats 2000000 in
theorem c_spec_l11FuseAll {bs : List Blk} {tab : Int} (hb : bC 1048576 bs) (h0 : 0 ≤ tab) (h1 : tab ≤ 15) (hc : codeF bs = 0) (h : ∀ v B τ, cont B = bs.map (fusB tab) → NewB σ τ v B → R (.ret v) τ) : acall TP fn_spec_l11FuseAll [roBk bs, iv tab] σ R := by
  obtain ⟨hp, hht, _⟩ := codeF_pre hc
  have hl := hp.len
  refine s_spec_l11FuseAll_ok ?_
  unfold s_spec_l11FuseAll
  refine c_spec_l9Copy hb.1 (fun b hm => ⟨(hb.2 b hm).1, fun o ho => ((hb.2 b hm).2 o ho).2.1⟩) fun v B0 τ0 hc0 hN0 => ?_
  simp only [RR]
  refine lp_rel bs.length (fun i x τ => ∃ B, x = (iv tab, v, iv (i : Int), ()) ∧ cont B = (bs.take i).map (fusB tab) ++ bs.drop i ∧ NewB σ τ v B) ⟨B0, rfl, by simpa using hc0, hN0⟩ ?_
  rintro i _ τ hi ⟨B, rfl, hcB, hN⟩ R' hR'
  have hlv := buf_len hN.own.1
  have hBl : (B.map fun b => [iv b.args, b.av]).length = bs.length := by have := congrArg List.length hcB; simp [cont] at this; simp [this]; omega
  rw [hBl] at hlv
  simp only [hlv, RR]
  by_cases hlt : i < bs.length
  case neg =>
    have g : ¬ (i : Int) < (bs.length : Int) := by omega
    obtain rfl : i = bs.length := by omega
    rw [List.take_length, List.drop_length, List.append_nil] at hcB
    simp only [g, RR]
    exact ret_here (h v B τ hcB hN)
  have g : (i : Int) < (bs.length : Int) := by omega
  obtain ⟨hsmb, hol⟩ := hp.sm _ (List.getElem_mem hlt)
  obtain ⟨out, hout⟩ : ∃ out, hts bs[i].ops = some out := by
    cases e : hts bs[i].ops with
    | none => exact absurd e (hht _ (List.getElem_mem hlt))
    | some o => exact ⟨o, rfl⟩
  have hok := hts_some hout
  rw [List.drop_eq_getElem_cons hlt] at hcB
  obtain ⟨BA, b, BC, rfl, hcA, hcb, hcC, hAl⟩ := cont_split hcB
  have hAl : BA.length = i := by rw [hAl]; simp; omega
  have hba : b.args = bs[i].args := congrArg Blk.args hcb
  have hbo : b.its.map (·.1) = bs[i].ops := congrArg Blk.ops hcb
  have hbH : OpsH τ b.av b.its := hN.own.2 b (by simp)
  obtain ⟨φ, st, rfl, hF⟩ := buf_own hN.own.1 (by simp)
  have ix := idx_own (st := st) (off := 0) hF (show i < ((BA ++ b :: BC).map fun b => [iv b.args, b.av]).length by simp; omega)
  rw [Nat.zero_add] at ix
  have hrow : ((BA ++ b :: BC).map fun b => [iv b.args, b.av])[i]? = some [iv b.args, b.av] := by subst hAl; simp
  simp only [g, ix, RR]
  have hitf : ∀ ψ, ψ ∈ itsF b.its → σ ψ = none := fun ψ hψ => hN.fr ψ (by
    refine List.mem_append_right _ (List.mem_flatMap.2 ⟨b, by simp, List.mem_append_right _ hψ⟩))
  have hitn : (itsF b.its).Nodup := by
    have := hN.nd
    have e : blksF (.own φ st 0 ((BA ++ b :: BC).map fun b => [iv b.args, b.av]).length) (BA ++ b :: BC) = famL (.own φ st 0 ((BA ++ b :: BC).map fun b => [iv b.args, b.av]).length) ++ (bsF BA ++ ((famL b.av ++ itsF b.its) ++ bsF BC)) := by
      have : bsF (BA ++ b :: BC) = bsF BA ++ ((famL b.av ++ itsF b.its) ++ bsF BC) := by rw [bsF_app, bsF_cons]; rfl
      rw [← this]; rfl
    rw [e] at this
    exact (nodup_app.1 (nodup_app.1 (nodup_app.1 (nodup_app.1 this).2.1).2.1).1).2.1
  refine c_spec_l11Fuse h0 h1 hF rfl rfl hrow hbH hbo hol hsmb hok.tgt hN.sub hitf hitn fun w τ4 hO4 hs4 hwf => ?_
  have hWs : (((fuseP tab (isT bs[i].ops) 0 b.its).map (turnP (plF tab (isT bs[i].ops) (fun m => m) 0 0 bs[i].ops))).map (·.1)) = fusO tab bs[i].ops := by
    rw [turnP_fst, fuseP_fst tab _ b.its.length 0 b.its (Nat.le_refl _), hbo]; rfl
  simp only [RR]
  obtain ⟨φ', st', hv, _, _, ix', hst⟩ := NewB.repl (τ := τ4) (w := w) (W := (fuseP tab (isT bs[i].ops) 0 b.its).map (turnP (plF tab (isT bs[i].ops) (fun m => m) 0 0 bs[i].ops))) hN hO4 (by rw [turnP_fam]; exact fuseP_fam tab _ b.its.length 0 b.its (Nat.le_refl _)) hwf (fun ψ h1 h2 => by
    cases e : τ ψ with
    | none => exact absurd e h2
    | some F => exact hs4 _ _ e) hO4.av1
  rw [hAl] at ix' hst
  simp only [ix', RR]
  refine hst _ fun τ5 hN5 => ?_
  simp only [ibin_up hlt (by omega), RR]
  refine hR' _ _ _ hlt (.refl _) ⟨_, rfl, ?_, hN5⟩
  have : cont (BA ++ ⟨b.args, w, (fuseP tab (isT bs[i].ops) 0 b.its).map (turnP (plF tab (isT bs[i].ops) (fun m => m) 0 0 bs[i].ops))⟩ :: BC) = cont BA ++ ⟨b.args, ((fuseP tab (isT bs[i].ops) 0 b.its).map (turnP (plF tab (isT bs[i].ops) (fun m => m) 0 0 bs[i].ops))).map (·.1)⟩ :: cont BC := by simp [cont]
  rw [this, hcA, hcC, hWs, hba, List.take_succ_eq_append_getElem hlt, List.map_append, List.append_assoc]
  try rfl
/-! ### FuseCode -/
noncomputable def fcC (bs : List Blk) (tab : Int) : Int := if codeF bs ≠ 0 then codeF bs else if inB 0 15 tab = true then 0 else 3
noncomputable def fcBs (bs : List Blk) (tab : Int) : List Blk := if fcC bs tab = 0 then bs.map (fusB tab) else []
theorem c_impl_TableFault {t : Int} (h : R (.ret (iv (if inB 0 15 t = true then 0 else 3))) σ) : acall TP fn_impl_TableFault [iv t] σ R := by
  refine s_impl_TableFault_ok ?_
  unfold s_impl_TableFault
  refine c_impl_in ?_
  cases hB : inB 0 15 t <;> rw [hB] at h
  · simp only [RR]; exact ret_here h
  · simp only [RR]; exact ret_here h
theorem c_spec_l11Table {t : Int} (h : R (.ret (bv (inB 0 15 t))) σ) : acall TP fn_spec_l11Table [iv t] σ R := by
  refine s_spec_l11Table_ok ?_
  unfold s_spec_l11Table
  refine c_spec_l1In ?_
  simp only [RR]
  exact ret_here h
set_option maxHeartbeats 1000000 in
theorem c_impl_FuseCode {bs : List Blk} {tab : Int} (hb : bC 1048576 bs) (h : ∀ v B τ, cont B = fcBs bs tab → NewB σ τ v B → R (.ret (.agg [iv (fcC bs tab), v])) τ) : acall TP fn_impl_FuseCode [roBk bs, iv tab] σ R := by
  refine s_impl_FuseCode_ok ?_
  unfold s_impl_FuseCode
  intro φ2 hφ2
  have hs1 : AH.Sub σ (σ.set φ2 ⟨0, [(AV.val (.int .i64 0)), (AV.val (.slice none 0 0))].length, [[(AV.val (.int .i64 0)), (AV.val (.slice none 0 0))]]⟩) := .set (.refl σ) _ hφ2
  have hF2 := AH.set_same σ φ2 (⟨0, 2, [[(AV.val (.int .i64 0)), (AV.val (.slice none 0 0))]]⟩ : Fam)
  refine c_impl_CodeFault ?_
  by_cases c : codeF bs = 0
  case neg =>
    have e1 : fcC bs tab = codeF bs := by unfold fcC; rw [if_pos c]
    have := h nilS [] σ (by unfold fcBs; rw [e1, if_neg c]; rfl) newB_nil'
    rw [e1] at this
    simp only [c, bld_c, RR]
    refine fin_cr hF2 rfl rfl (one2 rfl rfl) (aret_sub ?_ this)
    rw [AH.set_set]
    exact .set (.refl σ) _ hφ2
  simp only [c, RR]
  refine c_impl_TableFault ?_
  cases hB : inB 0 15 tab
  · have e1 : fcC bs tab = 3 := by unfold fcC; rw [if_neg (by rw [c]; simp), hB]; rfl
    have := h nilS [] σ (by unfold fcBs; rw [e1, if_neg (by simp)]; rfl) newB_nil'
    rw [e1] at this
    have e3 : (if false = true then (0 : Int) else 3) = 3 := rfl
    have b3 : bld [(.val (.int .i64 0)), (.val (.slice none 0 0))] [(0, 1), (1, 1)] [(0, iv 3)] = some (.agg [iv 3, nilS]) := rfl
    simp only [e3, b3, Int.reduceEq, RR]
    refine fin_cr hF2 rfl rfl (one2 rfl rfl) (aret_sub ?_ this)
    rw [AH.set_set]
    exact .set (.refl σ) _ hφ2
  have e1 : fcC bs tab = 0 := by unfold fcC; rw [if_neg (by rw [c]; simp), hB]; rfl
  have e3 : (if true = true then (0 : Int) else 3) = 0 := rfl
  obtain ⟨t0, t1⟩ := inB_iff.1 hB
  simp only [e3, RR]
  generalize hσ1 : σ.set φ2 ⟨0, [(AV.val (.int .i64 0)), (AV.val (.slice none 0 0))].length, [[(AV.val (.int .i64 0)), (AV.val (.slice none 0 0))]]⟩ = σ1 at *
  have hF1 : σ1 φ2 = some ⟨0, 2, [[(AV.val (.int .i64 0)), (AV.val (.slice none 0 0))]]⟩ := by rw [← hσ1]; exact AH.set_same ..
  refine c_impl_fused hb t0 t1 c fun v B τ hcB hN => ?_
  have eb := bld_b hN.own.1
  simp only [eb, RR]
  have hφB : φ2 ∉ blksF v B := fun c => by have := hN.fr φ2 c; rw [hF1] at this; cases this
  have := h v B (τ.set φ2 ⟨0, 2, [[iv 0, v]]⟩) (by unfold fcBs; rw [if_pos e1]; exact hcB) ⟨hN.own.keep fun ψ hψ => AH.set_ne' (by rintro rfl; exact hφB hψ), hN.nd, fun ψ hψ => hs1.none (hN.fr ψ hψ), fun ψ F hF => by
    have hne : ψ ≠ φ2 := by rintro rfl; rw [hφ2] at hF; cases hF
    rw [AH.set_ne' hne]
    exact hN.sub _ _ (hs1 _ _ hF)⟩
  rw [e1] at this
  exact fin_cr (hN.sub _ _ hF1) rfl rfl (one2 rfl hN.one) (ret_here this)
set_option maxHeartbeats 1000000 in
theorem c_spec_FuseCode {bs : List Blk} {tab : Int} (hb : bC 1048576 bs) (h : R (.ret (.agg [iv (fcC bs tab), roBk (fcBs bs tab)])) σ) : acall TP fn_spec_FuseCode [roBk bs, iv tab] σ R := by
  refine s_spec_FuseCode_ok ?_
  unfold s_spec_FuseCode
  intro φ2 hφ2
  have hs1 : AH.Sub σ (σ.set φ2 ⟨0, [(AV.val (.int .i64 0)), (AV.val (.slice none 0 0))].length, [[(AV.val (.int .i64 0)), (AV.val (.slice none 0 0))]]⟩) := .set (.refl σ) _ hφ2
  have hF2 := AH.set_same σ φ2 (⟨0, 2, [[(AV.val (.int .i64 0)), (AV.val (.slice none 0 0))]]⟩ : Fam)
  refine c_spec_l10Fault (bC_sC hb) (fun hc => ?_) (fun c up hp' hall hu => ?_)
  · have e1 : fcC bs tab = codeF bs := by unfold fcC; rw [if_pos hc]
    have eB : fcBs bs tab = [] := by unfold fcBs; rw [if_neg (by rw [e1]; exact hc)]
    rw [e1, eB] at h
    simp only [aext0, aext1, hc, bld_c, RR]
    refine fin_cr hF2 rfl rfl (one2 rfl rfl) (ret_frz' ?_ (Fz.agg2 (.same _) .nil) h)
    rw [AH.set_set]
    exact .set (.refl σ) _ hφ2
  simp only [aext0, aext1, RR]
  refine c_spec_l11Table ?_
  cases hB : inB 0 15 tab
  · have e1 : fcC bs tab = 3 := by unfold fcC; rw [if_neg (by rw [c]; simp), hB]; rfl
    have eB : fcBs bs tab = [] := by unfold fcBs; rw [if_neg (by rw [e1]; simp)]
    rw [e1, eB] at h
    have b3 : bld [(.val (.int .i64 0)), (.val (.slice none 0 0))] [(0, 1), (1, 1)] [(0, (.val (.int .i64 3)))] = some (.agg [iv 3, nilS]) := rfl
    simp only [b3, RR]
    refine fin_cr hF2 rfl rfl (one2 rfl rfl) (ret_frz' ?_ (Fz.agg2 (.same _) .nil) h)
    rw [AH.set_set]
    exact .set (.refl σ) _ hφ2
  have e1 : fcC bs tab = 0 := by unfold fcC; rw [if_neg (by rw [c]; simp), hB]; rfl
  have eB : fcBs bs tab = bs.map (fusB tab) := by unfold fcBs; rw [if_pos e1]
  obtain ⟨t0, t1⟩ := inB_iff.1 hB
  simp only [RR]
  generalize hσ1 : σ.set φ2 ⟨0, [(AV.val (.int .i64 0)), (AV.val (.slice none 0 0))].length, [[(AV.val (.int .i64 0)), (AV.val (.slice none 0 0))]]⟩ = σ1 at *
  have hF1 : σ1 φ2 = some ⟨0, 2, [[(AV.val (.int .i64 0)), (AV.val (.slice none 0 0))]]⟩ := by rw [← hσ1]; exact AH.set_same ..
  refine c_spec_l11FuseAll hb t0 t1 c fun v B τ hcB hN => ?_
  have eb := bld_b hN.own.1
  simp only [eb, RR]
  rw [e1, eB, ← hcB] at h
  have hφB : φ2 ∉ blksF v B := fun c => by have := hN.fr φ2 c; rw [hF1] at this; cases this
  have hs9 : AH.Sub σ (τ.set φ2 ⟨0, 2, [[iv 0, v]]⟩) := fun ψ F hF => by
    have hne : ψ ≠ φ2 := by rintro rfl; rw [hφ2] at hF; cases hF
    rw [AH.set_ne' hne]
    exact hN.sub _ _ (hs1 _ _ hF)
  have hN9 : NewB σ (τ.set φ2 ⟨0, 2, [[iv 0, v]]⟩) v B := ⟨hN.own.keep fun ψ hψ => AH.set_ne' (by rintro rfl; exact hφB hψ), hN.nd, fun ψ hψ => hs1.none (hN.fr ψ hψ), hs9⟩
  exact fin_cr (hN.sub _ _ hF1) rfl rfl (one2 rfl hN.one) (ret_frz' hs9 (Fz.agg2 (.same _) hN9.fz') h)
end Go.Proofs.YtlggnigbemghgaaGreatDoor.E
