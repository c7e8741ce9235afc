/- Data: their faults. -/
import Derived.Test.YtmmhaiidcfgbbaaGreatDoorP3
set_option linter.unusedSectionVars false
set_option linter.unusedSimpArgs false
set_option linter.unusedVariables false
namespace Go.Proofs.YtmmhaiidcfgbbaaGreatDoor.E
open Go Go.RowKit
variable [L : Lam]
variable {σ : AH} {R : AEnd → AH → Prop}
/-! ### chains of parents -/
def upW (p : Int → Int) (at_ to : Int) : Bool := if at_ < 0 then false else if at_ = to then true else if p at_ < at_ then upW p (p at_) to else false
termination_by (at_ + 1).toNat
decreasing_by omega
def deepW (p : Int → Int) (at_ : Int) : Nat := if at_ < 0 then 0 else if p at_ < at_ then deepW p (p at_) + 1 else 0
termination_by (at_ + 1).toNat
decreasing_by omega
theorem deepW_le (p : Int → Int) (n : Nat) : ∀ at_ : Int, (at_ + 1).toNat ≤ n → deepW p at_ ≤ n := by
  induction n with
  | zero => intro a h; rw [deepW]; split <;> omega
  | succ n ih =>
    intro a h
    rw [deepW]
    split
    · omega
    · split
      · have := ih (p a) (by omega); omega
      · omega
theorem c_impl_isUp {f : AV} {p : Int → Int} {n from_ to : Int} (hf : ∀ (a : Int) (R : AEnd → AH → Prop), 0 ≤ a → a < n → R (.ret (iv (p a))) σ → acallv TP f [iv a] σ R) (hp : ∀ a, 0 ≤ a → a < n → p a < a) (hn : from_ < n)
    (h : R (.ret (bv (upW p from_ to))) σ) : acall TP fn_impl_isUp [f, iv from_, iv to] σ R := by
  refine s_impl_isUp_ok ?_
  unfold s_impl_isUp
  refine lp_by (fun k x σ' => ∃ a : Int, x = (f, iv to, iv a, ()) ∧ σ' = σ ∧ (a + 1).toNat = k ∧ a < n ∧ upW p a to = upW p from_ to) (from_ + 1).toNat ⟨from_, rfl, rfl, rfl, hn, rfl⟩ ?_
  rintro k x σ' ⟨a, rfl, rfl, hk, ha, e⟩ R' hR'
  rw [upW] at e
  by_cases c0 : 0 ≤ a
  · rw [if_neg (by omega)] at e
    by_cases c1 : a = to
    · rw [if_pos c1] at e
      rw [← e] at h
      simp only [c0, c1, RR]
      have c0' : 0 ≤ to := by omega
      simp only [c0', RR]
      exact ret_here h
    · rw [if_neg c1, if_pos (hp a c0 ha)] at e
      simp only [c0, c1, RR]
      refine hf a _ c0 ha ?_
      simp only [RR]
      have := hp a c0 ha
      exact hR' _ _ ((p a) + 1).toNat σ' (by omega) (.refl _) ⟨p a, rfl, rfl, rfl, by omega, e⟩
  · rw [if_pos (by omega)] at e
    rw [← e] at h
    simp only [c0, RR]
    exact ret_here h
/-! ### data -/
def dat (ds : List Dat) (i : Nat) : Dat := ds.getD i default
def par (ds : List Dat) (a : Int) : Int := (dat ds a.toNat).parent
theorem dat_at {ds : List Dat} {i : Nat} (h : i < ds.length) : ds[i] = dat ds i := by simp [dat, List.getD, h]
theorem dat_mem {ds : List Dat} {i : Nat} (h : i < ds.length) : dat ds i ∈ ds := by rw [← dat_at h]; exact List.getElem_mem h
def bareB (x : Dat) : Bool := inB 1 4 x.kind && (decide (x.kind = 1) || decide (x.kind = 2) || decide (x.num = 0)) && (decide (x.kind = 3) || decide (x.name = (⟨#[]⟩ : ByteArray)))
def datF (ds : List Dat) (i : Nat) : Int :=
  if bareB (dat ds i) = false then 1
  else if kindF (dat ds i).kind (dat ds i).num (dat ds i).name ≠ 0 then kindF (dat ds i).kind (dat ds i).num (dat ds i).name
  else if i = 0 then (if (dat ds i).parent ≠ -1 then 3 else 0)
  else if inB 0 ((i : Int) - 1) (dat ds i).parent = false then 3
  else if (dat ds (dat ds i).parent.toNat).kind ≠ 4 ∨ upW (par ds) ((i : Int) - 1) (dat ds i).parent = false then 1
  else if 12 < deepW (par ds) i then 2 else 0
/-- The first of some faults. -/
def firstF (f : Nat → Int) : Nat → Nat → Int
  | _, 0 => 0
  | i, n + 1 => if f i ≠ 0 then f i else firstF f (i + 1) n
theorem firstF_all {f : Nat → Int} : ∀ (n i : Nat), (∀ j, i ≤ j → j < i + n → f j = 0) → firstF f i n = 0 := by
  intro n
  induction n with
  | zero => intro i _; rfl
  | succ n ih =>
    intro i h
    simp only [firstF]
    rw [if_neg (by rw [h i (Nat.le_refl _) (by omega)]; simp)]
    exact ih _ fun j h1 h2 => h j (by omega) (by omega)
theorem firstF_at {f : Nat → Int} {k : Nat} (hk : f k ≠ 0) : ∀ (n i : Nat), i ≤ k → k < i + n → (∀ j, i ≤ j → j < k → f j = 0) → firstF f i n = f k := by
  intro n
  induction n with
  | zero => intro i h1 h2; omega
  | succ n ih =>
    intro i h1 h2 h
    simp only [firstF]
    by_cases e : i = k
    · subst e; rw [if_pos hk]
    · rw [if_neg (by rw [h i (Nat.le_refl _) (by omega)]; simp)]
      exact ih _ (by omega) (by omega) fun j h1 h2 => h j (by omega) h2
theorem firstF_zero {f : Nat → Int} : ∀ (n i : Nat), firstF f i n = 0 → ∀ j, i ≤ j → j < i + n → f j = 0 := by
  intro n
  induction n with
  | zero => intro i _ j h1 h2; omega
  | succ n ih =>
    intro i h j h1 h2
    simp only [firstF] at h
    split at h
    · rename_i hc; exact absurd h hc
    · rename_i hc
      by_cases e : j = i
      · subst e; simpa using hc
      · exact ih _ h j (by omega) (by omega)
def dataF (ds : List Dat) : Int := if inB 1 80 (ds.length : Int) then firstF (datF ds) 0 ds.length else 2
/-- The parents of the first data are as they have to be. -/
def Pars (ds : List Dat) (i : Nat) : Prop := ∀ a : Int, 0 ≤ a → a < i → par ds a < a ∧ -1 ≤ par ds a
theorem datF_par {ds : List Dat} {i : Nat} (h : datF ds i = 0) : par ds (i : Int) < i ∧ -1 ≤ par ds (i : Int) := by
  unfold datF at h
  have e : ((i : Int)).toNat = i := by omega
  unfold par
  rw [e]
  split at h
  · cases h
  split at h
  · rename_i hk; exact absurd h hk
  split at h
  · rename_i h0
    split at h
    · cases h
    · rename_i h1; omega
  · rename_i h0
    split at h
    · cases h
    · rename_i h1
      have : inB 0 ((i : Int) - 1) (dat ds i).parent = true := by simpa using h1
      have := inB_iff.1 this
      omega
theorem pars_of {ds : List Dat} {i : Nat} (h : ∀ j, j < i → datF ds j = 0) : Pars ds i := by
  intro a h0 h1
  have := datF_par (h a.toNat (by omega))
  rw [show ((a.toNat : Nat) : Int) = a by omega] at this
  exact this
def sD (ds : List Dat) : Prop := ∀ d, d ∈ ds → d.name.size ≤ 1099511627776
theorem c_impl_datumFault_1 {ds : List Dat} {a : Int} (h0 : 0 ≤ a) (h1 : a < ds.length) (h : R (.ret (iv (par ds a))) σ) : acall TP fn_impl_datumFault_1 [iv a, .rop [roD ds] 0] σ R := by
  refine s_impl_datumFault_1_ok ?_
  unfold s_impl_datumFault_1
  have hi : a.toNat < ds.length := by omega
  simp only [lod_one, idx_roI h0 hi len_encDat, RR, RT]
  rw [dat_at hi]
  exact ret_here h
theorem c_impl_deep {ds : List Dat} {i : Nat} (hi : i < ds.length) (hl : ds.length ≤ 1000) (hP : Pars ds (i + 1)) (h : R (.ret (iv (deepW (par ds) i : Nat))) σ) : acall TP fn_impl_deep [roD ds, iv (i : Int)] σ R := by
  refine s_impl_deep_ok ?_
  unfold s_impl_deep
  refine lp_by (fun k x σ' => ∃ (a : Int) (c : Nat), x = (roD ds, iv a, iv (c : Nat), ()) ∧ σ' = σ ∧ (a + 1).toNat = k ∧ a ≤ i ∧ c + deepW (par ds) a = deepW (par ds) i) ((i : Int) + 1).toNat ⟨i, 0, rfl, rfl, rfl, by omega, by omega⟩ ?_
  rintro k x σ' ⟨a, c, rfl, rfl, hk, ha, e⟩ R' hR'
  rw [deepW] at e
  have hd := deepW_le (par ds) (i + 1) i (by omega)
  by_cases c0 : 0 ≤ a
  · have hp := hP a c0 (by omega)
    rw [if_neg (by omega), if_pos hp.1] at e
    have hi' : a.toNat < ds.length := by omega
    have e1 : ibin .add (iv (c : Nat)) (.val (.int .i64 1)) = some (iv ((c + 1 : Nat) : Int)) := by rw [ibin_add (by omega) (by omega)]; rfl
    simp only [c0, e1, idx_roI c0 hi' len_encDat, RR, RT]
    rw [dat_at hi']
    exact hR' _ _ (par ds a + 1).toNat σ' (by omega) (.refl _) ⟨par ds a, c + 1, rfl, rfl, rfl, by omega, by omega⟩
  · rw [if_pos (by omega)] at e
    simp only [c0, RR]
    rw [Nat.add_zero] at e
    rw [e]
    exact ret_here h
theorem bare_not (x : Dat) : (!inB 1 4 x.kind || !decide (x.num = 0) && !decide (x.kind = 1) && !decide (x.kind = 2) || !decide (x.name = { data := #[] }) && !decide (x.kind = 3)) = !bareB x := by
  unfold bareB
  generalize inB 1 4 x.kind = a
  generalize decide (x.num = 0) = b
  generalize decide (x.kind = 1) = c
  generalize decide (x.kind = 2) = d
  generalize decide (x.kind = 3) = e
  generalize decide (x.name = { data := #[] }) = f
  cases a <;> cases b <;> cases c <;> cases d <;> cases e <;> cases f <;> rfl
theorem c_impl_datumFault {ds : List Dat} {i : Nat} (hi : i < ds.length) (hl : ds.length ≤ 80) (hP : Pars ds i) (h : R (.ret (iv (datF ds i))) σ) : acall TP fn_impl_datumFault [roD ds, iv (i : Int)] σ R := by
  refine s_impl_datumFault_ok ?_
  unfold s_impl_datumFault
  refine box_frz rfl ?_
  simp only [lod_one, idx_ro hi len_encDat, RR, RT]
  refine new_encDat rfl ?_
  rw [dat_at hi]
  simp only [RR, RT]
  refine c_impl_in ?_
  simp only [RR, RT, RG, sbin_neq']
  unfold datF at h
  refine apick_cases (fun c1 => ?_) (fun c1 => ?_)
  · rw [bare_not] at c1
    rw [if_pos (by simpa using c1)] at h
    exact ret_here h
  rw [bare_not] at c1
  have c1 : bareB (dat ds i) = true := by simpa using c1
  rw [if_neg (by rw [c1]; simp)] at h
  refine c_impl_kindFault ?_
  simp only [RR]
  by_cases c2 : kindF (dat ds i).kind (dat ds i).num (dat ds i).name = 0
  case neg =>
    rw [if_pos c2] at h
    simp only [c2, RR]
    exact ret_here h
  rw [if_neg (by simpa using c2)] at h
  simp only [c2, RR]
  by_cases c3 : i = 0
  · have g : ((i : Int) = 0) := by omega
    rw [if_pos c3] at h
    simp only [g, RR]
    by_cases c4 : (dat ds i).parent = -1
    · rw [if_neg (by simpa using c4)] at h
      simp only [c4, RR]; exact ret_here h
    · rw [if_pos c4] at h
      simp only [c4, RR]; exact ret_here h
  have g : ¬ ((i : Int) = 0) := by omega
  rw [if_neg c3] at h
  have hs : ibin .sub (iv (i : Int)) (.val (.int .i64 1)) = some (iv ((i : Int) - 1)) := ibin_sub (by omega) (by omega)
  simp only [g, hs, RR]
  refine c_impl_in ?_
  simp only [RR]
  refine apick_cases (fun c4 => ?_) (fun c4 => ?_)
  · rw [if_pos (by simpa using c4)] at h
    exact ret_here h
  have c4 : inB 0 ((i : Int) - 1) (dat ds i).parent = true := by simpa using c4
  rw [if_neg (by rw [c4]; simp)] at h
  obtain ⟨p0, p1⟩ := inB_iff.1 c4
  have hpi : (dat ds i).parent.toNat < ds.length := by omega
  have hPar : Pars ds (i + 1) := by
    intro a h0 h1
    by_cases e : a < (i : Int)
    · exact hP a h0 e
    · obtain rfl : a = (i : Int) := by omega
      have : par ds (i : Int) = (dat ds i).parent := by unfold par; rw [show ((i : Int)).toNat = i by omega]
      rw [this]; omega
  have tail : ¬ ((dat ds (dat ds i).parent.toNat).kind ≠ 4 ∨ upW (par ds) ((i : Int) - 1) (dat ds i).parent = false) → acall TP fn_impl_deep [roD ds, iv (i : Int)] σ (onr (fun v83 σ => og (ibin .gtr v83 (.val (.int .i64 12))) fun v84 => apick v84 (aret (.val (.int .i64 2)) σ R) (aret (.val (.int .i64 0)) σ R)) (fun v σ => apan v σ R)) := by
    intro hc
    rw [if_neg hc] at h
    refine c_impl_deep hi (by omega) hPar ?_
    simp only [RR]
    by_cases c6 : 12 < deepW (par ds) (i : Int)
    · have g6 : (12 : Int) < ((deepW (par ds) (i : Int) : Nat) : Int) := by omega
      rw [if_pos c6] at h
      simp only [g6, RR]; exact ret_here h
    · have g6 : ¬ (12 : Int) < ((deepW (par ds) (i : Int) : Nat) : Int) := by omega
      rw [if_neg c6] at h
      simp only [g6, RR]; exact ret_here h
  simp only [lod_one, jn, idx_roI p0 hpi len_encDat, RR, RT]
  rw [dat_at hpi]
  refine gpick_cases (fun c5 => ?_) (fun c5 => ?_)
  · have c5 : (dat ds (dat ds i).parent.toNat).kind ≠ 4 := by simpa using c5
    rw [if_pos (.inl c5)] at h
    exact ret_here h
  have c5 : (dat ds (dat ds i).parent.toNat).kind = 4 := by simpa using c5
  refine c_impl_isUp (p := par ds) (n := (i : Int)) (fun a R h0 h1 h => acallv_clo (c_impl_datumFault_1 h0 (by omega) h)) (fun a h0 h1 => (hP a h0 h1).1) (by omega) ?_
  simp only [RR]
  refine apick_cases (fun c6 => ?_) (fun c6 => ?_)
  · have c6 : upW (par ds) ((i : Int) - 1) (dat ds i).parent = false := by simpa using c6
    rw [if_pos (.inr c6)] at h
    exact ret_here h
  · have c6 : upW (par ds) ((i : Int) - 1) (dat ds i).parent = true := by simpa using c6
    exact tail (by rw [c6, c5]; simp)
theorem inB_lenF {n : Nat} (h : inB 1 80 (n : Int) = false) : ¬ (1 ≤ n ∧ n ≤ 80) := by
  intro hc
  have : inB 1 80 (n : Int) = true := inB_iff.2 (by omega)
  rw [this] at h; cases h
theorem c_impl_DataFault {ds : List Dat} (h : R (.ret (iv (dataF ds))) σ) : acall TP fn_impl_DataFault [roD ds] σ R := by
  refine s_impl_DataFault_ok ?_
  unfold s_impl_DataFault
  unfold dataF at h
  simp only [RR, RT]
  refine c_impl_in ?_
  simp only [RR]
  refine apick_cases (fun c1 => ?_) (fun c1 => ?_)
  · have c1 : inB 1 80 (ds.length : Int) = false := by simpa using c1
    rw [if_neg (by rw [c1]; simp)] at h
    exact ret_here h
  have c1 : inB 1 80 (ds.length : Int) = true := by simpa using c1
  rw [if_pos c1] at h
  have hl := inB_iff.1 c1
  refine lp_same ds.length (fun i => (roD ds, iv (ds.length : Int), iv (i : Int), ())) (fun i => ∀ j, j < i → datF ds j = 0) rfl (fun j hj => by omega) ?_
  intro i hi hj R' hR'
  by_cases hlt : i < ds.length
  · have g : (i : Int) < (ds.length : Int) := by omega
    simp only [g, RR]
    refine c_impl_datumFault hlt (by omega) (pars_of hj) ?_
    simp only [RR]
    by_cases c2 : datF ds i = 0
    · simp only [c2, ibin_up hlt (by omega), RR]
      exact hR' hlt (all_below hj c2) σ (.refl _)
    · simp only [c2, RR]
      rw [firstF_at c2 ds.length 0 (Nat.zero_le _) (by omega) (fun j _ h2 => hj j h2)] at h
      exact ret_here h
  · have g : ¬ (i : Int) < (ds.length : Int) := by omega
    obtain rfl : i = ds.length := by omega
    simp only [g, RR]
    rw [firstF_all _ _ (fun j _ h2 => hj j (by omega))] at h
    exact ret_here h
end Go.Proofs.YtmmhaiidcfgbbaaGreatDoor.E
