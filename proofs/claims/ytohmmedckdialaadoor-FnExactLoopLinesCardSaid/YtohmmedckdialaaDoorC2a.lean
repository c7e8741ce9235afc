/- Settings as texts. -/
import Derived.Test.YtohmmedckdialaaDoorC1
set_option linter.unusedSectionVars false
set_option linter.unusedSimpArgs false
set_option linter.unusedVariables false
namespace Go.Proofs.YtohmmedckdialaaDoor.E
open Go Go.RowKit
variable [L : Lam]
variable {σ τ : AH} {R : AEnd → AH → Prop}
def encF (s t : Int) (p q : Bool) : List AV := [iv s, iv t, bv p, bv q]
theorem one_encF (s t : Int) (p q : Bool) : ∀ y, y ∈ encF s t p q → y.one = true := by
  intro y hy
  simp only [encF, List.mem_cons, List.not_mem_nil, or_false] at hy
  rcases hy with rfl | rfl | rfl | rfl <;> rfl
theorem RF (s t : Int) (p q : Bool) : (∀ σ, lod (.rop (encF s t p q) 0) σ = some (iv s)) ∧ (∀ σ, lod (.rop (encF s t p q) 1) σ = some (iv t)) ∧ (∀ σ, lod (.rop (encF s t p q) 2) σ = some (bv p)) ∧ (∀ σ, lod (.rop (encF s t p q) 3) σ = some (bv q)) :=
  ⟨fun _ => rfl, fun _ => rfl, fun _ => rfl, fun _ => rfl⟩
def cfgF (s t : Int) : Int := if inB 1 64 s && inB 0 15 t then 0 else 3
theorem c_impl_TableFault {t : Int} (h : R (.ret (iv (if inB 0 15 t then 0 else 3))) σ) : acall TP fn_impl_TableFault [iv t] σ R := by
  refine s_impl_TableFault_ok ?_
  unfold s_impl_TableFault
  refine c_impl_in ?_
  cases c : inB 0 15 t <;> rw [c] at h <;> simp only [RR] <;> exact ret_here h
theorem c_impl_ConfigFault {s t : Int} {p q : Bool} (h : R (.ret (iv (cfgF s t))) σ) : acall TP fn_impl_ConfigFault [.agg (encF s t p q)] σ R := by
  refine s_impl_ConfigFault_ok ?_
  unfold s_impl_ConfigFault
  unfold cfgF at h
  simp only [jn]
  refine box_frz rfl ?_
  simp only [RR, RF]
  refine s_impl_isSize_ok ?_
  unfold s_impl_isSize
  refine c_impl_in ?_
  simp only [RR]
  refine ret_here ?_
  cases c : inB 1 64 s
  · rw [c] at h
    simp only [RR]
    exact ret_here h
  · rw [c] at h
    simp only [RR, RF]
    refine c_impl_TableFault ?_
    cases c2 : inB 0 15 t
    · rw [c2] at h
      simp only [RR]
      exact ret_here h
    · rw [c2] at h
      simp only [RR]
      exact ret_here h
theorem c_spec_l13Fault {s t : Int} {p q : Bool} (h : R (.ret (iv (cfgF s t))) σ) : acall TP fn_spec_l13Fault [.rop (encF s t p q) 0] σ R := by
  refine s_spec_l13Fault_ok ?_
  unfold s_spec_l13Fault
  unfold cfgF at h
  simp only [jn, RR, RF]
  refine s_spec_l12Size_ok ?_
  unfold s_spec_l12Size
  refine c_spec_l1In ?_
  simp only [RR]
  refine ret_here ?_
  cases c : inB 1 64 s
  · rw [c] at h
    simp only [RR]
    exact ret_here h
  · rw [c] at h
    simp only [RR, RF]
    refine s_spec_l11Table_ok ?_
    unfold s_spec_l11Table
    refine c_spec_l1In ?_
    simp only [RR]
    refine ret_here ?_
    cases c2 : inB 0 15 t
    · rw [c2] at h
      simp only [RR]
      exact ret_here h
    · rw [c2] at h
      simp only [RR]
      exact ret_here h
/-! ### the text -/
abbrev wSeg : ByteArray := ⟨#[115, 101, 103, 32]⟩
abbrev wTab : ByteArray := ⟨#[32, 116, 97, 98, 108, 101, 32]⟩
abbrev wSp : ByteArray := ⟨#[32]⟩
abbrev wPeep : ByteArray := ⟨#[112, 101, 101, 112]⟩
abbrev wPlain : ByteArray := ⟨#[112, 108, 97, 105, 110]⟩
abbrev wCache : ByteArray := ⟨#[99, 97, 99, 104, 101]⟩
abbrev wLook : ByteArray := ⟨#[108, 111, 111, 107]⟩
def txA (s t : Nat) : ByteArray := wSeg ++ dig s ++ wTab ++ dig t
def cfgT (s t : Nat) (p q : Bool) : ByteArray := txA s t ++ wSp ++ (cond p wPeep wPlain) ++ wSp ++ (cond q wCache wLook)
theorem sz1 : wSeg.size = 4 := rfl
theorem sz2 : wTab.size = 7 := rfl
theorem sz3 : wSp.size = 1 := rfl
theorem sz4 (p : Bool) : (cond p wPeep wPlain).size ≤ 5 := by cases p <;> decide
theorem sz5 (q : Bool) : (cond q wCache wLook).size ≤ 5 := by cases q <;> decide
theorem szA (s t : Nat) : (txA s t).size ≤ 15 := by
  unfold txA
  have := dig_size s
  have := dig_size t
  rw [ByteArray.size_append, ByteArray.size_append, ByteArray.size_append, sz1, sz2]
  omega
theorem c_impl_text {s t : Nat} {p q : Bool} (hs : s < 100) (ht : t < 100) (h : R (.ret (str (cfgT s t p q))) σ) : acall TP fn_impl_Config_text [.agg (encF s t p q)] σ R := by
  refine s_impl_Config_text_ok ?_
  unfold s_impl_Config_text
  refine box_frz rfl ?_
  have d1 := dig_size s
  have d2 := dig_size t
  have hA := szA s t
  have h4 := sz4 p
  have h5 := sz5 q
  have tail : ∀ wp wq : ByteArray, wp = cond p wPeep wPlain → wq = cond q wCache wLook →
      acall TP fn_impl_dec [iv (s : Int)] σ (onr (fun v11 σ =>
          og (sbin .add (.val (.string wSeg)) v11) fun v12 =>
          og (sbin .add v12 (.val (.string wTab))) fun v13 =>
          acall TP fn_impl_dec [iv (t : Int)] σ (onr (fun v16 σ =>
          og (sbin .add v13 v16) fun v17 =>
          og (sbin .add v17 (.val (.string wSp))) fun v18 =>
          og (sbin .add v18 (str wp)) fun v20 =>
          og (sbin .add v20 (.val (.string wSp))) fun v21 =>
          og (sbin .add v21 (str wq)) fun v23 =>
          aret v23 σ R) (fun v σ => apan v σ R))) (fun v σ => apan v σ R)) := by
    rintro wp wq rfl rfl
    refine c_impl_dec hs ?_
    have e1 := sbin_add wSeg (dig s) (by rw [sz1]; omega)
    have e2 := sbin_add (wSeg ++ dig s) wTab (by rw [ByteArray.size_append, sz1, sz2]; omega)
    have e3 := sbin_add (wSeg ++ dig s ++ wTab) (dig t) (by rw [ByteArray.size_append, ByteArray.size_append, sz1, sz2]; omega)
    have e4 := sbin_add (txA s t) wSp (by rw [sz3]; omega)
    have e5 := sbin_add (txA s t ++ wSp) (cond p wPeep wPlain) (by rw [ByteArray.size_append, sz3]; omega)
    have e6 := sbin_add (txA s t ++ wSp ++ cond p wPeep wPlain) wSp (by rw [ByteArray.size_append, ByteArray.size_append, sz3]; omega)
    have e7 := sbin_add (txA s t ++ wSp ++ cond p wPeep wPlain ++ wSp) (cond q wCache wLook) (by rw [ByteArray.size_append, ByteArray.size_append, ByteArray.size_append, sz3]; omega)
    simp only [RF, e1, e2, eq_self, and_true, true_and, RR]
    refine c_impl_dec ht ?_
    simp only [e3, RR]
    show og (sbin .add (str (txA s t)) _) _
    simp only [e4, e5, e6, e7, RR]
    exact ret_here h
  simp only [RR, RF, jn, and_true, true_and]
  cases p <;> cases q <;> simp only [RR, RF, and_true, true_and] <;> exact tail _ _ rfl rfl
theorem w1 : wSp ++ wPeep = (⟨#[32, 112, 101, 101, 112]⟩ : ByteArray) := by decide
theorem w2 : wSp ++ wPlain = (⟨#[32, 112, 108, 97, 105, 110]⟩ : ByteArray) := by decide
theorem w3 : wSp ++ wCache = (⟨#[32, 99, 97, 99, 104, 101]⟩ : ByteArray) := by decide
theorem w4 : wSp ++ wLook = (⟨#[32, 108, 111, 111, 107]⟩ : ByteArray) := by decide
theorem c_spec_l13Text {s t : Nat} {p q : Bool} (hs : s < 100) (ht : t < 100) (h : R (.ret (str (cfgT s t p q))) σ) : acall TP fn_spec_l13Text [.rop (encF s t p q) 0] σ R := by
  refine s_spec_l13Text_ok ?_
  unfold s_spec_l13Text
  have d1 := dig_size s
  have d2 := dig_size t
  have hA := szA s t
  have h4 := sz4 p
  have h5 := sz5 q
  simp only [RR, RF]
  refine c_spec_l1Digits hs ?_
  have e1 := sbin_add wSeg (dig s) (by rw [sz1]; omega)
  have e2 := sbin_add (wSeg ++ dig s) wTab (by rw [ByteArray.size_append, sz1, sz2]; omega)
  have e3 := sbin_add (wSeg ++ dig s ++ wTab) (dig t) (by rw [ByteArray.size_append, ByteArray.size_append, sz1, sz2]; omega)
  simp only [RF, e1, e2, eq_self, and_true, true_and, RR]
  refine c_spec_l1Digits ht ?_
  simp only [e3, RR, RF, jn]
  have e4 : ∀ w : ByteArray, w.size ≤ 6 → sbin .add (str (wSeg ++ dig s ++ wTab ++ dig t)) (.val (.string w)) = some (str (txA s t ++ w)) := fun w hw => sbin_add (txA s t) w (by omega)
  have e5 : ∀ v w : ByteArray, v.size ≤ 6 → w.size ≤ 6 → sbin .add (str (txA s t ++ v)) (.val (.string w)) = some (str (txA s t ++ v ++ w)) := fun v w hv hw => sbin_add _ _ (by rw [ByteArray.size_append]; omega)
  unfold cfgT at h
  have fin : ∀ v w : ByteArray, v.size ≤ 6 → w.size ≤ 6 → R (.ret (str (txA s t ++ v ++ w))) σ →
      og (sbin .add (str (wSeg ++ dig s ++ wTab ++ dig t)) (.val (.string v))) fun x => og (sbin .add x (.val (.string w))) fun y => aret y σ R := by
    intro v w hv hw hh
    simp only [e4 v hv, e5 v w hv hw, RR]
    exact ret_here hh
  have ass : ∀ a b : ByteArray, txA s t ++ wSp ++ a ++ wSp ++ b = txA s t ++ (wSp ++ a) ++ (wSp ++ b) := fun a b => by simp only [ByteArray.append_assoc]
  rw [ass] at h
  cases p <;> cases q <;> simp only [RR]
  · exact fin _ _ (by decide) (by decide) (by rw [← w2, ← w4]; exact h)
  · exact fin _ _ (by decide) (by decide) (by rw [← w2, ← w3]; exact h)
  · exact fin _ _ (by decide) (by decide) (by rw [← w1, ← w4]; exact h)
  · exact fin _ _ (by decide) (by decide) (by rw [← w1, ← w3]; exact h)
/-! ### the functions and the law -/
def cfgR (s t : Int) (p q : Bool) : List AV := if cfgF s t = 0 then [iv 0, str (cfgT s.toNat t.toNat p q)] else [iv (cfgF s t), str ⟨#[]⟩]
theorem cfgR_two (s t : Int) (p q : Bool) : ∃ (a : Int) (u : ByteArray), cfgR s t p q = [iv a, str u] := by
  unfold cfgR
  split
  · exact ⟨_, _, rfl⟩
  · exact ⟨_, _, rfl⟩
theorem cfgF_ok {s t : Int} (h : cfgF s t = 0) : 1 ≤ s ∧ s ≤ 64 ∧ 0 ≤ t ∧ t ≤ 15 := by
  unfold cfgF at h
  split at h
  · rename_i c
    rw [Bool.and_eq_true] at c
    have := inB_iff.1 c.1
    have := inB_iff.1 c.2
    omega
  · cases h
theorem bldT1 (x : Int) : bld [iv 0, str ⟨#[]⟩] [(0, 1), (1, 1)] [(0, iv x)] = some (.agg [iv x, str ⟨#[]⟩]) := rfl
theorem bldT2 (u : ByteArray) : bld [iv 0, str ⟨#[]⟩] [(0, 1), (1, 1)] [(1, str u)] = some (.agg [iv 0, str u]) := rfl
theorem c_impl_ConfigText {s t : Int} {p q : Bool} (h : R (.ret (.agg (cfgR s t p q))) σ) : acall TP fn_impl_ConfigText [.agg (encF s t p q)] σ R := by
  refine s_impl_ConfigText_ok ?_
  unfold s_impl_ConfigText
  refine box_new rfl fun φ hφ => ?_
  unfold cfgR at h
  simp only [lodA_all (cs := encF s t p q) (n := 4) rfl, RR]
  refine c_impl_ConfigFault ?_
  by_cases c : cfgF s t = 0
  · rw [if_pos c] at h
    obtain ⟨h1, h2, h3, h4⟩ := cfgF_ok c
    obtain ⟨n, rfl⟩ : ∃ n : Nat, s = (n : Int) := ⟨s.toNat, by omega⟩
    obtain ⟨m, rfl⟩ : ∃ m : Nat, t = (m : Int) := ⟨t.toNat, by omega⟩
    simp only [c, lodA_all (cs := encF n m p q) (n := 4) rfl, RR]
    refine c_impl_text (by omega) (by omega) ?_
    simp only [bldT2, RR]
    exact fin_cell hφ rfl rfl (one2 rfl rfl) h
  · rw [if_neg c] at h
    simp only [c, bldT1, RR]
    exact fin_cell hφ rfl rfl (one2 rfl rfl) h
theorem c_spec_ConfigText {s t : Int} {p q : Bool} (h : R (.ret (.agg (cfgR s t p q))) σ) : acall TP fn_spec_ConfigText [.agg (encF s t p q)] σ R := by
  refine s_spec_ConfigText_ok ?_
  unfold s_spec_ConfigText
  refine box_new rfl fun φ hφ => ?_
  unfold cfgR at h
  refine c_spec_l13Fault ?_
  by_cases c : cfgF s t = 0
  · rw [if_pos c] at h
    obtain ⟨h1, h2, h3, h4⟩ := cfgF_ok c
    obtain ⟨n, rfl⟩ : ∃ n : Nat, s = (n : Int) := ⟨s.toNat, by omega⟩
    obtain ⟨m, rfl⟩ : ∃ m : Nat, t = (m : Int) := ⟨t.toNat, by omega⟩
    simp only [c, RR]
    refine c_spec_l13Text (by omega) (by omega) ?_
    simp only [bldT2, RR]
    exact fin_cell hφ rfl rfl (one2 rfl rfl) h
  · rw [if_neg c] at h
    simp only [c, bldT1, RR]
    exact fin_cell hφ rfl rfl (one2 rfl rfl) h
end Go.Proofs.YtohmmedckdialaaDoor.E
