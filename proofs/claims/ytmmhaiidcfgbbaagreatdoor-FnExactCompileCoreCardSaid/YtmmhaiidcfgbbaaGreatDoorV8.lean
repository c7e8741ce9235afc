/- Cores: their faults. -/
import Derived.Test.YtmmhaiidcfgbbaaGreatDoorV7
set_option linter.unusedSectionVars false
set_option linter.unusedSimpArgs false
set_option linter.unusedVariables false
namespace Go.Proofs.YtmmhaiidcfgbbaaGreatDoor.E
open Go Go.RowKit
set_option maxRecDepth 100000
variable [L : Lam]
variable {σ τ τ' : AH} {R : AEnd → AH → Prop}
/-! ### words -/
def kws : List ByteArray := [⟨#[113, 117, 111, 116, 101]⟩, ⟨#[105, 102]⟩, ⟨#[108, 97, 109, 98, 100, 97]⟩, ⟨#[108, 101, 116]⟩, ⟨#[98, 101, 103, 105, 110]⟩, ⟨#[100, 101, 102, 105, 110, 101]⟩, ⟨#[115, 101, 116, 33]⟩]
def inL (l : List ByteArray) (s : ByteArray) : Bool := l.any fun t => decide (s = t)
def kwB (s : ByteArray) : Bool := inL kws s
def idxS : List ByteArray → ByteArray → Nat → Int
  | [], _, _ => -1
  | t :: r, s, k => if s = t then (k : Int) else idxS r s (k + 1)
theorem idxS_in (s : ByteArray) : ∀ (l : List ByteArray) (k : Nat), decide (0 ≤ idxS l s k) = inL l s := by
  intro l
  induction l with
  | nil => intro k; rfl
  | cons t r ih =>
    intro k
    rw [idxS]
    by_cases c : s = t
    · rw [if_pos c]; simp [inL, c]
    · rw [if_neg c, ih]; simp [inL, c]
abbrev roS (l : List ByteArray) : AV := .ro (l.map fun s => [str s])
theorem idx_S {l : List ByteArray} {j : Nat} (h : j < l.length) : idx 1 (roS l) (iv (j : Int)) σ = some (.rop [str l[j]] 0) := idx_ro (enc := fun s => [str s]) h (sz := 1) fun _ => rfl
theorem lenSS {l : List ByteArray} : lenS (roS l) = some (iv (l.length : Int)) := by simp [lenS]
theorem c_slices_Index {l : List ByteArray} {s : ByteArray} (hl : l.length ≤ 1000000) (h : R (.ret (iv (idxS l s 0))) σ) : acall TP fn_slices_Index [roS l, str s] σ R := by
  refine s_slices_Index_ok ?_
  unfold s_slices_Index
  simp only [lenSS, RR]
  refine lp_same l.length (fun i => (roS l, str s, iv (l.length : Int), iv (i : Int), ())) (fun i => idxS l s 0 = idxS (l.drop i) s i) rfl (by simp) ?_
  intro i hi hj R' hR'
  by_cases hlt : i < l.length
  · have g : (i : Int) < (l.length : Int) := by omega
    rw [List.drop_eq_getElem_cons hlt, idxS] at hj
    simp only [g, idx_S hlt, lod_1, sbin_eql', RR]
    by_cases c : s = l[i]
    · rw [if_pos c] at hj
      rw [hj] at h
      have cd : decide (s = l[i]) = true := by simp [c]
      simp only [cd, RR]
      exact ret_here h
    · rw [if_neg c] at hj
      have cd : decide (s = l[i]) = false := by simp [c]
      simp only [cd, ibin_up hlt (by omega), RR]
      exact hR' hlt hj _ (.refl σ)
  · have g : ¬ (i : Int) < (l.length : Int) := by omega
    obtain rfl : i = l.length := by omega
    rw [List.drop_length, idxS] at hj
    rw [hj] at h
    simp only [g, RR]
    exact ret_here h
theorem c_slices_Contains {l : List ByteArray} {s : ByteArray} (hl : l.length ≤ 1000000) (h : R (.ret (bv (inL l s))) σ) : acall TP fn_slices_Contains [roS l, str s] σ R := by
  refine s_slices_Contains_ok ?_
  unfold s_slices_Contains
  refine c_slices_Index hl ?_
  simp only [RR, idxS_in]
  exact ret_here h
theorem bsl_new {sz n : Nat} {z : List AV} {ps : List (Nat × AV)} {es : List (List AV)} {k : AV → AH → Prop} (he : afillS sz (List.replicate n z) ps = some es) (hb : n * sz ≤ 16777216) (hn : n ≠ 0) (h : ∀ φ, σ φ = none → k (.own φ 0 0 n) (σ.set φ ⟨0, sz, es⟩)) : bsl sz z n ps σ k := by
  unfold bsl
  rw [he]
  exact ⟨hb, by rw [if_neg hn]; exact h⟩
theorem c_impl_IsKeyword {s : ByteArray} (h : R (.ret (bv (kwB s))) σ) : acall TP fn_impl_IsKeyword [str s] σ R := by
  refine s_impl_IsKeyword_ok ?_
  unfold s_impl_IsKeyword
  refine bsl_new (es := kws.map fun s => [str s]) rfl (by decide) (by decide) fun φ hφ => ?_
  refine acall_frz (σ0 := σ) (args' := [roS kws, str s]) (.set (.refl σ) _ hφ) rfl (fun i hi => ?_) ?_
  · match i, hi with
    | 0, _ =>
      refine .own (AH.set_same ..) hφ rfl (by decide) rfl (fun i hi => ?_) (fun i j hi hj => by rw [Nat.zero_add]; exact .same _)
      have hi' : i < kws.length := hi
      simp [List.getD, hi']
    | 1, _ => exact .same _
  refine c_slices_Contains (by decide) ?_
  simp only [RR]
  exact ret_here h
theorem c_spec_IsKeyword {s : ByteArray} (h : R (.ret (bv (kwB s))) σ) : acall TP fn_spec_IsKeyword [str s] σ R := by
  refine s_spec_IsKeyword_ok ?_
  unfold s_spec_IsKeyword
  refine bsl_frz (es := kws.map fun s => [str s]) rfl (by decide) rfl (by intro c hc; obtain ⟨x, _, rfl⟩ := List.mem_map.1 hc; rfl) ?_
  refine lp_same kws.length (fun i => (str s, roS kws, iv (i : Int), ())) (fun i => inL kws s = inL (kws.drop i) s) rfl (by simp) ?_
  intro i hi hj R' hR'
  simp only [lenSS, RR]
  by_cases hlt : i < kws.length
  · have g : (i : Int) < (kws.length : Int) := by omega
    rw [List.drop_eq_getElem_cons hlt] at hj
    have hj2 : inL kws s = (decide (s = kws[i]) || inL (kws.drop (i + 1)) s) := hj
    have hkl : kws.length = 7 := rfl
    simp only [g, idx_S hlt, lod_1, sbin_eql', RR]
    by_cases c : kws[i] = s
    · have cd : decide (kws[i] = s) = true := by simp [c]
      simp only [cd, RR]
      rw [show decide (s = kws[i]) = true by simp [c], Bool.true_or] at hj2
      unfold kwB at h
      rw [hj2] at h
      exact ret_here h
    · have cd : decide (kws[i] = s) = false := by simp [c]
      simp only [cd, ibin_up hlt (by omega), RR]
      rw [show decide (s = kws[i]) = false by simp; exact fun e => c e.symm, Bool.false_or] at hj2
      exact hR' hlt hj2 _ (.refl σ)
  · have g : ¬ (i : Int) < (kws.length : Int) := by omega
    obtain rfl : i = kws.length := by omega
    rw [List.drop_length] at hj
    unfold kwB at h
    rw [hj] at h
    simp only [g, RR]
    exact ret_here h
/-! ### kinds -/
def namC (k : Int) : Bool := decide (k = 3) || decide (k = 7) || decide (k = 8)
theorem nam_walk {k : Int} {K : AV → Prop} (h : K (bv (namC k))) : og (ibin .eql (iv k) (.val (.int .i64 3))) fun v4 => og (gval v4 false false (some (iv k))) fun v6 => og (gval v4 false false (ibin .eql v6 (.val (.int .i64 7)))) fun v7 => og (pickV v4 (.val (.bool true)) v7) fun v8 =>
    og (gval v8 false false (some (iv k))) fun v10 => og (gval v8 false false (ibin .eql v10 (.val (.int .i64 8)))) fun v11 => og (pickV v8 (.val (.bool true)) v11) fun v12 => K v12 := by
  unfold namC at h
  by_cases c3 : k = 3
  · subst c3; simpa [RR] using h
  by_cases c7 : k = 7
  · subst c7; simp only [Int.reduceEq, RR] at h ⊢; simpa using h
  simp only [c3, c7, RR] at h ⊢
  simpa using h
theorem c_impl_named {k : Int} (h : R (.ret (bv (namC k))) σ) : acall TP fn_impl_named [iv k] σ R := by
  refine s_impl_named_ok ?_
  unfold s_impl_named
  exact nam_walk (ret_here h)
theorem c_spec_l4Named {k : Int} (h : R (.ret (bv (namC k))) σ) : acall TP fn_spec_l4Named [iv k] σ R := by
  refine s_spec_l4Named_ok ?_
  unfold s_spec_l4Named
  exact nam_walk (ret_here h)
def nameB (s : ByteArray) : Bool := symOk s && !kwB s
theorem c_impl_isName {s : ByteArray} (h : R (.ret (bv (nameB s))) σ) : acall TP fn_impl_isName [str s] σ R := by
  refine s_impl_isName_ok ?_
  unfold s_impl_isName
  simp only [jn]
  refine c_impl_SymFault ?_
  unfold nameB at h
  cases hs : symOk s with
  | true =>
    rw [hs, Bool.true_and] at h
    simp only [RR]
    refine c_impl_IsKeyword ?_
    simp only [RR]
    exact ret_here h
  | false =>
    rw [hs, Bool.false_and] at h
    simp only [RR]
    exact ret_here h
theorem c_spec_l4Name {s : ByteArray} (hs : s.size ≤ 1099511627776) (h : R (.ret (bv (nameB s))) σ) : acall TP fn_spec_l4Name [str s] σ R := by
  refine s_spec_l4Name_ok ?_
  unfold s_spec_l4Name
  simp only [jn]
  refine c_spec_l2Sym hs ?_
  unfold nameB at h
  cases hs : symOk s with
  | true =>
    rw [hs, Bool.true_and] at h
    simp only [RR]
    refine c_spec_IsKeyword ?_
    simp only [RR]
    exact ret_here h
  | false =>
    rw [hs, Bool.false_and] at h
    simp only [RR]
    exact ret_here h
end Go.Proofs.YtmmhaiidcfgbbaaGreatDoor.E
