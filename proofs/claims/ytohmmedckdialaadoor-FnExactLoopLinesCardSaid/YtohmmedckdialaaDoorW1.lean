/- Results that are lists of texts: compared, marked, held. -/
import Derived.Test.YtohmmedckdialaaDoorC6
set_option linter.unusedSectionVars false
set_option linter.unusedSimpArgs false
set_option linter.unusedVariables false
namespace Go.Proofs.YtohmmedckdialaaDoor.E
open Go Go.RowKit
set_option maxRecDepth 100000
/-! ### marks -/
def mkB (a : Int) : ByteArray := ⟨[UInt8.ofNat (IntKind.u8.wrap (48 + a % 10)).toNat].toArray⟩
def mkD : Nat → Int → ByteArray → ByteArray
  | 0, _, s => s
  | f + 1, a, s => if 0 < a then mkD f (a / 10) (mkB a ++ s) else s
def mkT (k : Int) : ByteArray := if k ≤ 0 then ⟨#[109, 48]⟩ else ⟨#[109]⟩ ++ mkD k.toNat k ⟨#[]⟩
theorem mkD_pos {f : Nat} {a : Int} {s : ByteArray} (h : 0 < a) (hf : a.toNat ≤ f) : ∃ f', f = f' + 1 ∧ mkD f a s = mkD f' (a / 10) (mkB a ++ s) := by
  cases f with
  | zero => omega
  | succ f' => exact ⟨f', rfl, by rw [mkD, if_pos h]⟩
theorem mkD_end {f : Nat} {a : Int} {s : ByteArray} (h : ¬ 0 < a) : mkD f a s = s := by
  cases f with
  | zero => rfl
  | succ f => rw [mkD, if_neg h]
abbrev txs (xs : List ByteArray) : List (List AV) := xs.map fun x => [str x]
abbrev nilT : AV := .val (.slice none 0 0)
section
variable [L : Lam]
variable {σ τ : AH} {R : AEnd → AH → Prop}
theorem c_laws_markText {k : Int} (h0 : 0 ≤ k) (h1 : k ≤ 1000000000000000) (h : R (.ret (str (mkT k))) σ) : acall TP fn_laws_markText [iv k] σ R := by
  refine s_laws_markText_ok ?_
  unfold s_laws_markText
  unfold mkT at h
  by_cases c : k ≤ 0
  · rw [if_pos c] at h
    simp only [c, RR]
    exact ret_here h
  rw [if_neg c] at h
  simp only [c, RR]
  refine lp_by (fun n x τ => ∃ (a : Int) (s : ByteArray), x = (iv a, str s, ()) ∧ τ = σ ∧ 0 ≤ a ∧ a.toNat ≤ n ∧ (s.size : Int) + a ≤ k ∧ mkD n a s = mkD k.toNat k ⟨#[]⟩) k.toNat ⟨k, ⟨#[]⟩, rfl, rfl, by omega, Nat.le_refl _, by rw [size_none]; omega, rfl⟩ ?_
  rintro n x τ ⟨a, s, rfl, rfl, ha, hn, hsz, hm0⟩ R' hR'
  by_cases c2 : 0 < a
  · obtain ⟨n', rfl, hm1⟩ := mkD_pos (s := s) c2 hn
    have hm : a % 10 < 10 := Int.emod_lt_of_pos _ (by omega)
    have hmn : 0 ≤ a % 10 := Int.emod_nonneg _ (by omega)
    have e1 : ibin .rem (iv a) (.val (.int .i64 10)) = some (iv (a % 10)) := by
      show some (iv (a.tmod 10)) = _
      rw [Int.tmod_eq_emod_of_nonneg ha]
    have e2 : ibin .add (.val (.int .i64 48)) (iv (a % 10)) = some (iv (48 + a % 10)) := ibin_add (by omega) (by omega)
    have e3 : convI .u8 (iv (48 + a % 10)) = some (.val (.int .u8 (IntKind.u8.wrap (48 + a % 10)))) := rfl
    have e4 : ibin .quo (iv a) (.val (.int .i64 10)) = some (iv (a / 10)) := by
      show some (iv (IntKind.i64.wrap (a.tdiv 10))) = _
      rw [Int.tdiv_eq_ediv_of_nonneg ha, i64_wrap (by omega) (by omega)]
    simp only [c2, e1, e2, e3, RR]
    refine ⟨by decide, ?_⟩
    rw [if_neg (by decide)]
    intro ψ hψ
    have ha : ∀ w : Int, aelems (τ.set ψ ⟨0, 1, [[.val (.int .u8 w)]]⟩) (.own ψ 0 0 1) = some [[.val (.int .u8 w)]] := fun w => by simp [aelems]
    have hb : ∀ w : Int, abytes [[.val (.int .u8 w)]] = some [UInt8.ofNat w.toNat] := fun w => rfl
    refine aconv_bytes bytes_Lb (ha _) (hb _) (by intro u h; cases h) (by intro kd n h; cases h) ?_
    have es : sbin .add (.val (.string ⟨[UInt8.ofNat (IntKind.u8.wrap (48 + a % 10)).toNat].toArray⟩)) (str s) = some (str (mkB a ++ s)) := sbin_add (mkB a) s (by unfold mkB; rw [size_one]; omega)
    simp only [es, e4, RR]
    refine hR' _ _ n' τ (by omega) (.set (.refl τ) _ hψ) ⟨a / 10, _, rfl, rfl, by omega, by omega, ?_, by rw [← hm1]; exact hm0⟩
    rw [ByteArray.size_append]
    unfold mkB
    rw [size_one]
    omega
  · rw [mkD_end c2] at hm0
    rw [← hm0] at h
    have es := sbin_add ⟨#[109]⟩ s (by rw [size_m]; omega)
    simp only [c2, es, RR]
    exact ret_here h
/-! ### lists of texts -/
structure RdS (τ : AH) (l : AV) (xs : List ByteArray) : Prop where
  len : lenS l = some (iv (xs.length : Int))
  at_ : ∀ (j : Nat) (h : j < xs.length), ∃ p, idx 1 l (iv (j : Int)) τ = some p ∧ lod p τ = some (str xs[j])
theorem RdS.ro (τ : AH) (xs : List ByteArray) : RdS τ (.ro (txs xs)) xs :=
  ⟨len_ro (fun x => [str x]) xs, fun j h => ⟨_, idx_ro (enc := fun x => [str x]) h fun _ => rfl, rfl⟩⟩
theorem RdS.nil (τ : AH) : RdS τ nilT [] := ⟨rfl, fun j h => by cases h⟩
/-- A list of texts that is owned, or none. -/
def GLS (τ : AH) (l : AV) (xs : List ByteArray) : Prop := ((l = nilT ∨ l = .emp) ∧ xs = []) ∨ ∃ φ st out, l = .own φ st 0 xs.length ∧ τ φ = some ⟨st, 1, txs out⟩ ∧ ∀ (j : Nat) (h : j < xs.length), out[j]? = some xs[j]
theorem GLS.rd {l : AV} {xs : List ByteArray} (h : GLS τ l xs) : RdS τ l xs := by
  rcases h with ⟨rfl | rfl, rfl⟩ | ⟨φ, st, out, rfl, hF, ho⟩
  · exact .nil τ
  · exact ⟨rfl, fun j h => by cases h⟩
  · refine ⟨rfl, fun j hj => ⟨.ptr φ st j 0, ?_, ?_⟩⟩
    · have := idx_own (st := st) (off := 0) hF hj
      rwa [Nat.zero_add] at this
    · refine lod_at hF rfl ?_
      have := ho j hj
      simp [List.getD, this]
theorem GLS.one {l : AV} {xs : List ByteArray} (h : GLS τ l xs) : l.one = true := by
  rcases h with ⟨rfl | rfl, _⟩ | ⟨φ, st, out, rfl, _, _⟩ <;> rfl
theorem GLS.sub {τ' : AH} {l : AV} {xs : List ByteArray} (h : GLS τ l xs) (k : AH.Sub τ τ') : GLS τ' l xs := by
  rcases h with h | ⟨φ, st, out, e, hF, ho⟩
  · exact .inl h
  · exact .inr ⟨φ, st, out, e, k _ _ hF, ho⟩
theorem c_laws_eqStringS {a b : AV} {xs : List ByteArray} (ha : RdS σ a xs) (hb : RdS σ b xs) (hl : xs.length ≤ 1048576) (h : R (.ret (bv true)) σ) : acall TP fn_laws_eqStringS [a, b] σ R := by
  refine s_laws_eqStringS_ok ?_
  unfold s_laws_eqStringS
  simp only [ha.len, hb.len, dec_self, RR]
  refine lp_same xs.length (fun i => (a, b, iv (i : Int), ())) (fun _ => True) rfl trivial ?_
  intro i hi _ R' hR'
  simp only [ha.len, RR]
  by_cases hlt : i < xs.length
  · have g : (i : Int) < (xs.length : Int) := by omega
    obtain ⟨p, p1, p2⟩ := ha.at_ i hlt
    obtain ⟨q, q1, q2⟩ := hb.at_ i hlt
    simp only [g, p1, p2, q1, q2, sbin_neq', dec_self, ibin_up hlt (by omega), RR]
    exact hR' hlt trivial _ (.refl _)
  · have g : ¬ (i : Int) < (xs.length : Int) := by omega
    simp only [g, RR]
    exact ret_here h
theorem c_laws_eqTextsResult {c : Int} {a b : AV} {xs : List ByteArray} (ha : RdS σ a xs) (hb : RdS σ b xs) (hl : xs.length ≤ 1048576) (h : R (.ret (bv true)) σ) : acall TP fn_laws_eqTextsResult [.agg [iv c, a], .agg [iv c, b]] σ R := by
  refine s_laws_eqTextsResult_ok ?_
  unfold s_laws_eqTextsResult
  refine box2_frz rfl rfl ?_
  have e0 : ∀ x τ, lod (.rop [iv c, x] 0) τ = some (iv c) := fun _ _ => rfl
  have e1 : ∀ x τ, lod (.rop [iv c, x] 1) τ = some x := fun _ _ => rfl
  simp only [RR, e0, e1, dec_self]
  refine c_laws_eqStringS ha hb hl ?_
  simp only [RR]
  exact ret_here h
def marksT (n : Nat) : List ByteArray := (List.range n).map (fun i : Nat => mkT ((i : Int) + 1))
theorem marksT_len (n : Nat) : (marksT n).length = n := by simp [marksT]
theorem marksT_at {n j : Nat} (h : j < (marksT n).length) : (marksT n)[j] = mkT ((j : Int) + 1) := by simp [marksT]
theorem lenS_own {φ st off n : Nat} : lenS (.own φ st off n) = some (iv (n : Int)) := rfl
theorem c_laws_markStringS {l : AV} {xs : List ByteArray} (hG : GLS τ l xs) (hl : xs.length ≤ 1048576) (h : ∀ τ', GLS τ' l (marksT xs.length) → R (.ret (iv ((xs.length : Int) + 1))) τ') : acall TP fn_laws_markStringS [l, iv 1] τ R := by
  refine s_laws_markStringS_ok ?_
  unfold s_laws_markStringS
  rcases hG with ⟨hn, rfl⟩ | ⟨φ, st, out, rfl, hF, ho⟩
  · refine lp_same 0 (fun _ => (l, iv 1, iv 0, ())) (fun _ => True) rfl trivial ?_
    intro i _ _ R' _
    have e : lenS l = some (iv 0) := by rcases hn with rfl | rfl <;> rfl
    simp only [e, RR]
    exact ret_here (h τ (.inl ⟨hn, by simp [marksT]⟩))
  · refine lp_by (fun n x τ' => ∃ (i : Nat) (out' : List ByteArray), i + n = xs.length ∧ x = (.own φ st 0 xs.length, iv ((i : Int) + 1), iv (i : Int), ()) ∧ τ' = τ.set φ ⟨st, 1, txs out'⟩ ∧ out'.length = out.length ∧ ∀ j, j < i → out'[j]? = some (mkT ((j : Int) + 1))) xs.length
      ⟨0, out, by omega, rfl, (AH.set_self hF).symm, rfl, fun j hj => by omega⟩ ?_
    rintro n x τ1 ⟨i, out', hn, rfl, rfl, hol, hd⟩ R' hR'
    have hF1 := AH.set_same τ φ (⟨st, 1, txs out'⟩ : Fam)
    simp only [lenS_own, RR]
    by_cases hi : i < xs.length
    · have g : (i : Int) < (xs.length : Int) := by omega
      have hio : i < out.length := (List.getElem?_eq_some_iff.1 (ho i hi)).1
      have hio' : i < out'.length := by omega
      have ix := idx_own (st := st) (off := 0) hF1 hi
      rw [Nat.zero_add] at ix
      have a1 : ibin .add (iv ((i : Int) + 1)) (.val (.int .i64 1)) = some (iv (((i + 1 : Nat) : Int) + 1)) := by rw [ibin_add (by omega) (by omega)]; congr 3
      simp only [g, RR]
      refine c_laws_markText (by omega) (by omega) ?_
      simp only [ix, RR]
      refine sto_fld (sz := 1) (off := 0) (i := i) (cs := [str out'[i]]) (v := str (mkT ((i : Int) + 1))) hF1 (by rw [List.getElem?_map, List.getElem?_eq_getElem hio']; rfl) (by omega) rfl rfl ?_
      have e5 : (txs out').set i ([str out'[i]].set 0 (str (mkT ((i : Int) + 1)))) = txs (out'.set i (mkT ((i : Int) + 1))) := by
        simp only [List.set_cons_zero, txs, List.map_set]
      simp only [e5, a1, ibin_up hi (by omega), AH.set_set, RR]
      refine hR' _ _ (n - 1) _ (by omega) (.refl _) ⟨i + 1, _, by omega, rfl, rfl, by simpa using hol, fun j hj => ?_⟩
      rw [List.getElem?_set]
      split
      · rename_i e; subst e; simp [hio']
      · exact hd j (by omega)
    · have g : ¬ (i : Int) < (xs.length : Int) := by omega
      obtain rfl : i = xs.length := by omega
      simp only [g, RR]
      refine ret_here (h _ (.inr ⟨φ, st, out', by rw [marksT_len], hF1, fun j hj => ?_⟩))
      rw [marksT_len] at hj
      rw [hd j hj, marksT_at]
theorem c_laws_heldStringS {l : AV} {n : Nat} (hR : RdS σ l (marksT n)) (hl : n ≤ 1048576) (h : R (.ret (iv ((n : Int) + 1))) σ) : acall TP fn_laws_heldStringS [l, iv 1] σ R := by
  refine s_laws_heldStringS_ok ?_
  unfold s_laws_heldStringS
  have hlen := hR.len
  rw [marksT_len] at hlen
  refine lp_same n (fun i => (l, iv ((i : Int) + 1), iv (i : Int), ())) (fun _ => True) rfl trivial ?_
  intro i hi _ R' hR'
  simp only [hlen, RR]
  by_cases hlt : i < n
  · have g : (i : Int) < (n : Int) := by omega
    obtain ⟨p, p1, p2⟩ := hR.at_ i (by rw [marksT_len]; exact hlt)
    rw [marksT_at] at p2
    have a1 : ibin .add (iv ((i : Int) + 1)) (.val (.int .i64 1)) = some (iv (((i + 1 : Nat) : Int) + 1)) := by rw [ibin_add (by omega) (by omega)]; congr 3
    simp only [g, p1, p2, RR]
    refine c_laws_markText (by omega) (by omega) ?_
    simp only [p1, p2, a1, sbin_neq', dec_self, ibin_up hlt (by omega), and_true, true_and, RR]
    exact hR' hlt trivial _ (.refl _)
  · have g : ¬ (i : Int) < (n : Int) := by omega
    obtain rfl : i = n := by omega
    simp only [g, RR]
    exact ret_here h
theorem c_laws_markTextsResult {c : Int} {l : AV} {xs : List ByteArray} (hG : GLS τ l xs) (hl : xs.length ≤ 1048576) (h : ∀ τ', GLS τ' l (marksT xs.length) → R (.ret (iv ((xs.length : Int) + 1))) τ') : acall TP fn_laws_markTextsResult [.agg [iv c, l], iv 1] τ R := by
  refine s_laws_markTextsResult_ok ?_
  unfold s_laws_markTextsResult
  refine box_frz rfl ?_
  have e1 : ∀ τ, lod (.rop [iv c, l] 1) τ = some l := fun _ => rfl
  simp only [RR, e1]
  refine c_laws_markStringS hG hl fun τ' hG' => ?_
  simp only [RR]
  exact ret_here (h τ' hG')
theorem c_laws_heldTextsResult {c : Int} {l : AV} {n : Nat} (hR : RdS σ l (marksT n)) (hl : n ≤ 1048576) (h : R (.ret (iv ((n : Int) + 1))) σ) : acall TP fn_laws_heldTextsResult [.agg [iv c, l], iv 1] σ R := by
  refine s_laws_heldTextsResult_ok ?_
  unfold s_laws_heldTextsResult
  refine box_frz rfl ?_
  have e1 : ∀ τ, lod (.rop [iv c, l] 1) τ = some l := fun _ => rfl
  simp only [RR, e1]
  refine c_laws_heldStringS hR hl ?_
  have g : ¬ ((n : Int) + 1) < 0 := by omega
  simp only [g, RR]
  exact ret_here h
end
end Go.Proofs.YtohmmedckdialaaDoor.E
