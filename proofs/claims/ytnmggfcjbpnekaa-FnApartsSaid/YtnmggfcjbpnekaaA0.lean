/- Digits and draws, for a seat that has no settings. -/
import Derived.Test.YtnmggfcjbpnekaaC0
import Derived.Test.YtnmggfcjbpnekaaGZ
import Derived.Lib.ItoaNum
set_option linter.unusedSectionVars false
set_option linter.unusedSimpArgs false
set_option linter.unusedVariables false
namespace Go.Proofs.Ytnmggfcjbpnekaa.E
open Go Go.RowKit
set_option maxRecDepth 100000
abbrev u8v (n : Int) : AV := .val (.int .u8 n)
abbrev bs (l : List UInt8) : ByteArray := ⟨l.toArray⟩
abbrev by8 (s : ByteArray) : List UInt8 := s.data.toList
theorem bs_by8 (s : ByteArray) : bs (by8 s) = s := by cases s; simp
theorem size_by8 (s : ByteArray) : s.size = (by8 s).length := by show s.data.size = s.data.toList.length; simp
theorem size_bs (l : List UInt8) : (bs l).size = l.length := by show l.toArray.size = l.length; simp
theorem bs_inj {a b : List UInt8} (h : bs a = bs b) : a = b := by
  have := congrArg (fun x : ByteArray => x.data.toList) h
  simpa using this
theorem bs_append (a b : List UInt8) : bs a ++ bs b = bs (a ++ b) := by
  apply ByteArray.ext
  simp [ByteArray.data_append]
theorem decDigits_ten {u : Nat} (h : ¬ u < 10) : Lib.decDigits u = Lib.decDigits (u / 10) ++ [UInt8.ofNat (48 + u % 10)] := by rw [Lib.decDigits, dif_neg h]
def isDg (c : UInt8) : Bool := decide (48 ≤ c.toNat) && decide (c.toNat ≤ 57)
theorem isDg_iff {c : UInt8} : isDg c = true ↔ 48 ≤ c.toNat ∧ c.toNat ≤ 57 := by unfold isDg; rw [Bool.and_eq_true, decide_eq_true_iff, decide_eq_true_iff]
theorem dg_toNat {d : Nat} (h : d < 10) : (UInt8.ofNat (48 + d)).toNat = 48 + d := by
  rw [UInt8.toNat_ofNat']; omega
theorem dg_is {d : Nat} (h : d < 10) : isDg (UInt8.ofNat (48 + d)) = true := by
  rw [isDg_iff, dg_toNat h]; omega
theorem decDigits_len : ∀ (k u : Nat), u < 10 ^ (k + 1) → 1 ≤ (Lib.decDigits u).length ∧ (Lib.decDigits u).length ≤ k + 1 := by
  intro k
  induction k with
  | zero =>
    intro u h
    rw [Lib.decDigits_one (by simpa using h)]
    simp
  | succ k ih =>
    intro u h
    by_cases c : u < 10
    · rw [Lib.decDigits_one c]
      simp
    · rw [decDigits_ten c]
      have := ih (u / 10) (by rw [Nat.pow_succ] at h; omega)
      simp only [List.length_append, List.length_cons, List.length_nil]
      omega
section
variable [L : Lam]
variable {σ τ : AH} {R : AEnd → AH → Prop}
def dig (n : Nat) : ByteArray := if n < 10 then ⟨[UInt8.ofNat (48 + n)].toArray⟩ else ⟨[UInt8.ofNat (48 + n / 10)].toArray⟩ ++ ⟨[UInt8.ofNat (48 + n % 10)].toArray⟩
theorem dig_size (n : Nat) : (dig n).size ≤ 2 := by
  unfold dig
  split
  · rw [size_one]; omega
  · rw [ByteArray.size_append, size_one, size_one]; omega
theorem bytes_Lb : bytesT TT ty_Lb ty_s = true := by kernel_rfl
theorem wrap8 {x : Int} (h0 : 0 ≤ x) (h1 : x ≤ 255) : IntKind.u8.wrap x = x := by
  have e : x % (2 ^ IntKind.u8.bits : Int) = x := Int.emod_eq_of_lt h0 (by simp [IntKind.bits]; omega)
  unfold IntKind.wrap
  simp [e, IntKind.signed]
theorem c_l1Digits_one {n : Nat} (hn : n < 10) (h : R (.ret (str (dig n))) σ) : acall TP fn_spec_l1Digits [iv (n : Int)] σ R := by
  refine s_spec_l1Digits_ok ?_
  unfold s_spec_l1Digits
  have g1 : ¬ (n : Int) < 0 := by omega
  have g2 : (n : Int) < 10 := by omega
  have e2 : ibin .add (.val (.int .i64 48)) (iv (n : Int)) = some (iv (48 + (n : Int))) := ibin_add (by omega) (by omega)
  have e3 : convI .u8 (iv (48 + (n : Int))) = some (.val (.int .u8 (48 + (n : Int)))) := by
    show some (AV.val (.int .u8 (IntKind.u8.wrap (48 + (n : Int))))) = _
    rw [wrap8 (by omega) (by omega)]
  simp only [g1, g2, e2, e3, RR]
  refine ⟨by decide, ?_⟩
  rw [if_neg (by decide)]
  intro ψ hψ
  have ha : ∀ w : Int, aelems (σ.set ψ ⟨0, 1, [[.val (.int .u8 w)]]⟩) (.own ψ 0 0 1) = some [[.val (.int .u8 w)]] := fun w => by simp [aelems]
  have hb : ∀ w : Int, abytes [[.val (.int .u8 w)]] = some [UInt8.ofNat w.toNat] := fun w => rfl
  refine aconv_bytes bytes_Lb (ha _) (hb _) (by intro u h; cases h) (by intro kd n h; cases h) ?_
  have e : (⟨[UInt8.ofNat (48 + (n : Int)).toNat].toArray⟩ : ByteArray) = dig n := by
    unfold dig
    rw [if_pos hn, show (48 + (n : Int)).toNat = 48 + n by omega]
  rw [e]
  exact aret_sub (.set (.refl σ) _ hψ) h
theorem dig_dec {n : Nat} (h : n < 10) : dig n = bs (Lib.decDigits n) := by
  unfold dig
  rw [if_pos h, Lib.decDigits_one h]
theorem c_spec_l1Digits_nat : ∀ (n : Nat), n ≤ 10000000000 → ∀ {σ : AH} {R : AEnd → AH → Prop}, R (.ret (str (bs (Lib.decDigits n)))) σ → acall TP fn_spec_l1Digits [iv (n : Int)] σ R := by
  intro n
  induction n using Nat.strongRecOn with
  | _ n ih =>
    intro hn σ R h
    by_cases c : n < 10
    · refine c_l1Digits_one c ?_
      rw [dig_dec c]
      exact h
    refine s_spec_l1Digits_ok ?_
    unfold s_spec_l1Digits
    have g1 : ¬ (n : Int) < 0 := by omega
    have g2 : ¬ (n : Int) < 10 := by omega
    have e0 : ibin .quo (iv (n : Int)) (.val (.int .i64 10)) = some (iv ((n / 10 : Nat) : Int)) := by
      show some (iv (IntKind.i64.wrap ((n : Int).tdiv 10))) = _
      rw [Int.tdiv_eq_ediv_of_nonneg (by omega), i64_wrap (by omega) (by omega)]
      rfl
    have e1 : ibin .rem (iv (n : Int)) (.val (.int .i64 10)) = some (iv ((n % 10 : Nat) : Int)) := by
      show some (iv ((n : Int).tmod 10)) = _
      rw [Int.tmod_eq_emod_of_nonneg (by omega)]
      rfl
    have e2 : ibin .add (.val (.int .i64 48)) (iv ((n % 10 : Nat) : Int)) = some (iv (48 + ((n % 10 : Nat) : Int))) := ibin_add (by omega) (by omega)
    have e3 : convI .u8 (iv (48 + ((n % 10 : Nat) : Int))) = some (.val (.int .u8 (48 + ((n % 10 : Nat) : Int)))) := by
      show some (AV.val (.int .u8 (IntKind.u8.wrap _))) = _
      rw [wrap8 (by omega) (by omega)]
    have e4 : ∀ w : Int, bslR 1 [.val (.int .u8 0)] 1 [(0, .val (.int .u8 w))] = some (.ro [[.val (.int .u8 w)]]) := fun w => by
      show (if 1 * 1 ≤ 2 ^ 24 ∧ (∀ c, c ∈ [[AV.val (.int .u8 w)]] → c.length = 1) then some (if 1 = 0 then AV.emp else .ro [[.val (.int .u8 w)]]) else none) = _
      rw [if_pos ⟨by decide, by simp⟩]
      rfl
    have e5 : ∀ w : Int, b2s (.ro [[.val (.int .u8 w)]]) = some (str ⟨[UInt8.ofNat w.toNat].toArray⟩) := fun w => rfl
    simp only [g1, g2, e0, e1, e2, e3, e4, e5, RR]
    refine ih (n / 10) (by omega) (by omega) ?_
    have hl := decDigits_len 10 (n / 10) (by omega)
    have e6 := sbin_add (bs (Lib.decDigits (n / 10))) ⟨[UInt8.ofNat (48 + ((n % 10 : Nat) : Int)).toNat].toArray⟩ (by rw [size_bs, size_one]; omega)
    have e7 : bs (Lib.decDigits (n / 10)) ++ ⟨[UInt8.ofNat (48 + ((n % 10 : Nat) : Int)).toNat].toArray⟩ = bs (Lib.decDigits n) := by
      rw [decDigits_ten c, ← bs_append, show (48 + ((n % 10 : Nat) : Int)).toNat = 48 + n % 10 by omega]
    rw [e7] at e6
    refine ⟨trivial, ?_⟩
    simp only [e6, RR]
    exact ret_here h
abbrev roB (ns : List Int) : AV := .ro (ns.map fun n => [u8v n])
abbrev Sr (ns : List Int) (t : Nat) : Fam := ⟨0, 2, [[roB ns, iv (t : Int)]]⟩
structure Bts (ns : List Int) : Prop where
  b : ∀ x, x ∈ ns → 0 ≤ x ∧ x ≤ 255
  l : ns.length ≤ 1048576
theorem ibin_rem {a b : Int} (h0 : 0 ≤ a) (hb : 0 < b) : ibin .rem (.val (.int .i64 a)) (.val (.int .i64 b)) = some (.val (.int .i64 (a % b))) := by
  have e : a.tmod b = a % b := Int.tmod_eq_emod_of_nonneg h0
  have hb' : ¬ b = 0 := by omega
  simp [ibin, binV, hb', e]
theorem ibin_quo {a b : Int} (h0 : 0 ≤ a) (hb : 0 < b) (h1 : a ≤ 9223372036854775807) : ibin .quo (.val (.int .i64 a)) (.val (.int .i64 b)) = some (.val (.int .i64 (a / b))) := by
  have e : a.tdiv b = a / b := Int.tdiv_eq_ediv_of_nonneg h0
  have hb' : ¬ b = 0 := by omega
  have h2 : a / b ≤ a := Int.ediv_le_self b h0
  have h3 : 0 ≤ a / b := Int.ediv_nonneg h0 (by omega)
  have hw : IntKind.i64.wrap (a / b) = a / b := i64_wrap (by omega) (by omega)
  simp [ibin, binV, hb', e, hw]
theorem convI_u8 {n : Int} (h0 : 0 ≤ n) (h1 : n ≤ 255) : convI .i64 (u8v n) = some (iv n) := by
  show some (AV.val (.int .i64 (IntKind.i64.wrap n))) = _
  rw [i64_wrap (by omega) (by omega)]
theorem quo_le {a b : Int} (h0 : 0 ≤ a) (hb : 0 < b) : 0 ≤ a / b ∧ a / b ≤ a := ⟨Int.ediv_nonneg h0 (by omega), Int.ediv_le_self b h0⟩
theorem c_spec_l1Next {φ t : Nat} {ns : List Int} {n : Int} (hF : σ φ = some (Sr ns t)) (hb : Bts ns) (ht : t ≤ 1000000) (hn : n ≤ 1000000)
    (h : ∀ v : Int, (n < 1 → v = 0) → (1 ≤ n → 0 ≤ v ∧ v < n) → R (.ret (iv v)) (σ.set φ (Sr ns (t + 1)))) : acall TP fn_spec_l1Next [.ptr φ 0 0 0, iv n] σ R := by
  have hl := hb.l
  refine s_spec_l1Next_ok ?_
  unfold s_spec_l1Next
  have e1 := lod_at (st := 0) (i := 0) (off := 1) (c := iv (t : Int)) hF rfl rfl
  have a1 : ibin .add (iv (t : Int)) (.val (.int .i64 1)) = some (iv ((t + 1 : Nat) : Int)) := by rw [ibin_add (by omega) (by omega)]; rfl
  simp only [e1, a1, RR]
  refine sto_fld (sz := 2) (off := 1) (i := 0) (cs := [roB ns, iv (t : Int)]) (v := iv ((t + 1 : Nat) : Int)) hF rfl (by omega) rfl rfl ?_
  simp only [List.set_cons_zero, List.set_cons_succ]
  have hF1 : (σ.set φ (Sr ns (t + 1))) φ = some (Sr ns (t + 1)) := AH.set_same ..
  by_cases c0 : n < 1
  · simp only [c0, RR]; exact ret_here (h 0 (fun _ => rfl) (fun h => by omega))
  have sub1 : ibin .sub (iv ((t + 1 : Nat) : Int)) (.val (.int .i64 1)) = some (iv (t : Int)) := by
    rw [ibin_sub (by omega) (by omega)]; congr 3; omega
  have f1 := lod_at (st := 0) (i := 0) (off := 1) (c := iv ((t + 1 : Nat) : Int)) hF1 rfl rfl
  have f0 := lod_at (st := 0) (i := 0) (off := 0) (c := roB ns) hF1 rfl rfl
  have hlen : lenS (roB ns) = some (iv (ns.length : Int)) := by simp [lenS]
  have fin : ∀ v : Int, 0 ≤ v ∧ v < n → aret (iv v) (σ.set φ (Sr ns (t + 1))) R := fun v hv => ret_here (h v (fun h => by omega) (fun _ => hv))
  simp only [c0, f1, f0, sub1, hlen, RR]
  by_cases c1 : ns.length = 0
  · have g : ((ns.length : Nat) : Int) = 0 := by omega
    have m := quo_le (a := (t : Int) * 7) (b := n) (by omega) (by omega)
    have r := Int.emod_lt_of_pos ((t : Int) * 7) (by omega : 0 < n)
    have r0 := Int.emod_nonneg ((t : Int) * 7) (by omega : n ≠ 0)
    simp only [g, ibin_mul (a := (t : Int)) (b := 7) (by omega) (by omega), ibin_rem (a := (t : Int) * 7) (b := n) (by omega) (by omega), RR]
    exact fin _ ⟨r0, r⟩
  have g : ¬ ((ns.length : Nat) : Int) = 0 := by omega
  have hk : (0 : Int) < (ns.length : Int) := by omega
  have at_ : ∀ a : Int, 0 ≤ a → ∃ p, idx 1 (roB ns) (iv (a % (ns.length : Int))) (σ.set φ (Sr ns (t + 1))) = some p ∧ ∃ b : Int, lod p (σ.set φ (Sr ns (t + 1))) = some (u8v b) ∧ 0 ≤ b ∧ b ≤ 255 := by
    intro a ha
    have q0 := Int.emod_nonneg a (by omega : (ns.length : Int) ≠ 0)
    have q1 := Int.emod_lt_of_pos a hk
    have hj : (a % (ns.length : Int)).toNat < ns.length := by omega
    have p1 := idx_ro (σ := σ.set φ (Sr ns (t + 1))) (enc := fun n => [u8v n]) (sz := 1) hj (fun _ => rfl)
    rw [show (((a % (ns.length : Int)).toNat : Nat) : Int) = a % (ns.length : Int) by omega] at p1
    exact ⟨_, p1, _, rfl, hb.b _ (List.getElem_mem hj)⟩
  obtain ⟨p, p1, b, p2, b0, b1⟩ := at_ (t : Int) (by omega)
  have dq := quo_le (a := (t : Int)) (b := (ns.length : Int)) (by omega) hk
  simp only [g, ibin_rem (a := (t : Int)) (b := (ns.length : Int)) (by omega) hk, p1, p2, convI_u8 b0 b1, ibin_quo (a := (t : Int)) (b := (ns.length : Int)) (by omega) hk (by omega),
    ibin_mul (a := (t : Int) / (ns.length : Int)) (b := 37) (by omega) (by omega), ibin_add (a := b) (b := (t : Int) / (ns.length : Int) * 37) (by omega) (by omega), jn, RR]
  have last : ∀ x : Int, 0 ≤ x → og (ibin .rem (.val (.int .i64 x)) (.val (.int .i64 n))) fun v70 => aret v70 (σ.set φ (Sr ns (t + 1))) R := by
    intro x hx
    rw [ibin_rem hx (by omega)]
    exact fin _ ⟨Int.emod_nonneg _ (by omega), Int.emod_lt_of_pos _ (by omega)⟩
  by_cases c2 : 200 < n
  · obtain ⟨p', p1', b', p2', b0', b1'⟩ := at_ ((t : Int) + 1) (by omega)
    simp only [c2, f0, ibin_mul (a := b + (t : Int) / (ns.length : Int) * 37) (b := 251) (by omega) (by omega), ibin_add (a := (t : Int)) (b := 1) (by omega) (by omega),
      ibin_rem (a := (t : Int) + 1) (b := (ns.length : Int)) (by omega) hk, p1', p2', convI_u8 b0' b1', ibin_mul (a := b') (b := 13) (by omega) (by omega),
      ibin_add (a := (b + (t : Int) / (ns.length : Int) * 37) * 251) (b := b' * 13) (by omega) (by omega), ibin_add (a := (b + (t : Int) / (ns.length : Int) * 37) * 251 + b' * 13) (b := (t : Int)) (by omega) (by omega), RR]
    exact last _ (by omega)
  · simp only [c2, RR]
    exact last _ (by omega)
theorem c_spec_l1Chance {φ t : Nat} {ns : List Int} {n : Int} (hF : σ φ = some (Sr ns t)) (hb : Bts ns) (ht : t ≤ 1000000) (hn : n ≤ 1000000)
    (h : ∀ b : Bool, R (.ret (bv b)) (σ.set φ (Sr ns (t + 1)))) : acall TP fn_spec_l1Chance [.ptr φ 0 0 0, iv n] σ R := by
  refine s_spec_l1Chance_ok ?_
  unfold s_spec_l1Chance
  refine c_spec_l1Next hF hb ht hn fun v _ _ => ?_
  simp only [RR]
  exact ret_here (h _)
theorem c_spec_l1Source {ns : List Int} (h : ∀ φ, σ φ = none → R (.ret (.ptr φ 0 0 0)) (σ.set φ (Sr ns 0))) : acall TP fn_spec_l1Source [roB ns] σ R := by
  refine s_spec_l1Source_ok ?_
  unfold s_spec_l1Source
  have e : bld [(.val (.slice none 0 0)), (.val (.int .i64 0))] [(0, 1), (1, 1)] [(0, roB ns)] = some (.agg [roB ns, iv 0]) := by simp [bld, afill, acells, spl, Value.cells]
  simp only [e, abox_agg, RR]
  intro φ hφ
  exact ret_here (h φ hφ)
theorem c_laws_lwBig {ns : List Int} (h : R (.ret (bv (decide (1048576 < ns.length)))) σ) : acall TP fn_laws_lwBig [roB ns] σ R := by
  refine s_laws_lwBig_ok ?_
  unfold s_laws_lwBig
  have hlen : lenS (roB ns) = some (iv (ns.length : Int)) := by simp [lenS]
  simp only [hlen, RR]
  refine ret_here ?_
  have e : decide ((1048576 : Int) < (ns.length : Int)) = decide (1048576 < ns.length) := by congr 1; exact propext (by omega)
  rw [e]; exact h
abbrev txs (xs : List ByteArray) : List (List AV) := xs.map fun x => [str x]
abbrev nilT : AV := .val (.slice none 0 0)
structure RdS (τ : AH) (l : AV) (xs : List ByteArray) : Prop where
  len : lenS l = some (iv (xs.length : Int))
  at_ : ∀ (j : Nat) (h : j < xs.length), ∃ p, idx 1 l (iv (j : Int)) τ = some p ∧ lod p τ = some (str xs[j])
theorem RdS.ro (τ : AH) (xs : List ByteArray) : RdS τ (.ro (txs xs)) xs :=
  ⟨len_ro (fun x => [str x]) xs, fun j h => ⟨_, idx_ro (enc := fun x => [str x]) h fun _ => rfl, rfl⟩⟩
theorem RdS.nil (τ : AH) : RdS τ nilT [] := ⟨rfl, fun j h => by cases h⟩
def GLS (τ : AH) (l : AV) (xs : List ByteArray) : Prop := ((l = nilT ∨ l = .emp) ∧ xs = []) ∨ ∃ φ st out, l = .own φ st 0 xs.length ∧ τ φ = some ⟨st, 1, txs out⟩ ∧ ∀ (j : Nat) (h : j < xs.length), out[j]? = some xs[j]
theorem GLS.rd {l : AV} {xs : List ByteArray} (h : GLS τ l xs) : RdS τ l xs := by
  rcases h with ⟨rfl | rfl, rfl⟩ | ⟨φ, st, out, rfl, hF, ho⟩
  · exact .nil τ
  · exact ⟨rfl, fun j h => by cases h⟩
  · refine ⟨rfl, fun j hj => ⟨.ptr φ st j 0, ?_, ?_⟩⟩
    · have := idx_own (st := st) (off := 0) hF hj
      rwa [Nat.zero_add] at this
    · refine lod_at hF rfl ?_
      have := ho j hj
      simp [List.getD, this]
theorem GLS.one {l : AV} {xs : List ByteArray} (h : GLS τ l xs) : l.one = true := by
  rcases h with ⟨rfl | rfl, _⟩ | ⟨φ, st, out, rfl, _, _⟩ <;> rfl
theorem lenS_own {φ st off n : Nat} : lenS (.own φ st off n) = some (iv (n : Int)) := rfl
theorem none_ne' {φ ψ : Nat} {F : Fam} (h : τ φ = some F) (h2 : τ ψ = none) : φ ≠ ψ := by rintro rfl; rw [h] at h2; cases h2
theorem buf_rd {a : AV} {xs : List ByteArray} (h : Buf τ 1 a (txs xs)) : RdS τ a xs := by
  rcases h with ⟨hn, e⟩ | ⟨φ, st, rfl, hF⟩
  · have : xs = [] := by simpa [txs] using e
    subst this
    rcases hn with rfl | rfl
    · exact .nil τ
    · exact ⟨rfl, fun j h => by cases h⟩
  · have hl : (txs xs).length = xs.length := by simp [txs]
    rw [hl]
    exact GLS.rd (.inr ⟨φ, st, xs, rfl, hF, fun j hj => List.getElem?_eq_getElem hj⟩)
theorem buf_one {a : AV} {es : List (List AV)} (h : Buf τ 1 a es) : a.one = true := by
  rcases h with ⟨rfl | rfl, _⟩ | ⟨φ, st, rfl, _⟩ <;> rfl
theorem jn_by {X : Type} {B : X → AH → Prop} {E : (X → AH → Prop) → Prop} (P : X → AH → Prop) (hB : ∀ x σ, P x σ → B x σ) (hE : ∀ k : X → AH → Prop, (∀ x σ, P x σ → k x σ) → E k) : jn B E := hE B hB
end
end Go.Proofs.Ytnmggfcjbpnekaa.E
