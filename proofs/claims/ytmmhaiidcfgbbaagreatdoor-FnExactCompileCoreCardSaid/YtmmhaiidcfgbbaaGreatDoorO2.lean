/- Marks, each known: what a law writes into code that is owned. -/
import Derived.Test.YtmmhaiidcfgbbaaGreatDoorO1
set_option linter.unusedSectionVars false
set_option linter.unusedSimpArgs false
set_option linter.unusedVariables false
namespace Go.Proofs.YtmmhaiidcfgbbaaGreatDoor.E
open Go Go.RowKit
set_option maxRecDepth 100000
def mkB (a : Int) : ByteArray := ⟨[UInt8.ofNat (IntKind.u8.wrap (48 + a % 10)).toNat].toArray⟩
def mkG : Nat → Int → ByteArray → ByteArray
  | 0, _, s => s
  | f + 1, a, s => if 0 < a then mkG f (a / 10) (mkB a ++ s) else s
def mkT (k : Int) : ByteArray := if k ≤ 0 then ⟨#[109, 48]⟩ else ⟨#[109]⟩ ++ mkG k.toNat k ⟨#[]⟩
theorem mkG_pos {f : Nat} {a : Int} {s : ByteArray} (h : 0 < a) (hf : a.toNat ≤ f) : ∃ f', f = f' + 1 ∧ mkG f a s = mkG f' (a / 10) (mkB a ++ s) := by
  cases f with
  | zero => omega
  | succ f' => exact ⟨f', rfl, by rw [mkG, if_pos h]⟩
theorem mkG_end {f : Nat} {a : Int} {s : ByteArray} (h : ¬ 0 < a) : mkG f a s = s := by
  cases f with
  | zero => rfl
  | succ f => rw [mkG, if_neg h]
section
variable [L : Lam]
variable {σ τ τ' : AH} {R : AEnd → AH → Prop}
theorem c_laws_markTextX {k : Int} (h0 : 0 ≤ k) (h1 : k ≤ 9000000000000000000) (h : R (.ret (str (mkT k))) σ) : acall TP fn_laws_markText [iv k] σ R := by
  refine s_laws_markText_ok ?_
  unfold s_laws_markText
  unfold mkT at h
  by_cases c : k ≤ 0
  · rw [if_pos c] at h
    simp only [c, RR]
    exact ret_here h
  rw [if_neg c] at h
  simp only [c, RR]
  refine lp_by (fun n x τ => ∃ (a : Int) (s : ByteArray), x = (iv a, str s, ()) ∧ τ = σ ∧ 0 ≤ a ∧ a.toNat ≤ n ∧ s.size ≤ 20 ∧ a.toNat * 10 ^ s.size ≤ 9000000000000000000 ∧ mkG n a s = mkG k.toNat k ⟨#[]⟩) k.toNat ⟨k, ⟨#[]⟩, rfl, rfl, by omega, Nat.le_refl _, by rw [size_none]; omega, by rw [size_none]; omega, rfl⟩ ?_
  rintro n x τ ⟨a, s, rfl, rfl, ha, hn, hsz, hpw, hm0⟩ R' hR'
  by_cases c2 : 0 < a
  · obtain ⟨n', rfl, hm1⟩ := mkG_pos (s := s) c2 hn
    have hs19 : s.size < 19 := by
      refine Classical.byContradiction fun c3 => ?_
      have h1 : (10 : Nat) ^ 19 ≤ 10 ^ s.size := Nat.pow_le_pow_right (by omega) (by omega)
      have h2 : 1 * 10 ^ s.size ≤ a.toNat * 10 ^ s.size := Nat.mul_le_mul_right _ (by omega)
      omega
    have hm : a % 10 < 10 := Int.emod_lt_of_pos _ (by omega)
    have hmn : 0 ≤ a % 10 := Int.emod_nonneg _ (by omega)
    have e1 : ibin .rem (iv a) (.val (.int .i64 10)) = some (iv (a % 10)) := by
      show some (iv (a.tmod 10)) = _
      rw [Int.tmod_eq_emod_of_nonneg ha]
    have ha9 : a.toNat ≤ 9000000000000000000 := Nat.le_trans (Nat.le_mul_of_pos_right _ (Nat.pow_pos (by omega))) hpw
    have e2 : ibin .add (.val (.int .i64 48)) (iv (a % 10)) = some (iv (48 + a % 10)) := ibin_add (by omega) (by omega)
    have e3 : convI .u8 (iv (48 + a % 10)) = some (.val (.int .u8 (IntKind.u8.wrap (48 + a % 10)))) := rfl
    have e4 : ibin .quo (iv a) (.val (.int .i64 10)) = some (iv (a / 10)) := by
      show some (iv (IntKind.i64.wrap (a.tdiv 10))) = _
      rw [Int.tdiv_eq_ediv_of_nonneg ha, i64_wrap (by omega) (by omega)]
    simp only [c2, e1, e2, e3, RR]
    refine ⟨by decide, ?_⟩
    rw [if_neg (by decide)]
    intro ψ hψ
    have ha : ∀ w : Int, aelems (τ.set ψ ⟨0, 1, [[.val (.int .u8 w)]]⟩) (.own ψ 0 0 1) = some [[.val (.int .u8 w)]] := fun w => by simp [aelems]
    have hb : ∀ w : Int, abytes [[.val (.int .u8 w)]] = some [UInt8.ofNat w.toNat] := fun w => rfl
    refine aconv_bytes bytes_Lb (ha _) (hb _) (by intro u h; cases h) (by intro kd n h; cases h) ?_
    have es : sbin .add (.val (.string ⟨[UInt8.ofNat (IntKind.u8.wrap (48 + a % 10)).toNat].toArray⟩)) (str s) = some (str (mkB a ++ s)) := sbin_add (mkB a) s (by unfold mkB; rw [size_one]; omega)
    simp only [es, e4, RR]
    have hsz2 : (mkB a ++ s).size = s.size + 1 := by rw [ByteArray.size_append]; unfold mkB; rw [size_one]; omega
    refine hR' _ _ n' τ (by omega) (.set (.refl τ) _ hψ) ⟨a / 10, _, rfl, rfl, by omega, by omega, by omega, ?_, by rw [← hm1]; exact hm0⟩
    rw [hsz2, Nat.pow_succ]
    have h3 : (a / 10).toNat * 10 ≤ a.toNat := by omega
    calc (a / 10).toNat * (10 ^ s.size * 10) = ((a / 10).toNat * 10) * 10 ^ s.size := by rw [Nat.mul_comm (10 ^ s.size) 10, Nat.mul_assoc]
      _ ≤ a.toNat * 10 ^ s.size := Nat.mul_le_mul_right _ h3
      _ ≤ _ := hpw
  · rw [mkG_end c2] at hm0
    rw [← hm0] at h
    have es := sbin_add ⟨#[109]⟩ s (by rw [size_m]; omega)
    simp only [c2, es, RR]
    exact ret_here h
/-! ### data -/
def mkDat (k : Int) : Dat := ⟨k, k + 1, k + 1 + 1, mkT (k + 1 + 1 + 1)⟩
def mkDats (k : Int) (n : Nat) : List Dat := (List.range n).map fun i : Nat => mkDat (k + 4 * (i : Int))
theorem mkDats_len (k : Int) (n : Nat) : (mkDats k n).length = n := by simp [mkDats]
theorem mkDats_succ (k : Int) (n : Nat) : mkDats k (n + 1) = mkDats k n ++ [mkDat (k + 4 * (n : Int))] := by simp [mkDats, List.range_succ]
theorem sto_at {φ st sz off i : Nat} {pre post : List (List AV)} {r : List AV} {v : AV} {k : AH → Prop} (hp : pre.length = i) (ho : off < sz) (h1 : v.one = true) (h : k (τ.set φ ⟨st, sz, pre ++ r.set off v :: post⟩)) :
    sto 1 (.ptr φ st i off) v (τ.set φ ⟨st, sz, pre ++ r :: post⟩) k := by
  refine sto_fld (cs := r) (AH.set_same ..) (by simp [← hp]) ho (acells_one h1) h1 ?_
  have e : (pre ++ r :: post).set i (r.set off v) = pre ++ r.set off v :: post := by subst hp; simp
  rw [AH.set_set, e]
  exact h
theorem idx_at {φ st n sz i : Nat} {es : List (List AV)} (hi : i < n) : idx sz (.own φ st 0 n) (iv (i : Int)) (τ.set φ ⟨st, sz, es⟩) = some (.ptr φ st i 0) := by
  have := idx_own (st := st) (off := 0) (AH.set_same τ φ (⟨st, sz, es⟩ : Fam)) hi
  rwa [Nat.zero_add] at this
theorem buf_len {sz : Nat} {a : AV} {es : List (List AV)} (h : Buf τ sz a es) : lenS a = some (iv (es.length : Int)) := by
  rcases h with ⟨rfl | rfl, rfl⟩ | ⟨φ, st, rfl, _⟩ <;> rfl
theorem add1 {m : Int} (h0 : 0 ≤ m) (h1 : m ≤ 9100000000000000000) : ibin .add (iv m) (.val (.int .i64 1)) = some (iv (m + 1)) := ibin_add (by omega) (by omega)
theorem four_of {c : List AV} (h : c.length = 4) : ∃ c0 c1 c2 c3, c = [c0, c1, c2, c3] := by
  match c, h with
  | [c0, c1, c2, c3], _ => exact ⟨c0, c1, c2, c3, rfl⟩
theorem c_laws_markDatumSX {a : AV} {es : List (List AV)} {k : Int} (h : Buf τ 4 a es) (hc : ∀ c, c ∈ es → c.length = 4) (h0 : 0 ≤ k) (h1 : k + 4 * (es.length : Int) ≤ 9000000000000000000)
    (hR : ∀ τ', Buf τ' 4 a ((mkDats k es.length).map encDat) → (∀ ψ, ψ ∉ famL a → τ' ψ = τ ψ) → R (.ret (iv (k + 4 * (es.length : Int)))) τ') : acall TP fn_laws_markDatumS [a, iv k] τ R := by
  refine s_laws_markDatumS_ok ?_
  unfold s_laws_markDatumS
  rcases h with ⟨hn, rfl⟩ | ⟨φ, st, rfl, hF⟩
  · refine lp_same 0 (fun _ => (a, iv k, iv 0, ())) (fun _ => True) rfl trivial ?_
    intro i _ _ R' _
    have e : lenS a = some (iv 0) := by rcases hn with rfl | rfl <;> rfl
    simp only [e, RR]
    refine ret_here ?_
    have := hR τ (.inl ⟨hn, rfl⟩) (fun _ _ => rfl)
    simpa using this
  · refine lp_for es.length (fun i => (.own φ st 0 es.length, iv (k + 4 * (i : Int)), iv (i : Int), ())) (fun i σ' => σ' = τ.set φ ⟨st, 4, (mkDats k i).map encDat ++ es.drop i⟩) (by simp; rfl) (by simp [mkDats, AH.set_self hF]) ?_
    rintro i _ hi rfl R' hR'
    have el : lenS (.own φ st 0 es.length) = some (iv (es.length : Int)) := rfl
    simp only [el, RR]
    by_cases hlt : i < es.length
    · have g : (i : Int) < (es.length : Int) := by omega
      have hpl : ((mkDats k i).map encDat).length = i := by simp [mkDats]
      obtain ⟨c0, c1, c2, c3, hr⟩ := four_of (hc _ (List.getElem_mem hlt))
      have hd : es.drop i = [c0, c1, c2, c3] :: es.drop (i + 1) := by rw [List.drop_eq_getElem_cons hlt, hr]
      rw [hd]
      simp only [g, idx_at hlt, add1 (m := k + 4 * (i : Int)) (by omega) (by omega), add1 (m := k + 4 * (i : Int) + 1) (by omega) (by omega), add1 (m := k + 4 * (i : Int) + 1 + 1) (by omega) (by omega), add1 (m := k + 4 * (i : Int) + 1 + 1 + 1) (by omega) (by omega), RR]
      refine sto_at hpl (by omega) rfl ?_
      simp only [idx_at hlt, RR]
      refine sto_at hpl (by omega) rfl ?_
      simp only [idx_at hlt, RR]
      refine sto_at hpl (by omega) rfl ?_
      refine c_laws_markTextX (by omega) (by omega) ?_
      simp only [idx_at hlt, RR]
      refine sto_at hpl (by omega) rfl ?_
      simp only [ibin_up hlt (by omega), RR]
      have := hR' hlt _ _ (.refl _) rfl
      rw [mkDats_succ, List.map_append, List.append_assoc] at this
      have e : k + 4 * (i : Int) + 1 + 1 + 1 + 1 = k + 4 * ((i + 1 : Nat) : Int) := by omega
      rw [e]
      exact this
    · have g : ¬ (i : Int) < (es.length : Int) := by omega
      obtain rfl : i = es.length := by omega
      simp only [g, RR]
      refine ret_here (hR _ (.inr ⟨φ, st, by simp [mkDats], ?_⟩) fun ψ hψ => AH.set_ne' (by rintro rfl; exact hψ (by simp [famL])))
      rw [AH.set_same]; simp
/-! ### operations -/
def mkOp (k : Int) (n : Nat) : OpD := ⟨k, k + 1, k + 1 + 1, k + 1 + 1 + 1, k + 1 + 1 + 1 + 1, mkT (k + 1 + 1 + 1 + 1 + 1), mkDats (k + 1 + 1 + 1 + 1 + 1 + 1) n⟩
def opsK (k : Int) : List OpD → Int
  | [] => k
  | o :: r => opsK (k + 1 + 1 + 1 + 1 + 1 + 1 + 4 * (o.data.length : Int)) r
def mkOpsD (k : Int) : List OpD → List OpD
  | [] => []
  | o :: r => mkOp k o.data.length :: mkOpsD (k + 1 + 1 + 1 + 1 + 1 + 1 + 4 * (o.data.length : Int)) r
def mkOps (k : Int) : Its → Its
  | [] => []
  | p :: r => (mkOp k p.1.data.length, p.2) :: mkOps (k + 1 + 1 + 1 + 1 + 1 + 1 + 4 * (p.1.data.length : Int)) r
theorem opsK_le : ∀ (os : List OpD) (k : Int), k + 6 * (os.length : Int) ≤ opsK k os := by
  intro os
  induction os with
  | nil => intro k; simp [opsK]
  | cons o r ih =>
    intro k
    have := ih (k + 1 + 1 + 1 + 1 + 1 + 1 + 4 * (o.data.length : Int))
    simp only [opsK, List.length_cons]
    omega
theorem opsK_app : ∀ (a b : List OpD) (k : Int), opsK k (a ++ b) = opsK (opsK k a) b := by
  intro a
  induction a with
  | nil => intro b k; rfl
  | cons o r ih => intro b k; exact ih b _
theorem mkOps_app : ∀ (a b : Its) (k : Int), mkOps k (a ++ b) = mkOps k a ++ mkOps (opsK k (a.map (·.1))) b := by
  intro a
  induction a with
  | nil => intro b k; rfl
  | cons o r ih => intro b k; simp only [List.cons_append, mkOps, List.map_cons, opsK, ih]
theorem mkOps_len : ∀ (a : Its) (k : Int), (mkOps k a).length = a.length := by
  intro a
  induction a with
  | nil => intro k; rfl
  | cons o r ih => intro k; simp [mkOps, ih]
theorem mkOps_fst : ∀ (a : Its) (k : Int), (mkOps k a).map (·.1) = mkOpsD k (a.map (·.1)) := by
  intro a
  induction a with
  | nil => intro k; rfl
  | cons o r ih => intro k; simp [mkOps, mkOpsD, ih]
theorem itsF_mkOps : ∀ (a : Its) (k : Int), itsF (mkOps k a) = itsF a := by
  intro a
  induction a with
  | nil => intro k; rfl
  | cons o r ih => intro k; rw [mkOps, itsF_cons, itsF_cons, ih]
theorem mkOpsD_len : ∀ (a : List OpD) (k : Int), (mkOpsD k a).length = a.length := by
  intro a
  induction a with
  | nil => intro k; rfl
  | cons o r ih => intro k; simp [mkOpsD, ih]
abbrev encIt (p : OpD × AV) : List AV := encOpA p.1 p.2
theorem c_laws_markOpSX {v : AV} {its : Its} {k : Int} (h : OpsH τ v its) (hnd : (opsF' v its).Nodup) (h0 : 0 ≤ k) (h1 : opsK k (its.map (·.1)) ≤ 9000000000000000000)
    (hR : ∀ τ', OpsH τ' v (mkOps k its) → (∀ ψ, ψ ∉ opsF' v its → τ' ψ = τ ψ) → R (.ret (iv (opsK k (its.map (·.1))))) τ') : acall TP fn_laws_markOpS [v, iv k] τ R := by
  refine s_laws_markOpS_ok ?_
  unfold s_laws_markOpS
  refine lp_by (fun n x τ' => ∃ don rest : Its, its = don ++ rest ∧ rest.length = n ∧ x = (v, iv (opsK k (don.map (·.1))), iv (don.length : Int), ()) ∧ Buf τ' 7 v ((mkOps k don ++ rest).map encIt) ∧ ItsH τ' (mkOps k don) ∧ ItsH τ' rest ∧
      ∀ ψ, ψ ∉ famL v → ψ ∉ itsF don → τ' ψ = τ ψ) its.length ⟨[], its, rfl, rfl, rfl, h.1, (fun p hp => by cases hp), h.2, fun _ _ _ => rfl⟩ ?_
  rintro n x τ1 ⟨don, rest, hit, hrl, rfl, hB, hD, hT, hfr⟩ R' hR'
  have hlen := buf_len hB
  have hle : ((mkOps k don ++ rest).map encIt).length = don.length + rest.length := by simp [mkOps_len]
  rw [hle] at hlen
  simp only [hlen, RR]
  cases rest with
  | nil =>
    have g : ¬ (don.length : Int) < ((don.length + ([] : Its).length : Nat) : Int) := by simp
    simp only [g, RR]
    rw [List.append_nil] at hit
    subst hit
    rw [List.append_nil] at hB
    refine ret_here (hR τ1 ⟨hB, hD⟩ fun ψ hψ => hfr ψ (fun c => hψ (List.mem_append_left _ c)) fun c => hψ (List.mem_append_right _ c))
  | cons p r =>
    have g : (don.length : Int) < ((don.length + (p :: r).length : Nat) : Int) := by simp; omega
    have hi : don.length < don.length + (p :: r).length := by simp
    have hpl : ((mkOps k don).map encIt).length = don.length := by simp [mkOps_len]
    obtain ⟨φ, st, rfl, hF⟩ := buf_own hB (by simp)
    rw [hle] at hlen ⊢
    have hk1 := opsK_le (don.map (·.1)) k
    have hk2 : opsK k (its.map (·.1)) = opsK (opsK k (don.map (·.1)) + 1 + 1 + 1 + 1 + 1 + 1 + 4 * (p.1.data.length : Int)) (r.map (·.1)) := by
      rw [hit, List.map_append, opsK_app]; rfl
    have hk3 := opsK_le (r.map (·.1)) (opsK k (don.map (·.1)) + 1 + 1 + 1 + 1 + 1 + 1 + 4 * (p.1.data.length : Int))
    generalize hm : opsK k (don.map (·.1)) = m at *
    have hm0 : 0 ≤ m := by simp at hk1; omega
    have hm9 : m + 1 + 1 + 1 + 1 + 1 + 1 + 4 * (p.1.data.length : Int) ≤ 9000000000000000000 := by simp at hk3; omega
    have hset : τ1 = τ1.set φ ⟨st, 7, (mkOps k don).map encIt ++ encIt p :: r.map encIt⟩ := by
      rw [AH.set_self]; rw [hF]; simp
    -- families
    have hnd2 : (famL (.own φ st 0 (don.length + (p :: r).length)) ++ (itsF don ++ (famL p.2 ++ itsF r))).Nodup := by
      have := hnd
      rw [opsF', hit, itsF_append, itsF_cons, hle] at this
      exact this
    obtain ⟨_, hnd3, hnd4⟩ := nodup_app.1 hnd2
    obtain ⟨_, hnd5, hnd6⟩ := nodup_app.1 hnd3
    obtain ⟨_, _, hnd7⟩ := nodup_app.1 hnd5
    have hφp : φ ∉ famL p.2 := fun c => hnd4 φ (by simp [famL]) (by simp [c])
    have hφr : φ ∉ itsF r := fun c => hnd4 φ (by simp [famL]) (by simp [c])
    have hφd : φ ∉ itsF don := fun c => hnd4 φ (by simp [famL]) (by simp [c])
    simp only [g, RR]
    rw [hset]
    simp only [idx_at hi, add1 (m := m) (by omega) (by omega), add1 (m := m + 1) (by omega) (by omega), add1 (m := m + 1 + 1) (by omega) (by omega), add1 (m := m + 1 + 1 + 1) (by omega) (by omega), add1 (m := m + 1 + 1 + 1 + 1) (by omega) (by omega), add1 (m := m + 1 + 1 + 1 + 1 + 1) (by omega) (by omega), RR]
    refine sto_at hpl (by omega) rfl ?_
    simp only [idx_at hi, RR]
    refine sto_at hpl (by omega) rfl ?_
    simp only [idx_at hi, RR]
    refine sto_at hpl (by omega) rfl ?_
    simp only [idx_at hi, RR]
    refine sto_at hpl (by omega) rfl ?_
    simp only [idx_at hi, RR]
    refine sto_at hpl (by omega) rfl ?_
    refine c_laws_markTextX (by omega) (by omega) ?_
    simp only [idx_at hi, RR]
    refine sto_at hpl (by omega) rfl ?_
    have erow : (((((( encIt p).set 0 (iv m)).set 1 (iv (m + 1))).set 2 (iv (m + 1 + 1))).set 3 (iv (m + 1 + 1 + 1))).set 4 (iv (m + 1 + 1 + 1 + 1))).set 5 (str (mkT (m + 1 + 1 + 1 + 1 + 1))) = [iv m, iv (m + 1), iv (m + 1 + 1), iv (m + 1 + 1 + 1), iv (m + 1 + 1 + 1 + 1), str (mkT (m + 1 + 1 + 1 + 1 + 1)), p.2] := rfl
    rw [erow]
    generalize hτ2 : τ1.set φ ⟨st, 7, (mkOps k don).map encIt ++ [iv m, iv (m + 1), iv (m + 1 + 1), iv (m + 1 + 1 + 1), iv (m + 1 + 1 + 1 + 1), str (mkT (m + 1 + 1 + 1 + 1 + 1)), p.2] :: r.map encIt⟩ = τ2
    have hF2 : τ2 φ = some ⟨st, 7, (mkOps k don).map encIt ++ [iv m, iv (m + 1), iv (m + 1 + 1), iv (m + 1 + 1 + 1), iv (m + 1 + 1 + 1 + 1), str (mkT (m + 1 + 1 + 1 + 1 + 1)), p.2] :: r.map encIt⟩ := by rw [← hτ2, AH.set_same]
    have h2 : ∀ ψ, ψ ≠ φ → τ2 ψ = τ1 ψ := fun ψ hψ => by rw [← hτ2, AH.set_ne' hψ]
    have el : lod (.ptr φ st don.length 6) τ2 = some p.2 := lod_at hF2 rfl (by simp [List.getD, List.getElem?_append_right, hpl, mkOps_len])
    have ix : idx 7 (.own φ st 0 (don.length + (p :: r).length)) (iv (don.length : Int)) τ2 = some (.ptr φ st don.length 0) := by rw [← hτ2]; exact idx_at hi
    simp only [ix, el, RR]
    have hBp : Buf τ2 4 p.2 (p.1.data.map encDat) := buf_keep (hT p (by simp)) fun ψ hψ => h2 ψ (by rintro rfl; exact hφp hψ)
    have el2 : (p.1.data.map encDat).length = p.1.data.length := by simp
    refine c_laws_markDatumSX hBp (by intro c hc; obtain ⟨x, _, rfl⟩ := List.mem_map.1 hc; rfl) (by omega) (by rw [el2]; omega) fun τ3 hB3 hfr3 => ?_
    rw [el2] at hB3 ⊢
    simp only [ibin_up hi (by simp at hk1 hk3 ⊢; omega), RR]
    have hFm : (m + 1 + 1 + 1 + 1 + 1 + 1 + 4 * (p.1.data.length : Int)) = opsK k ((don ++ [p]).map (·.1)) := by rw [List.map_append, opsK_app, hm]; rfl
    have emk : mkOps k (don ++ [p]) = mkOps k don ++ [(mkOp m p.1.data.length, p.2)] := by rw [mkOps_app, hm]; rfl
    refine hR' _ _ r.length τ3 (by rw [← hrl]; simp) (.refl _) ⟨don ++ [p], r, by simp [hit], rfl, ?_, ?_, ?_, ?_, ?_⟩
    · rw [hFm, hle]; simp; rfl
    · refine .inr ⟨φ, st, ?_, ?_⟩
      · simp [mkOps_len]; omega
      · rw [hfr3 φ hφp, hF2, emk]
        simp [encIt, encOpA, mkOp]
    · rw [emk]
      intro q hq
      rcases List.mem_append.1 hq with hq | hq
      · refine buf_keep (hD q hq) fun ψ hψ => ?_
        have hψd : ψ ∈ itsF don := by rw [← itsF_mkOps don k]; exact List.mem_flatMap.2 ⟨q, hq, hψ⟩
        rw [hfr3 ψ fun c => hnd6 ψ hψd (by simp [c]), h2 ψ (by rintro rfl; exact hφd hψd)]
      · obtain rfl : q = (mkOp m p.1.data.length, p.2) := by simpa using hq
        exact hB3
    · intro q hq
      refine buf_keep (hT q (by simp [hq])) fun ψ hψ => ?_
      have hψr : ψ ∈ itsF r := List.mem_flatMap.2 ⟨q, hq, hψ⟩
      rw [hfr3 ψ fun c => hnd7 ψ c hψr, h2 ψ (by rintro rfl; exact hφr hψr)]
    · intro ψ hψ hψd
      rw [itsF_append] at hψd
      have hψd1 : ψ ∉ itsF don := fun c => hψd (List.mem_append_left _ c)
      have hψp : ψ ∉ famL p.2 := fun c => hψd (List.mem_append_right _ (by simp [itsF, c]))
      rw [hfr3 ψ hψp, h2 ψ (by rintro rfl; exact hψ (by simp [famL]))]
      exact hfr ψ hψ hψd1
end
end Go.Proofs.YtmmhaiidcfgbbaaGreatDoor.E
