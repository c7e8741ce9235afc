import Derived.Test.YtlggnigbemghgaaGreatDoorP19
/- Code that is owned: lists of blocks, of operations, of data, each in a family of its own. -/
set_option linter.unusedSectionVars false
set_option linter.unusedSimpArgs false
set_option linter.unusedVariables false
namespace Go.Proofs.YtlggnigbemghgaaGreatDoor.E
open Go Go.RowKit
set_option maxRecDepth 100000
/-- The families in which a slice lies. -/
def famL : AV → List Nat
  | .own φ _ _ _ => [φ]
  | _ => []
theorem famL_mem {a : AV} {ψ : Nat} : ψ ∈ famL a ↔ Buf.fam a ψ := by
  constructor
  · intro h
    cases a with
    | own φ st off n =>
      obtain rfl : ψ = φ := by simpa [famL] using h
      exact ⟨st, off, n, rfl⟩
    | _ => simp [famL] at h
  · rintro ⟨st, off, n, rfl⟩
    simp [famL]
/-- Operations: what they say, and the slice of each one's data. -/
abbrev Its := List (OpD × AV)
def itsF (its : Its) : List Nat := its.flatMap fun p => famL p.2
def opsF' (v : AV) (its : Its) : List Nat := famL v ++ itsF its
structure BI where
  args : Int
  av : AV
  its : Its
def biF (b : BI) : List Nat := opsF' b.av b.its
def blksF (v : AV) (bs : List BI) : List Nat := famL v ++ bs.flatMap biF
section
variable [L : Lam]
variable {σ τ τ' : AH} {R : AEnd → AH → Prop}
def ItsH (τ : AH) (its : Its) : Prop := ∀ p, p ∈ its → Buf τ 4 p.2 (p.1.data.map encDat)
def OpsH (τ : AH) (v : AV) (its : Its) : Prop := Buf τ 7 v (its.map fun p => encOpA p.1 p.2) ∧ ItsH τ its
def BlksH (τ : AH) (v : AV) (bs : List BI) : Prop := Buf τ 2 v (bs.map fun b => [iv b.args, b.av]) ∧ ∀ b, b ∈ bs → OpsH τ b.av b.its
theorem buf_keep {sz : Nat} {a : AV} {es : List (List AV)} (h : Buf τ sz a es) (k : ∀ ψ, ψ ∈ famL a → τ' ψ = τ ψ) : Buf τ' sz a es := h.keep fun ψ hf => k ψ (famL_mem.2 hf)
theorem ItsH.keep {its : Its} (h : ItsH τ its) (k : ∀ ψ, ψ ∈ itsF its → τ' ψ = τ ψ) : ItsH τ' its :=
  fun p hp => buf_keep (h p hp) fun ψ hψ => k ψ (List.mem_flatMap.2 ⟨p, hp, hψ⟩)
theorem OpsH.keep {v : AV} {its : Its} (h : OpsH τ v its) (k : ∀ ψ, ψ ∈ opsF' v its → τ' ψ = τ ψ) : OpsH τ' v its :=
  ⟨buf_keep h.1 fun ψ hψ => k ψ (List.mem_append_left _ hψ), h.2.keep fun ψ hψ => k ψ (List.mem_append_right _ hψ)⟩
theorem BlksH.keep {v : AV} {bs : List BI} (h : BlksH τ v bs) (k : ∀ ψ, ψ ∈ blksF v bs → τ' ψ = τ ψ) : BlksH τ' v bs :=
  ⟨buf_keep h.1 fun ψ hψ => k ψ (List.mem_append_left _ hψ), fun b hb => (h.2 b hb).keep fun ψ hψ => k ψ (List.mem_append_right _ (List.mem_flatMap.2 ⟨b, hb, hψ⟩))⟩
theorem buf_live {sz : Nat} {a : AV} {es : List (List AV)} (h : Buf τ sz a es) {ψ : Nat} (hm : ψ ∈ famL a) : ∃ F, τ ψ = some F := h.fam_some (famL_mem.1 hm)
theorem ItsH.live {its : Its} (h : ItsH τ its) {ψ : Nat} (hm : ψ ∈ itsF its) : ∃ F, τ ψ = some F := by
  obtain ⟨p, hp, hψ⟩ := List.mem_flatMap.1 hm
  exact buf_live (h p hp) hψ
theorem OpsH.live {v : AV} {its : Its} (h : OpsH τ v its) {ψ : Nat} (hm : ψ ∈ opsF' v its) : ∃ F, τ ψ = some F := by
  rcases List.mem_append.1 hm with hm | hm
  · exact buf_live h.1 hm
  · exact h.2.live hm
theorem BlksH.live {v : AV} {bs : List BI} (h : BlksH τ v bs) {ψ : Nat} (hm : ψ ∈ blksF v bs) : ∃ F, τ ψ = some F := by
  rcases List.mem_append.1 hm with hm | hm
  · exact buf_live h.1 hm
  · obtain ⟨b, hb, hψ⟩ := List.mem_flatMap.1 hm
    exact (h.2 b hb).live hψ
/-! ### frozen -/
theorem buf_own {sz : Nat} {a : AV} {es : List (List AV)} (h : Buf τ sz a es) (hn : es ≠ []) : ∃ φ st, a = .own φ st 0 es.length ∧ τ φ = some ⟨st, sz, es⟩ := by
  rcases h with ⟨_, e⟩ | h
  · exact absurd e hn
  · exact h
theorem fz_row {sz : Nat} {a : AV} {es fs : List (List AV)} (h : Buf τ sz a es) (h0 : ∀ ψ, ψ ∈ famL a → σ ψ = none) (hl : fs.length = es.length) (hz : ∀ c, c ∈ fs → c.length = sz)
    (hc : ∀ i j, i < es.length → j < sz → Fz σ τ ((es.getD i []).getD j .any) ((fs.getD i []).getD j .any)) : Fz σ τ a (.ro fs) := by
  rcases h with ⟨e1, e⟩ | ⟨φ, st, rfl, hF⟩
  · subst e
    have : fs = [] := List.length_eq_zero_iff.1 hl
    subst this
    rcases e1 with rfl | rfl
    · exact .nil
    · exact .emp
  · refine .own hF (h0 φ (by simp [famL])) rfl (by simp) hl (fun i hi => ?_) (fun i j hi hj => ?_)
    · have hi' : i < fs.length := by omega
      have e : fs.getD i [] = fs[i] := by simp [List.getD, hi']
      rw [e]; exact hz _ (List.getElem_mem hi')
    · rw [Nat.zero_add]; exact hc i j hi hj
theorem fz_data {a : AV} {ds : List Dat} (h : Buf τ 4 a (ds.map encDat)) (h0 : ∀ ψ, ψ ∈ famL a → σ ψ = none) : Fz σ τ a (roD ds) :=
  fz_row h h0 rfl (by intro c hc; obtain ⟨x, _, rfl⟩ := List.mem_map.1 hc; rfl) fun _ _ _ _ => .same _
theorem fz_ops {v : AV} {its : Its} (h : OpsH τ v its) (h0 : ∀ ψ, ψ ∈ opsF' v its → σ ψ = none) : Fz σ τ v (roO (its.map (·.1))) := by
  refine fz_row h.1 (fun ψ hψ => h0 ψ (List.mem_append_left _ hψ)) (by simp) (by intro c hc; obtain ⟨x, _, rfl⟩ := List.mem_map.1 hc; rfl) fun i j hi hj => ?_
  have hi' : i < its.length := by simpa using hi
  have e1 : (its.map fun p => encOpA p.1 p.2).getD i [] = encOpA its[i].1 its[i].2 := by simp [List.getD, hi']
  have e2 : ((its.map (·.1)).map encOp).getD i [] = encOp its[i].1 := by simp [List.getD, hi']
  rw [e1, e2]
  match j, hj with
  | 0, _ => exact .same _
  | 1, _ => exact .same _
  | 2, _ => exact .same _
  | 3, _ => exact .same _
  | 4, _ => exact .same _
  | 5, _ => exact .same _
  | 6, _ => exact fz_data (h.2 _ (List.getElem_mem hi')) fun ψ hψ => h0 ψ (List.mem_append_right _ (List.mem_flatMap.2 ⟨_, List.getElem_mem hi', hψ⟩))
/-- What the blocks say. -/
def cont (bs : List BI) : List Blk := bs.map fun b => ⟨b.args, b.its.map (·.1)⟩
theorem fz_blks {v : AV} {bs : List BI} (h : BlksH τ v bs) (h0 : ∀ ψ, ψ ∈ blksF v bs → σ ψ = none) : Fz σ τ v (roBk (cont bs)) := by
  refine fz_row h.1 (fun ψ hψ => h0 ψ (List.mem_append_left _ hψ)) (by simp [cont]) (by intro c hc; obtain ⟨x, _, rfl⟩ := List.mem_map.1 hc; rfl) fun i j hi hj => ?_
  have hi' : i < bs.length := by simpa using hi
  have e1 : (bs.map fun b => [iv b.args, b.av]).getD i [] = [iv bs[i].args, bs[i].av] := by simp [List.getD, hi']
  have e2 : ((cont bs).map encBlk).getD i [] = [iv bs[i].args, roO (bs[i].its.map (·.1))] := by simp [cont, List.getD, hi', encBlk]
  rw [e1, e2]
  match j, hj with
  | 0, _ => exact .same _
  | 1, _ => exact fz_ops (h.2 _ (List.getElem_mem hi')) fun ψ hψ => h0 ψ (List.mem_append_right _ (List.mem_flatMap.2 ⟨_, List.getElem_mem hi', hψ⟩))
/-! ### lists and their families -/
theorem itsF_append (a b : Its) : itsF (a ++ b) = itsF a ++ itsF b := by simp [itsF]
theorem itsF_cons (p : OpD × AV) (r : Its) : itsF (p :: r) = famL p.2 ++ itsF r := by simp [itsF]
theorem nodup_app {a b : List Nat} : (a ++ b).Nodup ↔ a.Nodup ∧ b.Nodup ∧ ∀ x, x ∈ a → x ∉ b := by
  rw [List.nodup_append]
  constructor
  · rintro ⟨h1, h2, h3⟩
    exact ⟨h1, h2, fun x hx hb => h3 x hx x hb rfl⟩
  · rintro ⟨h1, h2, h3⟩
    exact ⟨h1, h2, fun x hx y hy e => h3 x hx (e ▸ hy)⟩
theorem famL_nodup (a : AV) : (famL a).Nodup := by cases a <;> simp [famL]
end
end Go.Proofs.YtlggnigbemghgaaGreatDoor.E
/- Marks, each known: what a law writes into code that is owned. -/
set_option linter.unusedSectionVars false
set_option linter.unusedSimpArgs false
set_option linter.unusedVariables false
namespace Go.Proofs.YtlggnigbemghgaaGreatDoor.E
open Go Go.RowKit
set_option maxRecDepth 100000
def mkB (a : Int) : ByteArray := ⟨[UInt8.ofNat (IntKind.u8.wrap (48 + a % 10)).toNat].toArray⟩
def mkG : Nat → Int → ByteArray → ByteArray
  | 0, _, s => s
  | f + 1, a, s => if 0 < a then mkG f (a / 10) (mkB a ++ s) else s
def mkT (k : Int) : ByteArray := if k ≤ 0 then ⟨#[109, 48]⟩ else ⟨#[109]⟩ ++ mkG k.toNat k ⟨#[]⟩
theorem mkG_pos {f : Nat} {a : Int} {s : ByteArray} (h : 0 < a) (hf : a.toNat ≤ f) : ∃ f', f = f' + 1 ∧ mkG f a s = mkG f' (a / 10) (mkB a ++ s) := by
  cases f with
  | zero => omega
  | succ f' => exact ⟨f', rfl, by rw [mkG, if_pos h]⟩
theorem mkG_end {f : Nat} {a : Int} {s : ByteArray} (h : ¬ 0 < a) : mkG f a s = s := by
  cases f with
  | zero => rfl
  | succ f => rw [mkG, if_neg h]
section
variable [L : Lam]
variable {σ τ τ' : AH} {R : AEnd → AH → Prop}
theorem c_laws_markTextX {k : Int} (h0 : 0 ≤ k) (h1 : k ≤ 9000000000000000000) (h : R (.ret (str (mkT k))) σ) : acall TP fn_laws_markText [iv k] σ R := by
  refine s_laws_markText_ok ?_
  unfold s_laws_markText
  unfold mkT at h
  by_cases c : k ≤ 0
  · rw [if_pos c] at h
    simp only [c, RR]
    exact ret_here h
  rw [if_neg c] at h
  simp only [c, RR]
  refine lp_by (fun n x τ => ∃ (a : Int) (s : ByteArray), x = (iv a, str s, ()) ∧ τ = σ ∧ 0 ≤ a ∧ a.toNat ≤ n ∧ s.size ≤ 20 ∧ a.toNat * 10 ^ s.size ≤ 9000000000000000000 ∧ mkG n a s = mkG k.toNat k ⟨#[]⟩) k.toNat ⟨k, ⟨#[]⟩, rfl, rfl, by omega, Nat.le_refl _, by rw [size_none]; omega, by rw [size_none]; omega, rfl⟩ ?_
  rintro n x τ ⟨a, s, rfl, rfl, ha, hn, hsz, hpw, hm0⟩ R' hR'
  by_cases c2 : 0 < a
  · obtain ⟨n', rfl, hm1⟩ := mkG_pos (s := s) c2 hn
    have hs19 : s.size < 19 := by
      refine Classical.byContradiction fun c3 => ?_
      have h1 : (10 : Nat) ^ 19 ≤ 10 ^ s.size := Nat.pow_le_pow_right (by omega) (by omega)
      have h2 : 1 * 10 ^ s.size ≤ a.toNat * 10 ^ s.size := Nat.mul_le_mul_right _ (by omega)
      omega
    have hm : a % 10 < 10 := Int.emod_lt_of_pos _ (by omega)
    have hmn : 0 ≤ a % 10 := Int.emod_nonneg _ (by omega)
    have e1 : ibin .rem (iv a) (.val (.int .i64 10)) = some (iv (a % 10)) := by
      show some (iv (a.tmod 10)) = _
      rw [Int.tmod_eq_emod_of_nonneg ha]
    have ha9 : a.toNat ≤ 9000000000000000000 := Nat.le_trans (Nat.le_mul_of_pos_right _ (Nat.pow_pos (by omega))) hpw
    have e2 : ibin .add (.val (.int .i64 48)) (iv (a % 10)) = some (iv (48 + a % 10)) := ibin_add (by omega) (by omega)
    have e3 : convI .u8 (iv (48 + a % 10)) = some (.val (.int .u8 (IntKind.u8.wrap (48 + a % 10)))) := rfl
    have e4 : ibin .quo (iv a) (.val (.int .i64 10)) = some (iv (a / 10)) := by
      show some (iv (IntKind.i64.wrap (a.tdiv 10))) = _
      rw [Int.tdiv_eq_ediv_of_nonneg ha, i64_wrap (by omega) (by omega)]
    simp only [c2, e1, e2, e3, RR]
    refine ⟨by decide, ?_⟩
    rw [if_neg (by decide)]
    intro ψ hψ
    have ha : ∀ w : Int, aelems (τ.set ψ ⟨0, 1, [[.val (.int .u8 w)]]⟩) (.own ψ 0 0 1) = some [[.val (.int .u8 w)]] := fun w => by simp [aelems]
    have hb : ∀ w : Int, abytes [[.val (.int .u8 w)]] = some [UInt8.ofNat w.toNat] := fun w => rfl
    refine aconv_bytes bytes_Lb (ha _) (hb _) (by intro u h; cases h) (by intro kd n h; cases h) ?_
    have es : sbin .add (.val (.string ⟨[UInt8.ofNat (IntKind.u8.wrap (48 + a % 10)).toNat].toArray⟩)) (str s) = some (str (mkB a ++ s)) := sbin_add (mkB a) s (by unfold mkB; rw [size_one]; omega)
    simp only [es, e4, RR]
    have hsz2 : (mkB a ++ s).size = s.size + 1 := by rw [ByteArray.size_append]; unfold mkB; rw [size_one]; omega
    refine hR' _ _ n' τ (by omega) (.set (.refl τ) _ hψ) ⟨a / 10, _, rfl, rfl, by omega, by omega, by omega, ?_, by rw [← hm1]; exact hm0⟩
    rw [hsz2, Nat.pow_succ]
    have h3 : (a / 10).toNat * 10 ≤ a.toNat := by omega
    calc (a / 10).toNat * (10 ^ s.size * 10) = ((a / 10).toNat * 10) * 10 ^ s.size := by rw [Nat.mul_comm (10 ^ s.size) 10, Nat.mul_assoc]
      _ ≤ a.toNat * 10 ^ s.size := Nat.mul_le_mul_right _ h3
      _ ≤ _ := hpw
  · rw [mkG_end c2] at hm0
    rw [← hm0] at h
    have es := sbin_add ⟨#[109]⟩ s (by rw [size_m]; omega)
    simp only [c2, es, RR]
    exact ret_here h
/-! ### data -/
def mkDat (k : Int) : Dat := ⟨k, k + 1, k + 1 + 1, mkT (k + 1 + 1 + 1)⟩
def mkDats (k : Int) (n : Nat) : List Dat := (List.range n).map fun i : Nat => mkDat (k + 4 * (i : Int))
theorem mkDats_len (k : Int) (n : Nat) : (mkDats k n).length = n := by simp [mkDats]
theorem mkDats_succ (k : Int) (n : Nat) : mkDats k (n + 1) = mkDats k n ++ [mkDat (k + 4 * (n : Int))] := by simp [mkDats, List.range_succ]
theorem sto_at {φ st sz off i : Nat} {pre post : List (List AV)} {r : List AV} {v : AV} {k : AH → Prop} (hp : pre.length = i) (ho : off < sz) (h1 : v.one = true) (h : k (τ.set φ ⟨st, sz, pre ++ r.set off v :: post⟩)) :
    sto 1 (.ptr φ st i off) v (τ.set φ ⟨st, sz, pre ++ r :: post⟩) k := by
  refine sto_fld (cs := r) (AH.set_same ..) (by simp [← hp]) ho (acells_one h1) h1 ?_
  have e : (pre ++ r :: post).set i (r.set off v) = pre ++ r.set off v :: post := by subst hp; simp
  rw [AH.set_set, e]
  exact h
theorem idx_at {φ st n sz i : Nat} {es : List (List AV)} (hi : i < n) : idx sz (.own φ st 0 n) (iv (i : Int)) (τ.set φ ⟨st, sz, es⟩) = some (.ptr φ st i 0) := by
  have := idx_own (st := st) (off := 0) (AH.set_same τ φ (⟨st, sz, es⟩ : Fam)) hi
  rwa [Nat.zero_add] at this
theorem buf_len {sz : Nat} {a : AV} {es : List (List AV)} (h : Buf τ sz a es) : lenS a = some (iv (es.length : Int)) := by
  rcases h with ⟨rfl | rfl, rfl⟩ | ⟨φ, st, rfl, _⟩ <;> rfl
theorem add1 {m : Int} (h0 : 0 ≤ m) (h1 : m ≤ 9100000000000000000) : ibin .add (iv m) (.val (.int .i64 1)) = some (iv (m + 1)) := ibin_add (by omega) (by omega)
theorem four_of {c : List AV} (h : c.length = 4) : ∃ c0 c1 c2 c3, c = [c0, c1, c2, c3] := by
  match c, h with
  | [c0, c1, c2, c3], _ => exact ⟨c0, c1, c2, c3, rfl⟩
theorem c_laws_markDatumSX {a : AV} {es : List (List AV)} {k : Int} (h : Buf τ 4 a es) (hc : ∀ c, c ∈ es → c.length = 4) (h0 : 0 ≤ k) (h1 : k + 4 * (es.length : Int) ≤ 9000000000000000000)
    (hR : ∀ τ', Buf τ' 4 a ((mkDats k es.length).map encDat) → (∀ ψ, ψ ∉ famL a → τ' ψ = τ ψ) → R (.ret (iv (k + 4 * (es.length : Int)))) τ') : acall TP fn_laws_markDatumS [a, iv k] τ R := by
  refine s_laws_markDatumS_ok ?_
  unfold s_laws_markDatumS
  rcases h with ⟨hn, rfl⟩ | ⟨φ, st, rfl, hF⟩
  · refine lp_same 0 (fun _ => (a, iv k, iv 0, ())) (fun _ => True) rfl trivial ?_
    intro i _ _ R' _
    have e : lenS a = some (iv 0) := by rcases hn with rfl | rfl <;> rfl
    simp only [e, RR]
    refine ret_here ?_
    have := hR τ (.inl ⟨hn, rfl⟩) (fun _ _ => rfl)
    simpa using this
  · refine lp_for es.length (fun i => (.own φ st 0 es.length, iv (k + 4 * (i : Int)), iv (i : Int), ())) (fun i σ' => σ' = τ.set φ ⟨st, 4, (mkDats k i).map encDat ++ es.drop i⟩) (by simp; rfl) (by simp [mkDats, AH.set_self hF]) ?_
    rintro i _ hi rfl R' hR'
    have el : lenS (.own φ st 0 es.length) = some (iv (es.length : Int)) := rfl
    simp only [el, RR]
    by_cases hlt : i < es.length
    · have g : (i : Int) < (es.length : Int) := by omega
      have hpl : ((mkDats k i).map encDat).length = i := by simp [mkDats]
      obtain ⟨c0, c1, c2, c3, hr⟩ := four_of (hc _ (List.getElem_mem hlt))
      have hd : es.drop i = [c0, c1, c2, c3] :: es.drop (i + 1) := by rw [List.drop_eq_getElem_cons hlt, hr]
      rw [hd]
      simp only [g, idx_at hlt, add1 (m := k + 4 * (i : Int)) (by omega) (by omega), add1 (m := k + 4 * (i : Int) + 1) (by omega) (by omega), add1 (m := k + 4 * (i : Int) + 1 + 1) (by omega) (by omega), add1 (m := k + 4 * (i : Int) + 1 + 1 + 1) (by omega) (by omega), RR]
      refine sto_at hpl (by omega) rfl ?_
      simp only [idx_at hlt, RR]
      refine sto_at hpl (by omega) rfl ?_
      simp only [idx_at hlt, RR]
      refine sto_at hpl (by omega) rfl ?_
      refine c_laws_markTextX (by omega) (by omega) ?_
      simp only [idx_at hlt, RR]
      refine sto_at hpl (by omega) rfl ?_
      simp only [ibin_up hlt (by omega), RR]
      have := hR' hlt _ _ (.refl _) rfl
      rw [mkDats_succ, List.map_append, List.append_assoc] at this
      have e : k + 4 * (i : Int) + 1 + 1 + 1 + 1 = k + 4 * ((i + 1 : Nat) : Int) := by omega
      rw [e]
      exact this
    · have g : ¬ (i : Int) < (es.length : Int) := by omega
      obtain rfl : i = es.length := by omega
      simp only [g, RR]
      refine ret_here (hR _ (.inr ⟨φ, st, by simp [mkDats], ?_⟩) fun ψ hψ => AH.set_ne' (by rintro rfl; exact hψ (by simp [famL])))
      rw [AH.set_same]; simp
/-! ### operations -/
def mkOp (k : Int) (n : Nat) : OpD := ⟨k, k + 1, k + 1 + 1, k + 1 + 1 + 1, k + 1 + 1 + 1 + 1, mkT (k + 1 + 1 + 1 + 1 + 1), mkDats (k + 1 + 1 + 1 + 1 + 1 + 1) n⟩
def opsK (k : Int) : List OpD → Int
  | [] => k
  | o :: r => opsK (k + 1 + 1 + 1 + 1 + 1 + 1 + 4 * (o.data.length : Int)) r
def mkOpsD (k : Int) : List OpD → List OpD
  | [] => []
  | o :: r => mkOp k o.data.length :: mkOpsD (k + 1 + 1 + 1 + 1 + 1 + 1 + 4 * (o.data.length : Int)) r
def mkOps (k : Int) : Its → Its
  | [] => []
  | p :: r => (mkOp k p.1.data.length, p.2) :: mkOps (k + 1 + 1 + 1 + 1 + 1 + 1 + 4 * (p.1.data.length : Int)) r
theorem opsK_le : ∀ (os : List OpD) (k : Int), k + 6 * (os.length : Int) ≤ opsK k os := by
  intro os
  induction os with
  | nil => intro k; simp [opsK]
  | cons o r ih =>
    intro k
    have := ih (k + 1 + 1 + 1 + 1 + 1 + 1 + 4 * (o.data.length : Int))
    simp only [opsK, List.length_cons]
    omega
theorem opsK_app : ∀ (a b : List OpD) (k : Int), opsK k (a ++ b) = opsK (opsK k a) b := by
  intro a
  induction a with
  | nil => intro b k; rfl
  | cons o r ih => intro b k; exact ih b _
theorem mkOps_app : ∀ (a b : Its) (k : Int), mkOps k (a ++ b) = mkOps k a ++ mkOps (opsK k (a.map (·.1))) b := by
  intro a
  induction a with
  | nil => intro b k; rfl
  | cons o r ih => intro b k; simp only [List.cons_append, mkOps, List.map_cons, opsK, ih]
theorem mkOps_len : ∀ (a : Its) (k : Int), (mkOps k a).length = a.length := by
  intro a
  induction a with
  | nil => intro k; rfl
  | cons o r ih => intro k; simp [mkOps, ih]
theorem mkOps_fst : ∀ (a : Its) (k : Int), (mkOps k a).map (·.1) = mkOpsD k (a.map (·.1)) := by
  intro a
  induction a with
  | nil => intro k; rfl
  | cons o r ih => intro k; simp [mkOps, mkOpsD, ih]
theorem itsF_mkOps : ∀ (a : Its) (k : Int), itsF (mkOps k a) = itsF a := by
  intro a
  induction a with
  | nil => intro k; rfl
  | cons o r ih => intro k; rw [mkOps, itsF_cons, itsF_cons, ih]
theorem mkOpsD_len : ∀ (a : List OpD) (k : Int), (mkOpsD k a).length = a.length := by
  intro a
  induction a with
  | nil => intro k; rfl
  | cons o r ih => intro k; simp [mkOpsD, ih]
abbrev encIt (p : OpD × AV) : List AV := encOpA p.1 p.2
theorem c_laws_markOpSX {v : AV} {its : Its} {k : Int} (h : OpsH τ v its) (hnd : (opsF' v its).Nodup) (h0 : 0 ≤ k) (h1 : opsK k (its.map (·.1)) ≤ 9000000000000000000)
    (hR : ∀ τ', OpsH τ' v (mkOps k its) → (∀ ψ, ψ ∉ opsF' v its → τ' ψ = τ ψ) → R (.ret (iv (opsK k (its.map (·.1))))) τ') : acall TP fn_laws_markOpS [v, iv k] τ R := by
  refine s_laws_markOpS_ok ?_
  unfold s_laws_markOpS
  refine lp_by (fun n x τ' => ∃ don rest : Its, its = don ++ rest ∧ rest.length = n ∧ x = (v, iv (opsK k (don.map (·.1))), iv (don.length : Int), ()) ∧ Buf τ' 7 v ((mkOps k don ++ rest).map encIt) ∧ ItsH τ' (mkOps k don) ∧ ItsH τ' rest ∧
      ∀ ψ, ψ ∉ famL v → ψ ∉ itsF don → τ' ψ = τ ψ) its.length ⟨[], its, rfl, rfl, rfl, h.1, (fun p hp => by cases hp), h.2, fun _ _ _ => rfl⟩ ?_
  rintro n x τ1 ⟨don, rest, hit, hrl, rfl, hB, hD, hT, hfr⟩ R' hR'
  have hlen := buf_len hB
  have hle : ((mkOps k don ++ rest).map encIt).length = don.length + rest.length := by simp [mkOps_len]
  rw [hle] at hlen
  simp only [hlen, RR]
  cases rest with
  | nil =>
    have g : ¬ (don.length : Int) < ((don.length + ([] : Its).length : Nat) : Int) := by simp
    simp only [g, RR]
    rw [List.append_nil] at hit
    subst hit
    rw [List.append_nil] at hB
    refine ret_here (hR τ1 ⟨hB, hD⟩ fun ψ hψ => hfr ψ (fun c => hψ (List.mem_append_left _ c)) fun c => hψ (List.mem_append_right _ c))
  | cons p r =>
    have g : (don.length : Int) < ((don.length + (p :: r).length : Nat) : Int) := by simp; omega
    have hi : don.length < don.length + (p :: r).length := by simp
    have hpl : ((mkOps k don).map encIt).length = don.length := by simp [mkOps_len]
    obtain ⟨φ, st, rfl, hF⟩ := buf_own hB (by simp)
    rw [hle] at hlen ⊢
    have hk1 := opsK_le (don.map (·.1)) k
    have hk2 : opsK k (its.map (·.1)) = opsK (opsK k (don.map (·.1)) + 1 + 1 + 1 + 1 + 1 + 1 + 4 * (p.1.data.length : Int)) (r.map (·.1)) := by
      rw [hit, List.map_append, opsK_app]; rfl
    have hk3 := opsK_le (r.map (·.1)) (opsK k (don.map (·.1)) + 1 + 1 + 1 + 1 + 1 + 1 + 4 * (p.1.data.length : Int))
    generalize hm : opsK k (don.map (·.1)) = m at *
    have hm0 : 0 ≤ m := by simp at hk1; omega
    have hm9 : m + 1 + 1 + 1 + 1 + 1 + 1 + 4 * (p.1.data.length : Int) ≤ 9000000000000000000 := by simp at hk3; omega
    have hset : τ1 = τ1.set φ ⟨st, 7, (mkOps k don).map encIt ++ encIt p :: r.map encIt⟩ := by
      rw [AH.set_self]; rw [hF]; simp
    -- families
    have hnd2 : (famL (.own φ st 0 (don.length + (p :: r).length)) ++ (itsF don ++ (famL p.2 ++ itsF r))).Nodup := by
      have := hnd
      rw [opsF', hit, itsF_append, itsF_cons, hle] at this
      exact this
    obtain ⟨_, hnd3, hnd4⟩ := nodup_app.1 hnd2
    obtain ⟨_, hnd5, hnd6⟩ := nodup_app.1 hnd3
    obtain ⟨_, _, hnd7⟩ := nodup_app.1 hnd5
    have hφp : φ ∉ famL p.2 := fun c => hnd4 φ (by simp [famL]) (by simp [c])
    have hφr : φ ∉ itsF r := fun c => hnd4 φ (by simp [famL]) (by simp [c])
    have hφd : φ ∉ itsF don := fun c => hnd4 φ (by simp [famL]) (by simp [c])
    simp only [g, RR]
    rw [hset]
    simp only [idx_at hi, add1 (m := m) (by omega) (by omega), add1 (m := m + 1) (by omega) (by omega), add1 (m := m + 1 + 1) (by omega) (by omega), add1 (m := m + 1 + 1 + 1) (by omega) (by omega), add1 (m := m + 1 + 1 + 1 + 1) (by omega) (by omega), add1 (m := m + 1 + 1 + 1 + 1 + 1) (by omega) (by omega), RR]
    refine sto_at hpl (by omega) rfl ?_
    simp only [idx_at hi, RR]
    refine sto_at hpl (by omega) rfl ?_
    simp only [idx_at hi, RR]
    refine sto_at hpl (by omega) rfl ?_
    simp only [idx_at hi, RR]
    refine sto_at hpl (by omega) rfl ?_
    simp only [idx_at hi, RR]
    refine sto_at hpl (by omega) rfl ?_
    refine c_laws_markTextX (by omega) (by omega) ?_
    simp only [idx_at hi, RR]
    refine sto_at hpl (by omega) rfl ?_
    have erow : (((((( encIt p).set 0 (iv m)).set 1 (iv (m + 1))).set 2 (iv (m + 1 + 1))).set 3 (iv (m + 1 + 1 + 1))).set 4 (iv (m + 1 + 1 + 1 + 1))).set 5 (str (mkT (m + 1 + 1 + 1 + 1 + 1))) = [iv m, iv (m + 1), iv (m + 1 + 1), iv (m + 1 + 1 + 1), iv (m + 1 + 1 + 1 + 1), str (mkT (m + 1 + 1 + 1 + 1 + 1)), p.2] := rfl
    rw [erow]
    generalize hτ2 : τ1.set φ ⟨st, 7, (mkOps k don).map encIt ++ [iv m, iv (m + 1), iv (m + 1 + 1), iv (m + 1 + 1 + 1), iv (m + 1 + 1 + 1 + 1), str (mkT (m + 1 + 1 + 1 + 1 + 1)), p.2] :: r.map encIt⟩ = τ2
    have hF2 : τ2 φ = some ⟨st, 7, (mkOps k don).map encIt ++ [iv m, iv (m + 1), iv (m + 1 + 1), iv (m + 1 + 1 + 1), iv (m + 1 + 1 + 1 + 1), str (mkT (m + 1 + 1 + 1 + 1 + 1)), p.2] :: r.map encIt⟩ := by rw [← hτ2, AH.set_same]
    have h2 : ∀ ψ, ψ ≠ φ → τ2 ψ = τ1 ψ := fun ψ hψ => by rw [← hτ2, AH.set_ne' hψ]
    have el : lod (.ptr φ st don.length 6) τ2 = some p.2 := lod_at hF2 rfl (by simp [List.getD, List.getElem?_append_right, hpl, mkOps_len])
    have ix : idx 7 (.own φ st 0 (don.length + (p :: r).length)) (iv (don.length : Int)) τ2 = some (.ptr φ st don.length 0) := by rw [← hτ2]; exact idx_at hi
    simp only [ix, el, RR]
    have hBp : Buf τ2 4 p.2 (p.1.data.map encDat) := buf_keep (hT p (by simp)) fun ψ hψ => h2 ψ (by rintro rfl; exact hφp hψ)
    have el2 : (p.1.data.map encDat).length = p.1.data.length := by simp
    refine c_laws_markDatumSX hBp (by intro c hc; obtain ⟨x, _, rfl⟩ := List.mem_map.1 hc; rfl) (by omega) (by rw [el2]; omega) fun τ3 hB3 hfr3 => ?_
    rw [el2] at hB3 ⊢
    simp only [ibin_up hi (by simp at hk1 hk3 ⊢; omega), RR]
    have hFm : (m + 1 + 1 + 1 + 1 + 1 + 1 + 4 * (p.1.data.length : Int)) = opsK k ((don ++ [p]).map (·.1)) := by rw [List.map_append, opsK_app, hm]; rfl
    have emk : mkOps k (don ++ [p]) = mkOps k don ++ [(mkOp m p.1.data.length, p.2)] := by rw [mkOps_app, hm]; rfl
    refine hR' _ _ r.length τ3 (by rw [← hrl]; simp) (.refl _) ⟨don ++ [p], r, by simp [hit], rfl, ?_, ?_, ?_, ?_, ?_⟩
    · rw [hFm, hle]; simp; rfl
    · refine .inr ⟨φ, st, ?_, ?_⟩
      · simp [mkOps_len]; omega
      · rw [hfr3 φ hφp, hF2, emk]
        simp [encIt, encOpA, mkOp]
    · rw [emk]
      intro q hq
      rcases List.mem_append.1 hq with hq | hq
      · refine buf_keep (hD q hq) fun ψ hψ => ?_
        have hψd : ψ ∈ itsF don := by rw [← itsF_mkOps don k]; exact List.mem_flatMap.2 ⟨q, hq, hψ⟩
        rw [hfr3 ψ fun c => hnd6 ψ hψd (by simp [c]), h2 ψ (by rintro rfl; exact hφd hψd)]
      · obtain rfl : q = (mkOp m p.1.data.length, p.2) := by simpa using hq
        exact hB3
    · intro q hq
      refine buf_keep (hT q (by simp [hq])) fun ψ hψ => ?_
      have hψr : ψ ∈ itsF r := List.mem_flatMap.2 ⟨q, hq, hψ⟩
      rw [hfr3 ψ fun c => hnd7 ψ c hψr, h2 ψ (by rintro rfl; exact hφr hψr)]
    · intro ψ hψ hψd
      rw [itsF_append] at hψd
      have hψd1 : ψ ∉ itsF don := fun c => hψd (List.mem_append_left _ c)
      have hψp : ψ ∉ famL p.2 := fun c => hψd (List.mem_append_right _ (by simp [itsF, c]))
      rw [hfr3 ψ hψp, h2 ψ (by rintro rfl; exact hψ (by simp [famL]))]
      exact hfr ψ hψ hψd1
end
end Go.Proofs.YtlggnigbemghgaaGreatDoor.E
/- Code that is owned: marks of blocks, what is held, copies of arguments, what is lent. -/
set_option linter.unusedSectionVars false
set_option linter.unusedSimpArgs false
set_option linter.unusedVariables false
namespace Go.Proofs.YtlggnigbemghgaaGreatDoor.E
open Go Go.RowKit
set_option maxRecDepth 100000
variable [L : Lam]
abbrev encBI (b : BI) : List AV := [iv b.args, b.av]
def blksK (k : Int) : List Blk → Int
  | [] => k
  | b :: r => blksK (opsK (k + 1) b.ops) r
def mkBksD (k : Int) : List Blk → List Blk
  | [] => []
  | b :: r => ⟨k, mkOpsD (k + 1) b.ops⟩ :: mkBksD (opsK (k + 1) b.ops) r
def blkOf (b : BI) : Blk := ⟨b.args, b.its.map (·.1)⟩
theorem cont_eq (bs : List BI) : cont bs = bs.map blkOf := rfl
def mkBk (k : Int) : List BI → List BI
  | [] => []
  | b :: r => ⟨k, b.av, mkOps (k + 1) b.its⟩ :: mkBk (opsK (k + 1) (b.its.map (·.1))) r
theorem blksK_le : ∀ (bs : List Blk) (k : Int), k + (bs.length : Int) ≤ blksK k bs := by
  intro bs
  induction bs with
  | nil => intro k; simp [blksK]
  | cons b r ih =>
    intro k
    have := ih (opsK (k + 1) b.ops)
    have := opsK_le b.ops (k + 1)
    simp only [blksK, List.length_cons]
    omega
theorem blksK_app : ∀ (a b : List Blk) (k : Int), blksK k (a ++ b) = blksK (blksK k a) b := by
  intro a
  induction a with
  | nil => intro b k; rfl
  | cons o r ih => intro b k; exact ih b _
theorem mkBk_app : ∀ (a b : List BI) (k : Int), mkBk k (a ++ b) = mkBk k a ++ mkBk (blksK k (cont a)) b := by
  intro a
  induction a with
  | nil => intro b k; rfl
  | cons o r ih => intro b k; simp only [List.cons_append, mkBk, cont, List.map_cons, blksK, ih]
theorem mkBk_len : ∀ (a : List BI) (k : Int), (mkBk k a).length = a.length := by
  intro a
  induction a with
  | nil => intro k; rfl
  | cons o r ih => intro k; simp [mkBk, ih]
theorem cont_mkBk : ∀ (a : List BI) (k : Int), cont (mkBk k a) = mkBksD k (cont a) := by
  intro a
  induction a with
  | nil => intro k; rfl
  | cons o r ih =>
    intro k
    have := ih (opsK (k + 1) (o.its.map (·.1)))
    simp only [cont] at this
    simp [mkBk, mkBksD, cont, mkOps_fst, this]
def bsF (bs : List BI) : List Nat := bs.flatMap biF
theorem bsF_app (a b : List BI) : bsF (a ++ b) = bsF a ++ bsF b := by simp [bsF]
theorem bsF_cons (b : BI) (r : List BI) : bsF (b :: r) = biF b ++ bsF r := by simp [bsF]
theorem bsF_mkBk : ∀ (a : List BI) (k : Int), bsF (mkBk k a) = bsF a := by
  intro a
  induction a with
  | nil => intro k; rfl
  | cons o r ih => intro k; rw [mkBk, bsF_cons, bsF_cons, ih]; simp [biF, opsF', itsF_mkOps]
section
variable {σ τ τ' : AH} {R : AEnd → AH → Prop}
def BisH (τ : AH) (bs : List BI) : Prop := ∀ b, b ∈ bs → OpsH τ b.av b.its
theorem c_laws_markBlockSX {v : AV} {bs : List BI} {k : Int} (h : BlksH τ v bs) (hnd : (blksF v bs).Nodup) (h0 : 0 ≤ k) (h1 : blksK k (cont bs) ≤ 9000000000000000000)
    (hR : ∀ τ', BlksH τ' v (mkBk k bs) → (∀ ψ, ψ ∉ blksF v bs → τ' ψ = τ ψ) → R (.ret (iv (blksK k (cont bs)))) τ') : acall TP fn_laws_markBlockS [v, iv k] τ R := by
  refine s_laws_markBlockS_ok ?_
  unfold s_laws_markBlockS
  refine lp_by (fun n x τ' => ∃ don rest : List BI, bs = don ++ rest ∧ rest.length = n ∧ x = (v, iv (blksK k (cont don)), iv (don.length : Int), ()) ∧ Buf τ' 2 v ((mkBk k don ++ rest).map encBI) ∧ BisH τ' (mkBk k don) ∧ BisH τ' rest ∧
      ∀ ψ, ψ ∉ famL v → ψ ∉ bsF don → τ' ψ = τ ψ) bs.length ⟨[], bs, rfl, rfl, rfl, h.1, (fun p hp => by cases hp), h.2, fun _ _ _ => rfl⟩ ?_
  rintro n x τ1 ⟨don, rest, hit, hrl, rfl, hB, hD, hT, hfr⟩ R' hR'
  have hlen := buf_len hB
  have hle : ((mkBk k don ++ rest).map encBI).length = don.length + rest.length := by simp [mkBk_len]
  rw [hle] at hlen
  simp only [hlen, RR]
  cases rest with
  | nil =>
    have g : ¬ (don.length : Int) < ((don.length + ([] : List BI).length : Nat) : Int) := by simp
    simp only [g, RR]
    rw [List.append_nil] at hit
    subst hit
    rw [List.append_nil] at hB
    refine ret_here (hR τ1 ⟨hB, hD⟩ fun ψ hψ => hfr ψ (fun c => hψ (List.mem_append_left _ c)) fun c => hψ (List.mem_append_right _ c))
  | cons p r =>
    have g : (don.length : Int) < ((don.length + (p :: r).length : Nat) : Int) := by simp; omega
    have hi : don.length < don.length + (p :: r).length := by simp
    have hpl : ((mkBk k don).map encBI).length = don.length := by simp [mkBk_len]
    obtain ⟨φ, st, rfl, hF⟩ := buf_own hB (by simp)
    rw [hle] at hlen ⊢
    have hk1 := blksK_le (cont don) k
    have hk2 : blksK k (cont bs) = blksK (opsK (blksK k (cont don) + 1) (p.its.map (·.1))) (cont r) := by
      have e : cont bs = cont don ++ cont (p :: r) := by rw [hit]; simp [cont]
      rw [e, blksK_app]; rfl
    have hk3 := blksK_le (cont r) (opsK (blksK k (cont don) + 1) (p.its.map (·.1)))
    have hk4 := opsK_le (p.its.map (·.1)) (blksK k (cont don) + 1)
    have hcl : (cont don).length = don.length := by simp [cont]
    have hcr : (cont r).length = r.length := by simp [cont]
    rw [hcl] at hk1
    rw [hcr] at hk3
    generalize hm : blksK k (cont don) = m at *
    have hm0 : 0 ≤ m := by omega
    have hset : τ1 = τ1.set φ ⟨st, 2, (mkBk k don).map encBI ++ encBI p :: r.map encBI⟩ := by
      rw [AH.set_self]; rw [hF]; simp
    have hnd2 : (famL (.own φ st 0 (don.length + (p :: r).length)) ++ (bsF don ++ (biF p ++ bsF r))).Nodup := by
      have := hnd
      rw [blksF, hle] at this
      rw [← bsF_cons, ← bsF_app, ← hit]
      exact this
    obtain ⟨_, hnd3, hnd4⟩ := nodup_app.1 hnd2
    obtain ⟨_, hnd5, hnd6⟩ := nodup_app.1 hnd3
    obtain ⟨hndp, _, hnd7⟩ := nodup_app.1 hnd5
    have hφp : φ ∉ biF p := fun c => hnd4 φ (by simp [famL]) (by simp [c])
    have hφr : φ ∉ bsF r := fun c => hnd4 φ (by simp [famL]) (by simp [c])
    have hφd : φ ∉ bsF don := fun c => hnd4 φ (by simp [famL]) (by simp [c])
    simp only [g, RR]
    rw [hset]
    simp only [idx_at hi, add1 (m := m) (by omega) (by omega), RR]
    refine sto_at hpl (by omega) rfl ?_
    have erow : (encBI p).set 0 (iv m) = [iv m, p.av] := rfl
    rw [erow]
    generalize hτ2 : τ1.set φ ⟨st, 2, (mkBk k don).map encBI ++ [iv m, p.av] :: r.map encBI⟩ = τ2
    have hF2 : τ2 φ = some ⟨st, 2, (mkBk k don).map encBI ++ [iv m, p.av] :: r.map encBI⟩ := by rw [← hτ2, AH.set_same]
    have h2 : ∀ ψ, ψ ≠ φ → τ2 ψ = τ1 ψ := fun ψ hψ => by rw [← hτ2, AH.set_ne' hψ]
    have el : lod (.ptr φ st don.length 1) τ2 = some p.av := lod_at hF2 rfl (by simp [List.getD, List.getElem?_append_right, hpl, mkBk_len])
    have ix : idx 2 (.own φ st 0 (don.length + (p :: r).length)) (iv (don.length : Int)) τ2 = some (.ptr φ st don.length 0) := by rw [← hτ2]; exact idx_at hi
    simp only [ix, el, RR]
    have hBp : OpsH τ2 p.av p.its := (hT p (by simp)).keep fun ψ hψ => h2 ψ (by rintro rfl; exact hφp hψ)
    refine c_laws_markOpSX hBp hndp (by omega) (by omega) fun τ3 hB3 hfr3 => ?_
    simp only [ibin_up hi (by simp at hk1 hk3 ⊢; omega), RR]
    have hFm : opsK (m + 1) (p.its.map (·.1)) = blksK k (cont (don ++ [p])) := by
      have e : cont (don ++ [p]) = cont don ++ cont [p] := by simp [cont]
      rw [e, blksK_app, hm]; rfl
    have emk : mkBk k (don ++ [p]) = mkBk k don ++ [⟨m, p.av, mkOps (m + 1) p.its⟩] := by rw [mkBk_app, hm]; rfl
    refine hR' _ _ r.length τ3 (by rw [← hrl]; simp) (.refl _) ⟨don ++ [p], r, by simp [hit], rfl, ?_, ?_, ?_, ?_, ?_⟩
    · rw [hFm, hle]; simp; rfl
    · refine .inr ⟨φ, st, ?_, ?_⟩
      · simp [mkBk_len]; omega
      · rw [hfr3 φ hφp, hF2, emk]
        simp
    · rw [emk]
      intro q hq
      rcases List.mem_append.1 hq with hq | hq
      · refine (hD q hq).keep fun ψ hψ => ?_
        have hψd : ψ ∈ bsF don := by rw [← bsF_mkBk don k]; exact List.mem_flatMap.2 ⟨q, hq, hψ⟩
        rw [hfr3 ψ fun c => hnd6 ψ hψd (List.mem_append_left _ c), h2 ψ (by rintro rfl; exact hφd hψd)]
      · obtain rfl : q = ⟨m, p.av, mkOps (m + 1) p.its⟩ := by simpa using hq
        exact hB3
    · intro q hq
      refine (hT q (by simp [hq])).keep fun ψ hψ => ?_
      have hψr : ψ ∈ bsF r := List.mem_flatMap.2 ⟨q, hq, hψ⟩
      rw [hfr3 ψ fun c => hnd7 ψ c hψr, h2 ψ (by rintro rfl; exact hφr hψr)]
    · intro ψ hψ hψd
      rw [bsF_app] at hψd
      have hψd1 : ψ ∉ bsF don := fun c => hψd (List.mem_append_left _ c)
      have hψp : ψ ∉ biF p := fun c => hψd (List.mem_append_right _ (by simp [bsF, c]))
      rw [hfr3 ψ hψp, h2 ψ (by rintro rfl; exact hψ (by simp [famL]))]
      exact hfr ψ hψ hψd1
theorem c_laws_markCodeResultX {c k : Int} {v : AV} {bs : List BI} (h : BlksH τ v bs) (hnd : (blksF v bs).Nodup) (h0 : 0 ≤ k) (h1 : blksK k (cont bs) ≤ 9000000000000000000)
    (hR : ∀ τ', BlksH τ' v (mkBk k bs) → (∀ ψ, ψ ∉ blksF v bs → τ' ψ = τ ψ) → R (.ret (iv (blksK k (cont bs)))) τ') : acall TP fn_laws_markCodeResult [.agg [iv c, v], iv k] τ R := by
  refine s_laws_markCodeResult_ok ?_
  unfold s_laws_markCodeResult
  refine box_frz rfl ?_
  have e : ∀ τ, lod (.rop [iv c, v] 1) τ = some v := fun _ => rfl
  simp only [e, RR]
  refine c_laws_markBlockSX h hnd h0 h1 fun τ' hB hfr => ?_
  simp only [RR]
  exact ret_here (hR τ' hB hfr)
/-! ### held -/
theorem idx_roA {X : Type} {enc : X → List AV} {sz i : Nat} {pre post : List X} {x : X} (hp : pre.length = i) (hl : ∀ x, (enc x).length = sz) : idx sz (.ro ((pre ++ x :: post).map enc)) (iv (i : Int)) σ = some (.rop (enc x) 0) := by
  subst hp
  have h : pre.length < (pre ++ x :: post).length := by simp
  have := idx_ro (σ := σ) (enc := enc) h hl
  rw [this]; simp
theorem c_laws_heldDatumS {k : Int} {n : Nat} (h0 : 0 ≤ k) (h1 : k + 4 * (n : Int) ≤ 9000000000000000000) (h : R (.ret (iv (k + 4 * (n : Int)))) σ) : acall TP fn_laws_heldDatumS [roD (mkDats k n), iv k] σ R := by
  refine s_laws_heldDatumS_ok ?_
  unfold s_laws_heldDatumS
  refine lp_read n (fun i => (roD (mkDats k n), iv (k + 4 * (i : Int)), iv (i : Int), ())) (by simp; rfl) ?_
  intro i hi R' hR'
  simp only [len_ro, mkDats_len, RR]
  by_cases hlt : i < n
  · have g : (i : Int) < (n : Int) := by omega
    have hlt' : i < (mkDats k n).length := by simpa [mkDats_len] using hlt
    have ei : (mkDats k n)[i] = mkDat (k + 4 * (i : Int)) := by simp [mkDats]
    simp only [g, idx_ro hlt' len_encDat, ei, add1 (m := k + 4 * (i : Int)) (by omega) (by omega), add1 (m := k + 4 * (i : Int) + 1) (by omega) (by omega), add1 (m := k + 4 * (i : Int) + 1 + 1) (by omega) (by omega), add1 (m := k + 4 * (i : Int) + 1 + 1 + 1) (by omega) (by omega), RR, RT]
    simp only [mkDat, dec_self, RR]
    refine c_laws_markTextX (by omega) (by omega) ?_
    simp only [sbin_neq', dec_self, ibin_up hlt (by omega), eq_self, and_true, true_and, RR]
    have := hR' hlt _ (.refl σ)
    have e : k + 4 * (i : Int) + 1 + 1 + 1 + 1 = k + 4 * ((i + 1 : Nat) : Int) := by omega
    rw [e]
    exact this
  · have g : ¬ (i : Int) < (n : Int) := by omega
    obtain rfl : i = n := by omega
    simp only [g, RR]
    exact ret_here h
theorem mkOpsD_app : ∀ (a b : List OpD) (k : Int), mkOpsD k (a ++ b) = mkOpsD k a ++ mkOpsD (opsK k a) b := by
  intro a
  induction a with
  | nil => intro b k; rfl
  | cons o r ih => intro b k; simp only [List.cons_append, mkOpsD, opsK, ih]
theorem mkBksD_app : ∀ (a b : List Blk) (k : Int), mkBksD k (a ++ b) = mkBksD k a ++ mkBksD (blksK k a) b := by
  intro a
  induction a with
  | nil => intro b k; rfl
  | cons o r ih => intro b k; simp only [List.cons_append, mkBksD, blksK, ih]
theorem mkBksD_len : ∀ (a : List Blk) (k : Int), (mkBksD k a).length = a.length := by
  intro a
  induction a with
  | nil => intro k; rfl
  | cons o r ih => intro k; simp [mkBksD, ih]
theorem c_laws_heldOpS {k : Int} {os : List OpD} (h0 : 0 ≤ k) (h1 : opsK k os ≤ 9000000000000000000) (h : R (.ret (iv (opsK k os))) σ) : acall TP fn_laws_heldOpS [roO (mkOpsD k os), iv k] σ R := by
  refine s_laws_heldOpS_ok ?_
  unfold s_laws_heldOpS
  refine lp_by (fun n x τ' => τ' = σ ∧ ∃ don rest : List OpD, os = don ++ rest ∧ rest.length = n ∧ x = (roO (mkOpsD k os), iv (opsK k don), iv (don.length : Int), ())) os.length ⟨rfl, [], os, rfl, rfl, rfl⟩ ?_
  rintro n x _ ⟨rfl, don, rest, hit, hrl, rfl⟩ R' hR'
  simp only [len_ro, mkOpsD_len, RR]
  cases rest with
  | nil =>
    rw [List.append_nil] at hit
    subst hit
    have g : ¬ (os.length : Int) < (os.length : Int) := by omega
    simp only [g, RR]
    exact ret_here h
  | cons p r =>
    have hi : don.length < os.length := by rw [hit]; simp
    have g : (don.length : Int) < (os.length : Int) := by omega
    have hk1 := opsK_le don k
    have hk2 : opsK k os = opsK (opsK k don + 1 + 1 + 1 + 1 + 1 + 1 + 4 * (p.data.length : Int)) r := by rw [hit, opsK_app]; rfl
    have hk3 := opsK_le r (opsK k don + 1 + 1 + 1 + 1 + 1 + 1 + 4 * (p.data.length : Int))
    have eL : mkOpsD k os = mkOpsD k don ++ mkOp (opsK k don) p.data.length :: mkOpsD (opsK k don + 1 + 1 + 1 + 1 + 1 + 1 + 4 * (p.data.length : Int)) r := by rw [hit, mkOpsD_app]; rfl
    have ix := fun σ => idx_roA (σ := σ) (pre := mkOpsD k don) (post := mkOpsD (opsK k don + 1 + 1 + 1 + 1 + 1 + 1 + 4 * (p.data.length : Int)) r) (x := mkOp (opsK k don) p.data.length) (mkOpsD_len don k) len_encOp
    rw [← eL] at ix
    have hol : os.length = don.length + (r.length + 1) := by rw [hit]; simp
    have hfin : opsK k (don ++ [p]) = opsK k don + 1 + 1 + 1 + 1 + 1 + 1 + 4 * (p.data.length : Int) := by rw [opsK_app]; rfl
    generalize hm : opsK k don = m at *
    have hm0 : 0 ≤ m := by omega
    have hm9 : m + 1 + 1 + 1 + 1 + 1 + 1 + 4 * (p.data.length : Int) ≤ 9000000000000000000 := by omega
    simp only [g, ix, add1 (m := m) (by omega) (by omega), add1 (m := m + 1) (by omega) (by omega), add1 (m := m + 1 + 1) (by omega) (by omega), add1 (m := m + 1 + 1 + 1) (by omega) (by omega), add1 (m := m + 1 + 1 + 1 + 1) (by omega) (by omega), add1 (m := m + 1 + 1 + 1 + 1 + 1) (by omega) (by omega), RR, RT]
    simp only [mkOp, dec_self, RR]
    refine c_laws_markTextX (by omega) (by omega) ?_
    simp only [sbin_neq', dec_self, eq_self, and_true, true_and, RR]
    refine c_laws_heldDatumS (by omega) (by omega) ?_
    have g2 : ¬ (m + 1 + 1 + 1 + 1 + 1 + 1 + 4 * (p.data.length : Int)) < 0 := by omega
    simp only [g2, ibin_up hi (by omega), RR]
    refine hR' _ _ r.length _ (by rw [← hrl]; simp) (.refl _) ⟨rfl, don ++ [p], r, by simp [hit], rfl, ?_⟩
    rw [hfin]; simp; rfl
theorem c_laws_heldBlockS {k : Int} {bs : List Blk} (h0 : 0 ≤ k) (h1 : blksK k bs ≤ 9000000000000000000) (h : R (.ret (iv (blksK k bs))) σ) : acall TP fn_laws_heldBlockS [roBk (mkBksD k bs), iv k] σ R := by
  refine s_laws_heldBlockS_ok ?_
  unfold s_laws_heldBlockS
  refine lp_by (fun n x τ' => τ' = σ ∧ ∃ don rest : List Blk, bs = don ++ rest ∧ rest.length = n ∧ x = (roBk (mkBksD k bs), iv (blksK k don), iv (don.length : Int), ())) bs.length ⟨rfl, [], bs, rfl, rfl, rfl⟩ ?_
  rintro n x _ ⟨rfl, don, rest, hit, hrl, rfl⟩ R' hR'
  simp only [len_ro, mkBksD_len, RR]
  cases rest with
  | nil =>
    rw [List.append_nil] at hit
    subst hit
    have g : ¬ (bs.length : Int) < (bs.length : Int) := by omega
    simp only [g, RR]
    exact ret_here h
  | cons p r =>
    have hi : don.length < bs.length := by rw [hit]; simp
    have hol : bs.length = don.length + (r.length + 1) := by rw [hit]; simp
    have g : (don.length : Int) < (bs.length : Int) := by omega
    have hk1 := blksK_le don k
    have hk2 : blksK k bs = blksK (opsK (blksK k don + 1) p.ops) r := by rw [hit, blksK_app]; rfl
    have hk3 := blksK_le r (opsK (blksK k don + 1) p.ops)
    have hk4 := opsK_le p.ops (blksK k don + 1)
    have eL : mkBksD k bs = mkBksD k don ++ ⟨blksK k don, mkOpsD (blksK k don + 1) p.ops⟩ :: mkBksD (opsK (blksK k don + 1) p.ops) r := by rw [hit, mkBksD_app]; rfl
    have ix := fun σ => idx_roA (σ := σ) (pre := mkBksD k don) (post := mkBksD (opsK (blksK k don + 1) p.ops) r) (x := (⟨blksK k don, mkOpsD (blksK k don + 1) p.ops⟩ : Blk)) (mkBksD_len don k) len_encBlk
    rw [← eL] at ix
    have hfin : blksK k (don ++ [p]) = opsK (blksK k don + 1) p.ops := by rw [blksK_app]; rfl
    generalize hm : blksK k don = m at *
    have hm0 : 0 ≤ m := by omega
    simp only [g, ix, add1 (m := m) (by omega) (by omega), dec_self, RR, RT]
    refine c_laws_heldOpS (by omega) (by omega) ?_
    have g2 : ¬ opsK (m + 1) p.ops < 0 := by omega
    simp only [g2, ibin_up hi (by omega), RR]
    refine hR' _ _ r.length _ (by rw [← hrl]; simp) (.refl _) ⟨rfl, don ++ [p], r, by simp [hit], rfl, ?_⟩
    rw [hfin]; simp; rfl
theorem c_laws_heldCodeResult {c k : Int} {bs : List Blk} (h0 : 0 ≤ k) (h1 : blksK k bs ≤ 9000000000000000000) (h : R (.ret (iv (blksK k bs))) σ) : acall TP fn_laws_heldCodeResult [.agg [iv c, roBk (mkBksD k bs)], iv k] σ R := by
  refine s_laws_heldCodeResult_ok ?_
  unfold s_laws_heldCodeResult
  refine box_frz rfl ?_
  have e : ∀ τ, lod (.rop [iv c, roBk (mkBksD k bs)] 1) τ = some (roBk (mkBksD k bs)) := fun _ => rfl
  simp only [e, RR]
  refine c_laws_heldBlockS h0 h1 ?_
  have hk1 := blksK_le bs k
  have g2 : ¬ blksK k bs < 0 := by omega
  simp only [g2, RR]
  exact ret_here h
theorem c_laws_eqCodeResult {c : Int} {bs : List Blk} (hb : bC 1048576 bs) (h : R (.ret (bv true)) σ) : acall TP fn_laws_eqCodeResult [.agg [iv c, roBk bs], .agg [iv c, roBk bs]] σ R := by
  refine s_laws_eqCodeResult_ok ?_
  unfold s_laws_eqCodeResult
  refine box2_frz rfl rfl ?_
  have e0 : ∀ τ, lod (.rop [iv c, roBk bs] 0) τ = some (iv c) := fun _ => rfl
  have e1 : ∀ τ, lod (.rop [iv c, roBk bs] 1) τ = some (roBk bs) := fun _ => rfl
  simp only [RR, e0, e1, dec_self]
  refine c_laws_eqBlockS hb ?_
  simp only [RR]
  exact ret_here h
end
end Go.Proofs.YtlggnigbemghgaaGreatDoor.E
/- Code that is owned: copies of arguments; what is lent. -/
set_option linter.unusedSectionVars false
set_option linter.unusedSimpArgs false
set_option linter.unusedVariables false
namespace Go.Proofs.YtlggnigbemghgaaGreatDoor.E
open Go Go.RowKit
set_option maxRecDepth 100000
variable [L : Lam]
variable {σ τ τ' : AH} {R : AEnd → AH → Prop}
structure NewO (σ τ : AH) (v : AV) (its : Its) : Prop where
  own : OpsH τ v its
  nd : (opsF' v its).Nodup
  fr : ∀ ψ, ψ ∈ opsF' v its → σ ψ = none
  sub : AH.Sub σ τ
structure NewB (σ τ : AH) (v : AV) (bs : List BI) : Prop where
  own : BlksH τ v bs
  nd : (blksF v bs).Nodup
  fr : ∀ ψ, ψ ∈ blksF v bs → σ ψ = none
  sub : AH.Sub σ τ
theorem not_live {φ : Nat} {F : List Nat} (h : τ φ = none) (hl : ∀ ψ, ψ ∈ F → ∃ G, τ ψ = some G) : φ ∉ F := fun c => by obtain ⟨G, e⟩ := hl _ c; rw [h] at e; cases e
theorem c_laws_toOpSX {os : List OpD} (hb : bO 1048576 os) (h : ∀ v its τ, its.map (·.1) = os → NewO σ τ v its → R (.ret v) τ) : acall TP fn_laws_toOpS [roO os] σ R := by
  have hl := hb.1
  refine s_laws_toOpS_ok ?_
  unfold s_laws_toOpS
  simp only [RR, len_ro]
  refine mk_LRiiiiisLRiiisEE (by omega) (by omega) (by omega) fun φ hφ => ?_
  simp only [Int.toNat_natCast]
  refine lp_rel os.length (fun i x τ => ∃ its : Its, its.map (·.1) = os.take i ∧ x = (roO os, .own φ 0 0 os.length, iv (i : Int), ()) ∧ τ φ = some ⟨0, 7, its.map encIt ++ List.replicate (os.length - i) [iv 0, iv 0, iv 0, iv 0, iv 0, str ⟨#[]⟩, nilS]⟩ ∧
      AH.Sub σ τ ∧ ItsH τ its ∧ (itsF its).Nodup ∧ φ ∉ itsF its ∧ ∀ ψ, ψ ∈ itsF its → σ ψ = none) ⟨[], rfl, rfl, by rw [AH.set_same]; rfl, .set (.refl σ) _ hφ, (fun p hp => by cases hp), .nil, (fun c => by cases c), fun ψ c => by cases c⟩ ?_
  rintro i _ τ hi ⟨its, hits, rfl, hF, hsub, hI, hnd, hφi, hfr⟩ R' hR'
  have hil : its.length = i := by have := congrArg List.length hits; simpa [Nat.min_eq_left hi] using this
  by_cases hlt : i < os.length
  · have g : (i : Int) < (os.length : Int) := by omega
    simp only [len_ro, g, idx_ro hlt len_encOp, lodA_all (len_encOp _), RR]
    refine c_laws_toOp_own (hb.2 _ (List.getElem_mem hlt)).2.1 fun φd hd => ?_
    have hne : φ ≠ φd := by rintro rfl; rw [hF] at hd; cases hd
    have hdi : φd ∉ itsF its := not_live hd fun ψ hψ => hI.live hψ
    have hF2 : (τ.set φd ⟨0, 4, os[i].data.map encDat⟩) φ = some ⟨0, 7, its.map encIt ++ List.replicate (os.length - i) [iv 0, iv 0, iv 0, iv 0, iv 0, str ⟨#[]⟩, nilS]⟩ := by rw [AH.set_ne' hne]; exact hF
    have ix := idx_own (st := 0) (off := 0) hF2 hlt
    rw [Nat.zero_add] at ix
    simp only [ix, RR]
    have hrl : (its.map encIt).length = i := by simpa using hil
    refine sto_own (cs := encOpA os[i] (.own φd 0 0 os[i].data.length)) hF2 (by simp; omega) ?_ rfl rfl ?_ ?_
    · rw [getD_end hrl (by omega)]; rfl
    · intro y hy
      simp only [encOpA, List.mem_cons, List.not_mem_nil, or_false] at hy
      rcases hy with rfl | rfl | rfl | rfl | rfl | rfl | rfl <;> rfl
    rw [set_end hrl (by omega)]
    simp only [ibin_up hlt (by omega), RR]
    refine hR' _ _ _ hlt (.refl _) ⟨its ++ [(os[i], .own φd 0 0 os[i].data.length)], ?_, rfl, ?_, ?_, ?_, ?_, ?_, ?_⟩
    · rw [List.take_succ_eq_append_getElem hlt, List.map_append, hits]; rfl
    · rw [AH.set_same]
      simp only [List.map_append, List.append_assoc, List.map_cons, List.map_nil, List.singleton_append]
      rw [show os.length - i - 1 = os.length - (i + 1) by omega]
    · intro ψ F h1
      have n1 : ¬ ψ = φ := by rintro rfl; rw [hφ] at h1; cases h1
      have h2 := hsub ψ F h1
      have n2 : ¬ ψ = φd := by rintro rfl; rw [hd] at h2; cases h2
      rw [AH.set_ne' n1, AH.set_ne' n2]; exact h2
    · intro p hp
      rcases List.mem_append.1 hp with hp | hp
      · refine buf_keep (hI p hp) fun ψ hψ => ?_
        have hm : ψ ∈ itsF its := List.mem_flatMap.2 ⟨p, hp, hψ⟩
        rw [AH.set_ne' (by rintro rfl; exact hφi hm), AH.set_ne' (by rintro rfl; exact hdi hm)]
      · obtain rfl : p = (os[i], .own φd 0 0 os[i].data.length) := by simpa using hp
        exact .inr ⟨φd, 0, by simp, by rw [AH.set_ne' (Ne.symm hne), AH.set_same]⟩
    · rw [itsF_append, nodup_app]
      refine ⟨hnd, by simp [itsF, famL], fun x hx c => ?_⟩
      obtain rfl : x = φd := by simpa [itsF, famL] using c
      exact hdi hx
    · rw [itsF_append]
      intro c
      rcases List.mem_append.1 c with c | c
      · exact hφi c
      · exact hne (by simpa [itsF, famL] using c)
    · intro ψ hψ
      rw [itsF_append] at hψ
      rcases List.mem_append.1 hψ with c | c
      · exact hfr ψ c
      · obtain rfl : ψ = φd := by simpa [itsF, famL] using c
        exact hsub.none hd
  · have g : ¬ (i : Int) < (os.length : Int) := by omega
    obtain rfl : i = os.length := by omega
    simp only [len_ro, g, RR]
    rw [Nat.sub_self, List.replicate_zero, List.append_nil] at hF
    rw [List.take_length] at hits
    refine ret_here (h _ its τ hits ⟨⟨.inr ⟨φ, 0, by simp [hil], hF⟩, hI⟩, ?_, ?_, hsub⟩)
    · rw [opsF', nodup_app]
      exact ⟨famL_nodup _, hnd, fun x hx c => hφi (by obtain rfl : x = φ := by simpa [famL] using hx
                                                      exact c)⟩
    · intro ψ hψ
      rcases List.mem_append.1 hψ with c | c
      · obtain rfl : ψ = φ := by simpa [famL] using c
        exact hφ
      · exact hfr ψ c
theorem NewO.one {v : AV} {its : Its} (h : NewO σ τ v its) : v.one = true := by
  rcases h.own.1 with ⟨rfl | rfl, _⟩ | ⟨φ, st, rfl, _⟩ <;> rfl
theorem c_laws_toBlockX {b : Blk} (hb : bO 1048576 b.ops) (h : ∀ a its τ, its.map (·.1) = b.ops → NewO σ τ a its → R (.ret (.agg [iv b.args, a])) τ) : acall TP fn_laws_toBlock [.agg (encBlk b)] σ R := by
  refine s_laws_toBlock_ok ?_
  unfold s_laws_toBlock
  refine conv_frame rfl fun φ2 φ3 hne h2 h3 => ?_
  simp only [RR, RT]
  refine sto_cell (by decide) rfl ?_
  refine c_laws_toOpSX hb fun a its τ hits hN => ?_
  have h23 : ∀ ψ, ((σ.set φ2 ⟨0, [AV.val (Value.int IntKind.i64 0), AV.val (Value.slice none 0 0)].length, [[AV.val (Value.int IntKind.i64 0), AV.val (Value.slice none 0 0)]]⟩).set φ3 ⟨0, 2, [[AV.val (Value.int IntKind.i64 0), AV.val (Value.slice none 0 0)].set 0 (iv b.args)]⟩) ψ = none ↔ ψ ≠ φ3 ∧ ψ ≠ φ2 ∧ σ ψ = none := fun ψ => by rw [AH.set_none, AH.set_none]
  have hF3 : τ φ3 = some ⟨0, 2, [[iv b.args, nilS]]⟩ := hN.sub _ _ (AH.set_same ..)
  have hF2 : τ φ2 = some ⟨0, 2, [[iv 0, nilS]]⟩ := hN.sub _ _ (by rw [AH.set_ne' hne, AH.set_same]; rfl)
  have ha1 : a.one = true := hN.one
  simp only [RR]
  refine sto_fld hF3 rfl (by decide) (acells_one ha1) ha1 ?_
  have hd3 : ∀ ψ, ψ ≠ φ3 → ((τ.set φ3 ⟨0, 2, [[iv b.args, a]]⟩).del φ3) ψ = τ ψ := fun ψ hn => by rw [AH.del_ne _ hn, AH.set_ne' hn]
  refine ⟨.rop [iv b.args, a] 0, (τ.set φ3 ⟨0, 2, [[iv b.args, a]]⟩).del φ3, .del _ _, .ptr (AH.set_same ..) (AH.del_same ..) rfl (by simp) rfl rfl (fun j hj => .same _), ?_⟩
  simp only [lodA_all (cs := [iv b.args, a]) (n := 2) rfl, RR]
  refine sto_own (es := [[iv 0, nilS]]) (cs := [iv b.args, a]) (by rw [hd3 _ hne]; exact hF2) (by simp) rfl rfl rfl (one2 rfl ha1) ?_
  have e := lodA_at (σ := ((τ.set φ3 ⟨0, 2, [[iv b.args, a]]⟩).del φ3).set φ2 ⟨0, 2, [[iv 0, nilS]].set 0 [iv b.args, a]⟩) (φ := φ2) (st := 0) (i := 0) (n := 2) (cs := [iv b.args, a]) (AH.set_same ..) rfl rfl rfl
  simp only [e, RR]
  have hmv : ∀ ψ, ψ ≠ φ3 → ψ ≠ φ2 → (((τ.set φ3 ⟨0, 2, [[iv b.args, a]]⟩).del φ3).set φ2 ⟨0, 2, [[iv 0, nilS]].set 0 [iv b.args, a]⟩) ψ = τ ψ := fun ψ n3 n2 => by rw [AH.set_ne' n2, hd3 _ n3]
  refine ret_here (h a its _ hits ⟨hN.own.keep fun ψ hψ => ?_, hN.nd, fun ψ hψ => ((h23 ψ).1 (hN.fr ψ hψ)).2.2, fun ψ F hF => ?_⟩)
  · have := (h23 ψ).1 (hN.fr ψ hψ)
    exact hmv ψ this.1 this.2.1
  have n3 : ψ ≠ φ3 := by rintro rfl; rw [h3] at hF; cases hF
  have n2 : ψ ≠ φ2 := by rintro rfl; rw [h2] at hF; cases hF
  rw [hmv ψ n3 n2]
  refine hN.sub ψ F ?_
  rw [AH.set_ne' n3, AH.set_ne' n2]
  exact hF
theorem BisH.keep {bs : List BI} (h : BisH τ bs) (k : ∀ ψ, ψ ∈ bsF bs → τ' ψ = τ ψ) : BisH τ' bs := fun b hb => (h b hb).keep fun ψ hψ => k ψ (List.mem_flatMap.2 ⟨b, hb, hψ⟩)
theorem BisH.live {bs : List BI} (h : BisH τ bs) {ψ : Nat} (hm : ψ ∈ bsF bs) : ∃ F, τ ψ = some F := by
  obtain ⟨b, hb, hψ⟩ := List.mem_flatMap.1 hm
  exact (h b hb).live hψ
theorem c_laws_toBlockSX {bs : List Blk} (hb : bC 1048576 bs) (h : ∀ v B τ, cont B = bs → NewB σ τ v B → R (.ret v) τ) : acall TP fn_laws_toBlockS [roBk bs] σ R := by
  have hl := hb.1
  refine s_laws_toBlockS_ok ?_
  unfold s_laws_toBlockS
  simp only [RR, len_ro]
  refine mk_LRiLRiiiiisLRiiisEEE (by omega) (by omega) (by omega) fun φ hφ => ?_
  simp only [Int.toNat_natCast]
  refine lp_rel bs.length (fun i x τ => ∃ B : List BI, cont B = bs.take i ∧ x = (roBk bs, .own φ 0 0 bs.length, iv (i : Int), ()) ∧ τ φ = some ⟨0, 2, B.map encBI ++ List.replicate (bs.length - i) [iv 0, nilS]⟩ ∧
      AH.Sub σ τ ∧ BisH τ B ∧ (bsF B).Nodup ∧ φ ∉ bsF B ∧ ∀ ψ, ψ ∈ bsF B → σ ψ = none) ⟨[], rfl, rfl, by rw [AH.set_same]; rfl, .set (.refl σ) _ hφ, (fun p hp => by cases hp), .nil, (fun c => by cases c), fun ψ c => by cases c⟩ ?_
  rintro i _ τ hi ⟨B, hits, rfl, hF, hsub, hI, hnd, hφi, hfr⟩ R' hR'
  have hil : B.length = i := by have := congrArg List.length hits; simpa [cont, Nat.min_eq_left hi] using this
  by_cases hlt : i < bs.length
  · have g : (i : Int) < (bs.length : Int) := by omega
    simp only [len_ro, g, idx_ro hlt len_encBlk, lodA_all (len_encBlk _), RR]
    refine c_laws_toBlockX (hb.2 _ (List.getElem_mem hlt)) fun a its τ2 hits2 hN => ?_
    have hF2 : τ2 φ = some ⟨0, 2, B.map encBI ++ List.replicate (bs.length - i) [iv 0, nilS]⟩ := hN.sub _ _ hF
    have hφo : φ ∉ opsF' a its := fun c => by have := hN.fr φ c; rw [hF] at this; cases this
    have hdj : ∀ ψ, ψ ∈ bsF B → ψ ∉ opsF' a its := fun ψ h1 h2 => by obtain ⟨F, e⟩ := hI.live h1; rw [hN.fr ψ h2] at e; cases e
    have ix := idx_own (st := 0) (off := 0) hF2 hlt
    rw [Nat.zero_add] at ix
    simp only [ix, RR]
    have hrl : (B.map encBI).length = i := by simpa using hil
    refine sto_own (cs := [iv bs[i].args, a]) hF2 (by simp; omega) ?_ rfl rfl (one2 rfl hN.one) ?_
    · rw [getD_end hrl (by omega)]; rfl
    rw [set_end hrl (by omega)]
    simp only [ibin_up hlt (by omega), RR]
    refine hR' _ _ _ hlt (.refl _) ⟨B ++ [⟨bs[i].args, a, its⟩], ?_, rfl, ?_, ?_, ?_, ?_, ?_, ?_⟩
    · rw [List.take_succ_eq_append_getElem hlt, cont, List.map_append, ← cont, hits]
      simp only [List.map_cons, List.map_nil, hits2]
    · rw [AH.set_same]
      simp only [List.map_append, List.append_assoc, List.map_cons, List.map_nil, List.singleton_append]
      rw [show bs.length - i - 1 = bs.length - (i + 1) by omega]
    · intro ψ F h1
      have n1 : ¬ ψ = φ := by rintro rfl; rw [hφ] at h1; cases h1
      rw [AH.set_ne' n1]; exact hN.sub _ _ (hsub ψ F h1)
    · intro p hp
      rcases List.mem_append.1 hp with hp | hp
      · refine (hI p hp).keep fun ψ hψ => ?_
        have hm : ψ ∈ bsF B := List.mem_flatMap.2 ⟨p, hp, hψ⟩
        obtain ⟨F, e⟩ := hI.live hm
        rw [AH.set_ne' (by rintro rfl; exact hφi hm), e]
        exact hN.sub _ _ e
      · obtain rfl : p = ⟨bs[i].args, a, its⟩ := by simpa using hp
        exact hN.own.keep fun ψ hψ => AH.set_ne' (by rintro rfl; exact hφo hψ)
    · rw [bsF_app, nodup_app]
      refine ⟨hnd, by simpa [bsF, biF] using hN.nd, fun x hx c => hdj x hx (by simpa [bsF, biF] using c)⟩
    · rw [bsF_app]
      intro c
      rcases List.mem_append.1 c with c | c
      · exact hφi c
      · exact hφo (by simpa [bsF, biF] using c)
    · intro ψ hψ
      rw [bsF_app] at hψ
      rcases List.mem_append.1 hψ with c | c
      · exact hfr ψ c
      · exact hsub.none (hN.fr ψ (by simpa [bsF, biF] using c))
  · have g : ¬ (i : Int) < (bs.length : Int) := by omega
    obtain rfl : i = bs.length := by omega
    simp only [len_ro, g, RR]
    rw [Nat.sub_self, List.replicate_zero, List.append_nil] at hF
    rw [List.take_length] at hits
    refine ret_here (h _ B τ hits ⟨⟨.inr ⟨φ, 0, by simp [hil], hF⟩, hI⟩, ?_, ?_, hsub⟩)
    · rw [blksF, nodup_app]
      exact ⟨famL_nodup _, hnd, fun x hx c => hφi (by obtain rfl : x = φ := by simpa [famL] using hx
                                                      exact c)⟩
    · intro ψ hψ
      rcases List.mem_append.1 hψ with c | c
      · obtain rfl : ψ = φ := by simpa [famL] using c
        exact hφ
      · exact hfr ψ c
theorem NewB.one {v : AV} {bs : List BI} (h : NewB σ τ v bs) : v.one = true := by
  rcases h.own.1 with ⟨rfl | rfl, _⟩ | ⟨φ, st, rfl, _⟩ <;> rfl
/-! ### lent -/
theorem nomH_none : NomH ah0 := fun φ F h => by cases h
theorem thaw_none (σ : AH) : thaw ah0 σ ah0 = σ := by
  funext φ
  unfold thaw
  cases e : σ φ <;> simp [ah0]
theorem sub_none (τ : AH) : AH.Sub ah0 τ := fun φ F h => by cases h
/-- A call that only reads. -/
theorem lend_val {f : FuncId} {args args' : List AV} {v : AV} {K : AEnd → AH → Prop} (hv : Nom v) (hl : args.length = args'.length) (hf : ∀ i, i < args.length → Fz ah0 τ (args.getD i .any) (args'.getD i .any))
    (h : ∀ R : AEnd → AH → Prop, R (.ret v) ah0 → acall TP f args' ah0 R) (hK : K (.ret v) τ) : acall TP f args τ K := by
  refine (acall_lend (σ0 := ah0) (args := args) (args' := args') (Q := fun e σ1 => e = .ret v ∧ σ1 = ah0) (sub_none τ) hl hf (h _ ⟨hv, nomH_none, rfl, rfl⟩)).mono ?_
  rintro e σ' ⟨σ1, ⟨rfl, rfl⟩, rfl, _⟩
  rw [thaw_none]
  exact hK
theorem fz0_blks {v : AV} {bs : List BI} (h : BlksH τ v bs) : Fz ah0 τ v (roBk (cont bs)) := fz_blks h fun _ _ => rfl
theorem lend_eqCodeResult {c : Int} {v : AV} {B : List BI} {K : AEnd → AH → Prop} (h : BlksH τ v B) (hb : bC 1048576 (cont B)) (hK : K (.ret (bv true)) τ) : acall TP fn_laws_eqCodeResult [.agg [iv c, v], .agg [iv c, roBk (cont B)]] τ K := by
  refine lend_val (args' := [.agg [iv c, roBk (cont B)], .agg [iv c, roBk (cont B)]]) (.val _) rfl (fun i hi => ?_) (fun R hR => c_laws_eqCodeResult hb hR) hK
  match i, hi with
  | 0, _ => exact Fz.agg2 (.same _) (fz0_blks h)
  | 1, _ => exact .same _
theorem lend_eqBlockS {v : AV} {B : List BI} {K : AEnd → AH → Prop} (h : BlksH τ v B) (hb : bC 1048576 (cont B)) (hK : K (.ret (bv true)) τ) : acall TP fn_laws_eqBlockS [v, roBk (cont B)] τ K := by
  refine lend_val (args' := [roBk (cont B), roBk (cont B)]) (.val _) rfl (fun i hi => ?_) (fun R hR => c_laws_eqBlockS hb hR) hK
  match i, hi with
  | 0, _ => exact fz0_blks h
  | 1, _ => exact .same _
theorem lend_held {c k : Int} {v : AV} {B : List BI} {bs : List Blk} {K : AEnd → AH → Prop} (h : BlksH τ v B) (hB : cont B = mkBksD k bs) (h0 : 0 ≤ k) (h1 : blksK k bs ≤ 9000000000000000000) (hK : K (.ret (iv (blksK k bs))) τ) : acall TP fn_laws_heldCodeResult [.agg [iv c, v], iv k] τ K := by
  refine lend_val (args' := [.agg [iv c, roBk (mkBksD k bs)], iv k]) (.val _) rfl (fun i hi => ?_) (fun R hR => c_laws_heldCodeResult h0 h1 hR) hK
  match i, hi with
  | 0, _ => exact Fz.agg2 (.same _) (hB ▸ fz0_blks h)
  | 1, _ => exact .same _
end Go.Proofs.YtlggnigbemghgaaGreatDoor.E
/- Code that is owned: growing; copies that the program makes. -/
set_option linter.unusedSectionVars false
set_option linter.unusedSimpArgs false
set_option linter.unusedVariables false
namespace Go.Proofs.YtlggnigbemghgaaGreatDoor.E
open Go Go.RowKit
set_option maxRecDepth 100000
variable [L : Lam]
variable {σ τ τ' : AH} {R : AEnd → AH → Prop}
def isSl (T : Tab) (t : TypeId) : Bool := match T t with
  | some ti => match ti.under with | .slice _ => true | _ => false
  | none => false
theorem eql_ro {T : Tab} {t : TypeId} {es : List (List AV)} {k : AV → Prop} (hu : isSl T t = true) (h : ∀ b : Bool, (es ≠ [] → b = false) → k (bv b)) : abin T .eql t (.ro es) (.val (.slice none 0 0)) k := by
  unfold isSl at hu
  split at hu
  case h_2 => cases hu
  rename_i ti ht
  split at hu
  case h_2 => cases hu
  rename_i e he
  unfold abin aeql
  simp only [ht, he]
  exact h
/-- What stays: all that was there, but these families. -/
def Kp (F : List Nat) (τ τ' : AH) : Prop := ∀ ψ, ψ ∉ F → τ ψ ≠ none → τ' ψ = τ ψ
theorem Kp.refl (F : List Nat) (τ : AH) : Kp F τ τ := fun _ _ _ => rfl
theorem Kp.of_sub {F : List Nat} (h : AH.Sub τ τ') : Kp F τ τ' := fun ψ _ hn => by
  cases e : τ ψ with
  | none => exact absurd e hn
  | some G => exact h _ _ e
theorem Kp.trans {F F' : List Nat} {a b c : AH} (h : Kp F a b) (k : Kp F' b c) (hF : ∀ ψ, ψ ∈ F' → ψ ∈ F ∨ a ψ = none) : Kp F a c := fun ψ hψ hn => by
  have e := h ψ hψ hn
  rw [k ψ (fun c => (hF ψ c).elim hψ hn) (by rw [e]; exact hn), e]
theorem Kp.sub {F : List Nat} (h : Kp F τ τ') (hs : AH.Sub σ τ) (hf : ∀ ψ, ψ ∈ F → σ ψ = none) : AH.Sub σ τ' := fun ψ G hG => by
  have h1 := hs _ _ hG
  rw [h ψ (fun c => by rw [hf ψ c] at hG; cases hG) (by rw [h1]; simp), h1]
theorem live_ne {ψ : Nat} (h : ∃ F, τ ψ = some F) : τ ψ ≠ none := by obtain ⟨F, e⟩ := h; rw [e]; simp
theorem Kp.ops {F : List Nat} {v : AV} {its : Its} (k : Kp F τ τ') (h : OpsH τ v its) (hd : ∀ ψ, ψ ∈ opsF' v its → ψ ∉ F) : OpsH τ' v its := h.keep fun ψ hψ => k ψ (hd ψ hψ) (live_ne (h.live hψ))
theorem Kp.its {F : List Nat} {its : Its} (k : Kp F τ τ') (h : ItsH τ its) (hd : ∀ ψ, ψ ∈ itsF its → ψ ∉ F) : ItsH τ' its := h.keep fun ψ hψ => k ψ (hd ψ hψ) (live_ne (h.live hψ))
theorem Kp.blks {F : List Nat} {v : AV} {B : List BI} (k : Kp F τ τ') (h : BlksH τ v B) (hd : ∀ ψ, ψ ∈ blksF v B → ψ ∉ F) : BlksH τ' v B := h.keep fun ψ hψ => k ψ (hd ψ hψ) (live_ne (h.live hψ))
theorem Kp.buf {F : List Nat} {sz : Nat} {a : AV} {es : List (List AV)} (k : Kp F τ τ') (h : Buf τ sz a es) (hd : ∀ ψ, ψ ∈ famL a → ψ ∉ F) : Buf τ' sz a es := buf_keep h fun ψ hψ => k ψ (hd ψ hψ) (live_ne (buf_live h hψ))
theorem buf_app {sz : Nat} {a x : AV} {es xs : List (List AV)} {k : AV → AH → Prop} (h : Buf τ sz a es) (hx : aelems τ x = some xs) (hs : ∀ c, c ∈ xs → c.length = sz) (ho : ∀ c, c ∈ xs → ∀ y, y ∈ c → y.one = true) (hn : es.length + xs.length ≤ 4294967296)
    (hk : ∀ a' τ', Buf τ' sz a' (es ++ xs) → Kp (famL a) τ τ' → (∀ ψ, ψ ∈ famL a' → ψ ∈ famL a ∨ τ ψ = none) → k a' τ') : app sz a x τ k :=
  h.app hx hs ho hn fun a' τ' h1 h2 h3 _ => hk a' τ' h1 (fun ψ hψ hn => h2 ψ (fun c => hψ (famL_mem.2 c)) hn) fun ψ hψ => (h3 ψ (famL_mem.1 hψ)).imp famL_mem.2 id
theorem NewO.app {v x : AV} {its qs : Its} {k : AV → AH → Prop} (h : NewO σ τ v its) (hx : aelems τ x = some (qs.map encIt)) (hq : ItsH τ qs) (hnd : (itsF its ++ itsF qs).Nodup) (hd : ∀ ψ, ψ ∈ itsF qs → ψ ∉ famL v) (hf : ∀ ψ, ψ ∈ itsF qs → σ ψ = none)
    (ho : ∀ p, p ∈ qs → p.2.one = true) (hn : its.length + qs.length ≤ 4294967296)
    (hk : ∀ v' τ', NewO σ τ' v' (its ++ qs) → Kp (famL v) τ τ' → (∀ ψ, ψ ∈ famL v' → ψ ∈ famL v ∨ τ ψ = none) → k v' τ') : E.app 7 v x τ k := by
  refine buf_app h.own.1 hx (by intro c hc; obtain ⟨p, _, rfl⟩ := List.mem_map.1 hc; rfl) ?_ (by simpa using hn) fun v' τ' hB hK hfam => hk v' τ' ?_ hK hfam
  · intro c hc y hy
    obtain ⟨p, hp, rfl⟩ := List.mem_map.1 hc
    simp only [encOpA, List.mem_cons, List.not_mem_nil, or_false] at hy
    rcases hy with rfl | rfl | rfl | rfl | rfl | rfl | rfl <;> first | rfl | exact ho p hp
  obtain ⟨n1, n2, n3⟩ := nodup_app.1 h.nd
  have hdd : ∀ ψ, ψ ∈ itsF (its ++ qs) → ψ ∉ famL v := by
    intro ψ hψ c
    rw [itsF_append] at hψ
    rcases List.mem_append.1 hψ with hψ | hψ
    · exact n3 ψ c hψ
    · exact hd ψ hψ c
  have hI : ItsH τ (its ++ qs) := by
    intro p hp
    rcases List.mem_append.1 hp with hp | hp
    · exact h.own.2 p hp
    · exact hq p hp
  refine ⟨⟨by rw [List.map_append]; exact hB, hK.its hI hdd⟩, ?_, ?_, hK.sub h.sub fun ψ hψ => h.fr ψ (List.mem_append_left _ hψ)⟩
  · rw [opsF', nodup_app]
    refine ⟨famL_nodup _, by rw [itsF_append]; exact hnd, fun ψ hψ c => ?_⟩
    rcases hfam ψ hψ with h1 | h1
    · exact hdd ψ c h1
    · obtain ⟨F, e⟩ := hI.live c
      rw [h1] at e; cases e
  · intro ψ hψ
    rcases List.mem_append.1 hψ with hψ | hψ
    · rcases hfam ψ hψ with h1 | h1
      · exact h.fr ψ (List.mem_append_left _ h1)
      · exact h.sub.none h1
    · rw [itsF_append] at hψ
      rcases List.mem_append.1 hψ with hψ | hψ
      · exact h.fr ψ (List.mem_append_right _ hψ)
      · exact hf ψ hψ
theorem NewO.grow {v : AV} {its : Its} (h : NewO σ τ v its) (hs : AH.Sub τ τ') : NewO σ τ' v its :=
  ⟨(Kp.of_sub (F := []) hs).ops h.own (fun _ _ c => by cases c), h.nd, h.fr, h.sub.trans hs⟩
theorem NewB.grow {v : AV} {B : List BI} (h : NewB σ τ v B) (hs : AH.Sub τ τ') : NewB σ τ' v B :=
  ⟨(Kp.of_sub (F := []) hs).blks h.own (fun _ _ c => by cases c), h.nd, h.fr, h.sub.trans hs⟩
/-- A literal of one row. -/
theorem bsl1 {sz : Nat} {z row : List AV} {x : AV} {k : AV → AH → Prop} (he : afillS sz [z] [(0, x)] = some [row]) (hs : sz ≤ 16777216) (h : ∀ ψ, τ ψ = none → k (.own ψ 0 0 1) (τ.set ψ ⟨0, sz, [row]⟩)) : bsl sz z 1 [(0, x)] τ k := by
  unfold bsl
  have e : List.replicate 1 z = [z] := rfl
  rw [e, he]
  exact ⟨by omega, by rw [if_neg (by decide)]; exact h⟩
theorem bsl0 {sz : Nat} {z : List AV} {k : AV → AH → Prop} (h : k .emp τ) : bsl sz z 0 [] τ k := ⟨by omega, by rw [if_pos rfl]; exact h⟩
theorem ael1 {ψ sz : Nat} {row : List AV} : aelems (τ.set ψ ⟨0, sz, [row]⟩) (.own ψ 0 0 1) = some [row] := by simp [aelems]
/-- One operation more. -/
theorem NewO.push {v : AV} {its : Its} {p : OpD × AV} {z : List AV} {k : AV → AH → Prop} (h : NewO σ τ v its) (he : afillS 7 [z] [(0, .agg (encIt p))] = some [encIt p]) (hq : Buf τ 4 p.2 (p.1.data.map encDat)) (hd : ∀ ψ, ψ ∈ famL p.2 → ψ ∉ opsF' v its) (hf : ∀ ψ, ψ ∈ famL p.2 → σ ψ = none)
    (ho : p.2.one = true) (hn : its.length + 1 ≤ 4294967296)
    (hk : ∀ v' τ', NewO σ τ' v' (its ++ [p]) → Kp (famL v) τ τ' → (∀ ψ, ψ ∈ famL v' → ψ ∈ famL v ∨ τ ψ = none) → k v' τ') : bsl 7 z 1 [(0, .agg (encIt p))] τ fun x τ => E.app 7 v x τ k := by
  refine bsl1 he (by omega) fun ψ hψ => ?_
  have hs : AH.Sub τ (τ.set ψ ⟨0, 7, [encIt p]⟩) := .set (.refl τ) _ hψ
  have e1 : itsF [p] = famL p.2 := by simp [itsF]
  refine (h.grow hs).app (qs := [p]) ael1 ?_ ?_ ?_ (by rw [e1]; exact hf) (by intro q hq; obtain rfl : q = p := by simpa using hq
                                                                              exact ho) hn fun v' τ' h1 h2 h3 => hk v' τ' h1 ?_ ?_
  · intro q hq'
    obtain rfl : q = p := by simpa using hq'
    exact (Kp.of_sub (F := []) hs).buf hq (fun _ _ c => by cases c)
  · rw [e1, nodup_app]
    exact ⟨(nodup_app.1 h.nd).2.1, famL_nodup _, fun x hx c => hd x c (List.mem_append_right _ hx)⟩
  · rw [e1]; exact fun ψ hψ c => hd ψ hψ (List.mem_append_left _ c)
  · exact fun χ hχ hn => by rw [h2 χ hχ (by rw [AH.set_ne' (by rintro rfl; exact hn hψ)]; exact hn), AH.set_ne' (by rintro rfl; exact hn hψ)]
  · intro χ hχ
    rcases h3 χ hχ with c | c
    · exact .inl c
    · exact .inr (hs.none c)
theorem NewO.emp (h : AH.Sub σ τ) : NewO σ τ .emp [] := ⟨⟨.inl ⟨.inr rfl, rfl⟩, fun p hp => by cases hp⟩, .nil, (fun ψ c => by cases c), h⟩
theorem NewB.emp (h : AH.Sub σ τ) : NewB σ τ .emp [] := ⟨⟨.inl ⟨.inr rfl, rfl⟩, fun p hp => by cases hp⟩, .nil, (fun ψ c => by cases c), h⟩
/-- One block more. -/
theorem NewB.push {v a : AV} {B : List BI} {its : Its} {n : Int} {z : List AV} {k : AV → AH → Prop} (h : NewB σ τ v B) (he : afillS 2 [z] [(0, .agg [iv n, a])] = some [[iv n, a]]) (hq : OpsH τ a its) (hqn : (opsF' a its).Nodup) (hd : ∀ ψ, ψ ∈ opsF' a its → ψ ∉ blksF v B)
    (hf : ∀ ψ, ψ ∈ opsF' a its → σ ψ = none) (ho : a.one = true) (hn : B.length + 1 ≤ 4294967296) (hk : ∀ v' τ', NewB σ τ' v' (B ++ [⟨n, a, its⟩]) → k v' τ') : bsl 2 z 1 [(0, .agg [iv n, a])] τ fun x τ => E.app 2 v x τ k := by
  refine bsl1 he (by omega) fun ψ hψ => ?_
  have hs : AH.Sub τ (τ.set ψ ⟨0, 2, [[iv n, a]]⟩) := .set (.refl τ) _ hψ
  have h' := h.grow hs
  have hq' : OpsH (τ.set ψ ⟨0, 2, [[iv n, a]]⟩) a its := (Kp.of_sub (F := []) hs).ops hq (fun _ _ c => by cases c)
  refine buf_app h'.own.1 ael1 (by intro c hc; obtain rfl : c = [iv n, a] := by simpa using hc
                                   rfl) ?_ (by simpa using hn) fun v' τ' hB hK hfam => hk v' τ' ?_
  · intro c hc y hy
    obtain rfl : c = [iv n, a] := by simpa using hc
    simp only [List.mem_cons, List.not_mem_nil, or_false] at hy
    rcases hy with rfl | rfl
    · rfl
    · exact ho
  obtain ⟨n1, n2, n3⟩ := nodup_app.1 h.nd
  have e1 : bsF (B ++ [⟨n, a, its⟩]) = bsF B ++ opsF' a its := by rw [bsF_app]; simp [bsF, biF]
  have hdd : ∀ ψ, ψ ∈ bsF (B ++ [⟨n, a, its⟩]) → ψ ∉ famL v := by
    intro ψ hψ c
    rw [e1] at hψ
    rcases List.mem_append.1 hψ with hψ | hψ
    · exact n3 ψ c hψ
    · exact hd ψ hψ (List.mem_append_left _ c)
  have hI : BisH (τ.set ψ ⟨0, 2, [[iv n, a]]⟩) (B ++ [⟨n, a, its⟩]) := by
    intro p hp
    rcases List.mem_append.1 hp with hp | hp
    · exact h'.own.2 p hp
    · obtain rfl : p = ⟨n, a, its⟩ := by simpa using hp
      exact hq'
  refine ⟨⟨by rw [List.map_append]; exact hB, hI.keep fun χ hχ => hK χ (hdd χ hχ) (live_ne (hI.live hχ))⟩, ?_, ?_, hK.sub h'.sub fun ψ hψ => h.fr ψ (List.mem_append_left _ hψ)⟩
  · show (famL v' ++ bsF (B ++ [⟨n, a, its⟩])).Nodup
    rw [nodup_app]
    refine ⟨famL_nodup _, ?_, fun χ hχ c => ?_⟩
    · rw [e1, nodup_app]
      exact ⟨n2, hqn, fun x hx c => hd x c (List.mem_append_right _ hx)⟩
    rcases hfam χ hχ with h1 | h1
    · exact hdd χ c h1
    · obtain ⟨F, e⟩ := hI.live c
      rw [h1] at e; cases e
  · intro χ hχ
    have hχ : χ ∈ famL v' ++ bsF (B ++ [⟨n, a, its⟩]) := hχ
    rcases List.mem_append.1 hχ with hχ | hχ
    · rcases hfam χ hχ with h1 | h1
      · exact h.fr χ (List.mem_append_left _ h1)
      · exact h'.sub.none h1
    · rw [e1] at hχ
      rcases List.mem_append.1 hχ with hχ | hχ
      · exact h.fr χ (List.mem_append_right _ hχ)
      · exact hf χ hχ
theorem sl_data : isSl TT ty_LRiiisE = true := by kernel_rfl
theorem c_slices_Clone {ds : List Dat} (hl : ds.length ≤ 4294967296) (h : ∀ a τ', Buf τ' 4 a (ds.map encDat) → (∀ ψ, ψ ∈ famL a → σ ψ = none) → AH.Sub σ τ' → R (.ret a) τ') : acall TP fn_slices_Clone [roD ds] σ R := by
  refine s_slices_Clone_ok ?_
  unfold s_slices_Clone
  refine eql_ro sl_data fun b hb => ?_
  cases b with
  | true =>
    have e : ds = [] := by
      refine Classical.byContradiction fun c => ?_
      have := hb (by simpa using c)
      cases this
    subst e
    simp only [RR]
    exact ret_here (h _ σ (.inl ⟨.inl rfl, rfl⟩) (fun ψ c => by cases c) (.refl σ))
  | false =>
    simp only [RR]
    refine bsl0 ?_
    refine buf_app (es := []) (.inl ⟨.inr rfl, rfl⟩) (xs := ds.map encDat) rfl (by intro c hc; obtain ⟨x, _, rfl⟩ := List.mem_map.1 hc; rfl) (by intro c hc y hy; obtain ⟨x, _, rfl⟩ := List.mem_map.1 hc; exact one_encDat x y hy) (by simpa using hl) fun a τ' h1 h2 h3 => ?_
    refine ret_here (h a τ' (by simpa using h1) (fun ψ hψ => (h3 ψ hψ).elim (fun c => by cases c) id) ?_)
    exact h2.sub (.refl σ) fun ψ c => by cases c
end Go.Proofs.YtlggnigbemghgaaGreatDoor.E
