/- Marks: what a law writes into arguments that were lent. -/
import Derived.Test.YtmmhaiidcfgbbaaGreatDoorP10
import Derived.Test.YtmmhaiidcfgbbaaGreatDoorPB
set_option linter.unusedSectionVars false
set_option linter.unusedSimpArgs false
set_option linter.unusedVariables false
namespace Go.Proofs.YtmmhaiidcfgbbaaGreatDoor.E
open Go Go.RowKit
variable [L : Lam]
variable {σ τ : AH} {R : AEnd → AH → Prop}
theorem aconv_bytes {T : Tab} {s d : TypeId} {x : AV} {es : List (List AV)} {bs : List UInt8} {k : AV → AH → Prop} (hb : bytesT T s d = true) (hx : aelems σ x = some es) (ha : abytes es = some bs) (hn : ∀ u, x ≠ .val (.string u)) (hi : ∀ kd n, x ≠ .val (.int kd n))
    (h : k (.val (.string ⟨bs.toArray⟩)) σ) : aconv T s d x σ k := by
  unfold bytesT at hb
  split at hb
  case h_2 => cases hb
  rename_i ts td h1 h2
  split at hb
  case h_2 => cases hb
  rename_i e h3 h4
  split at hb
  case h_2 => cases hb
  rename_i te h5
  split at hb
  case h_2 => cases hb
  rename_i h6
  unfold aconv
  simp only [h1, h2, h3, h4, h5, h6, hx, ha]
  exact ⟨Nat.eq_of_beq_eq_true hb, hn, h⟩
theorem sbin_add (a b : ByteArray) (h : a.size + b.size ≤ 4611686018427387904) : sbin .add (.val (.string a)) (.val (.string b)) = some (.val (.string (a ++ b))) := by
  show Option.map AV.val (if a.size + b.size ≤ 4611686018427387904 then some (.string (a ++ b)) else none) = _
  rw [if_pos h]
  rfl
theorem size_one (x : UInt8) : (⟨[x].toArray⟩ : ByteArray).size = 1 := rfl
theorem size_none : (⟨#[]⟩ : ByteArray).size = 0 := rfl
theorem size_m : (⟨#[109]⟩ : ByteArray).size = 1 := rfl
theorem bytes_Lb : bytesT TT ty_Lb ty_s = true := by kernel_rfl
set_option maxRecDepth 100000 in
theorem c_laws_markText {k : Int} (h0 : 0 ≤ k) (h1 : k ≤ 1000000000000000) (h : ∀ s : ByteArray, R (.ret (str s)) σ) : acall TP fn_laws_markText [iv k] σ R := by
  refine s_laws_markText_ok ?_
  unfold s_laws_markText
  by_cases c : k ≤ 0
  · simp only [c, RR]
    exact ret_here (h _)
  simp only [c, RR]
  refine lp_by (fun n x τ => ∃ (a : Int) (s : ByteArray), x = (iv a, str s, ()) ∧ τ = σ ∧ 0 ≤ a ∧ a.toNat = n ∧ (s.size : Int) + a ≤ k) k.toNat ⟨k, ⟨#[]⟩, rfl, rfl, by omega, rfl, by rw [size_none]; omega⟩ ?_
  rintro n x τ ⟨a, s, rfl, rfl, ha, hn, hsz⟩ R' hR'
  by_cases c2 : 0 < a
  · have hm : a % 10 < 10 := Int.emod_lt_of_pos _ (by omega)
    have hm0 : 0 ≤ a % 10 := Int.emod_nonneg _ (by omega)
    have e1 : ibin .rem (iv a) (.val (.int .i64 10)) = some (iv (a % 10)) := by
      show some (iv (a.tmod 10)) = _
      rw [Int.tmod_eq_emod_of_nonneg ha]
    have e2 : ibin .add (.val (.int .i64 48)) (iv (a % 10)) = some (iv (48 + a % 10)) := ibin_add (by omega) (by omega)
    have e3 : convI .u8 (iv (48 + a % 10)) = some (.val (.int .u8 (IntKind.u8.wrap (48 + a % 10)))) := rfl
    have e4 : ibin .quo (iv a) (.val (.int .i64 10)) = some (iv (a / 10)) := by
      show some (iv (IntKind.i64.wrap (a.tdiv 10))) = _
      rw [Int.tdiv_eq_ediv_of_nonneg ha, i64_wrap (by omega) (by omega)]
    simp only [c2, e1, e2, e3, RR]
    refine ⟨by decide, ?_⟩
    rw [if_neg (by decide)]
    intro ψ hψ
    have ha : ∀ w : Int, aelems (τ.set ψ ⟨0, 1, [[.val (.int .u8 w)]]⟩) (.own ψ 0 0 1) = some [[.val (.int .u8 w)]] := fun w => by simp [aelems]
    have hb : ∀ w : Int, abytes [[.val (.int .u8 w)]] = some [UInt8.ofNat w.toNat] := fun w => rfl
    refine aconv_bytes bytes_Lb (ha _) (hb _) (by intro u h; cases h) (by intro kd n h; cases h) ?_
    have es := sbin_add ⟨[UInt8.ofNat (IntKind.u8.wrap (48 + a % 10)).toNat].toArray⟩ s (by rw [size_one]; omega)
    simp only [es, e4, RR]
    refine hR' _ _ (a / 10).toNat τ (by omega) (.set (.refl τ) _ hψ) ⟨a / 10, _, rfl, rfl, by omega, rfl, ?_⟩
    rw [ByteArray.size_append, size_one]
    omega
  · have es := sbin_add ⟨#[109]⟩ s (by rw [size_m]; omega)
    simp only [c2, es, RR]
    exact ret_here (h _)
/-! ### what may be marked -/
def MkD (σ0 τ : AH) (a : AV) : Prop := ∃ φ es, a = .own φ 0 0 es.length ∧ σ0 φ = none ∧ τ φ = some ⟨0, 4, es⟩ ∧ es.length ≤ 1048576 ∧ ∀ c, c ∈ es → c.length = 4
def MkO (σ0 τ : AH) (a : AV) : Prop := ∃ φ es, a = .own φ 0 0 es.length ∧ σ0 φ = none ∧ τ φ = some ⟨0, 7, es⟩ ∧ es.length ≤ 1048576 ∧ ∀ c, c ∈ es → c.length = 7 ∧ MkD σ0 τ (c.getD 6 .any)
/-- What marks leave of a heap: families keep their shapes, and the last cells of operations; rows of one cell stay. -/
structure Mrk (τ τ' : AH) : Prop where
  one : ∀ φ F, τ φ = some F → F.sz = 1 → τ' φ = some F
  four : ∀ φ es, τ φ = some ⟨0, 4, es⟩ → (∀ c, c ∈ es → c.length = 4) → ∃ es', τ' φ = some ⟨0, 4, es'⟩ ∧ es'.length = es.length ∧ ∀ c, c ∈ es' → c.length = 4
  seven : ∀ φ es, τ φ = some ⟨0, 7, es⟩ → (∀ c, c ∈ es → c.length = 7) → ∃ es', τ' φ = some ⟨0, 7, es'⟩ ∧ es'.length = es.length ∧ (∀ c, c ∈ es' → c.length = 7) ∧ ∀ i, (es'.getD i []).getD 6 .any = (es.getD i []).getD 6 .any
theorem Mrk.refl (τ : AH) : Mrk τ τ := ⟨fun _ _ h _ => h, fun _ es h hc => ⟨es, h, rfl, hc⟩, fun _ es h hc => ⟨es, h, rfl, hc, fun _ => rfl⟩⟩
theorem Mrk.trans {a b c : AH} (h : Mrk a b) (k : Mrk b c) : Mrk a c := by
  refine ⟨fun φ F h1 h2 => k.one φ F (h.one φ F h1 h2) h2, fun φ es h1 h2 => ?_, fun φ es h1 h2 => ?_⟩
  · obtain ⟨e1, a1, a2, a3⟩ := h.four φ es h1 h2
    obtain ⟨e2, b1, b2, b3⟩ := k.four φ e1 a1 a3
    exact ⟨e2, b1, by omega, b3⟩
  · obtain ⟨e1, a1, a2, a3, a4⟩ := h.seven φ es h1 h2
    obtain ⟨e2, b1, b2, b3, b4⟩ := k.seven φ e1 a1 a3
    exact ⟨e2, b1, by omega, b3, fun i => (b4 i).trans (a4 i)⟩
theorem Mrk.sub {τ τ' τ'' : AH} (h : Mrk τ τ') (s : AH.Sub τ' τ'') : Mrk τ τ'' :=
  ⟨fun φ F h1 h2 => s _ _ (h.one φ F h1 h2), fun φ es h1 h2 => by obtain ⟨e, a, b⟩ := h.four φ es h1 h2; exact ⟨e, s _ _ a, b⟩, fun φ es h1 h2 => by obtain ⟨e, a, b⟩ := h.seven φ es h1 h2; exact ⟨e, s _ _ a, b⟩⟩
theorem MkD.mrk {σ0 τ' : AH} {a : AV} (h : MkD σ0 τ a) (k : Mrk τ τ') : MkD σ0 τ' a := by
  obtain ⟨φ, es, h1, h2, h3, h4, h5⟩ := h
  obtain ⟨es', a1, a2, a3⟩ := k.four φ es h3 h5
  exact ⟨φ, es', by rw [h1, a2], h2, a1, by omega, a3⟩
/-- A number or a text is written into a cell. -/
theorem Mrk.set {φ sz i off : Nat} {es : List (List AV)} {v : AV} (hF : τ φ = some ⟨0, sz, es⟩) (hs : sz = 4 ∨ (sz = 7 ∧ off < 6)) (hi : i < es.length) : Mrk τ (τ.set φ ⟨0, sz, es.set i ((es[i]).set off v)⟩) := by
  have hlen : ∀ n, (∀ c, c ∈ es → c.length = n) → ∀ c, c ∈ es.set i ((es[i]).set off v) → c.length = n := by
    intro n h c hc
    rcases List.mem_or_eq_of_mem_set hc with h1 | rfl
    · exact h c h1
    · simpa using h _ (List.getElem_mem hi)
  refine ⟨fun ψ F h1 h2 => ?_, fun ψ fs h1 h2 => ?_, fun ψ fs h1 h2 => ?_⟩
  · have : ¬ ψ = φ := by
      rintro rfl; rw [hF] at h1; cases h1
      rcases hs with h | ⟨h, _⟩ <;> (simp only at h2; omega)
    rw [AH.set_ne' this]; exact h1
  · by_cases e : ψ = φ
    · subst e
      rw [hF] at h1; cases h1
      exact ⟨_, AH.set_same .., by simp, hlen 4 h2⟩
    · exact ⟨fs, by rw [AH.set_ne' e]; exact h1, rfl, h2⟩
  · by_cases e : ψ = φ
    · subst e
      rw [hF] at h1; cases h1
      have ho : off < 6 := by rcases hs with h | ⟨_, h⟩ <;> omega
      refine ⟨_, AH.set_same .., by simp, hlen 7 h2, fun j => ?_⟩
      by_cases ej : j = i
      · subst ej
        have e1 : (es.set j ((es[j]).set off v)).getD j [] = (es[j]).set off v := by simp [List.getD, hi]
        have e2 : es.getD j [] = es[j] := by simp [List.getD, hi]
        rw [e1, e2]
        simp only [List.getD]
        rw [List.getElem?_set_ne (by omega)]
      · have e1 : (es.set i ((es[i]).set off v)).getD j [] = es.getD j [] := by simp only [List.getD]; rw [List.getElem?_set_ne (by omega)]
        rw [e1]
    · exact ⟨fs, by rw [AH.set_ne' e]; exact h1, rfl, h2, fun _ => rfl⟩
/-- One store of a mark. -/
theorem mark_sto {φ sz i off n : Nat} {es : List (List AV)} {v : AV} {k : AH → Prop} (hF : τ φ = some ⟨0, sz, es⟩) (hn : es.length = n) (hs : sz = 4 ∨ (sz = 7 ∧ off < 6)) (ho : off < sz) (hi : i < n) (h1 : v.one = true)
    (h : ∀ τ', Mrk τ τ' → (∃ es', τ' φ = some ⟨0, sz, es'⟩ ∧ es'.length = n) → k τ') : sto 1 (.ptr φ 0 i off) v τ k := by
  refine sto_fld hF (List.getElem?_eq_getElem (by omega)) ho (acells_one h1) h1 ?_
  exact h _ (Mrk.set hF hs (by omega)) ⟨_, AH.set_same .., by simpa using hn⟩
theorem c_laws_markDatumS {σ0 : AH} {a : AV} {k : Int} (h : MkD σ0 τ a) (h0 : 0 ≤ k) (h1 : k ≤ 100000000000000) (hR : ∀ (k' : Int) (τ' : AH), k ≤ k' → k' ≤ k + 4194304 → Mrk τ τ' → R (.ret (iv k')) τ') : acall TP fn_laws_markDatumS [a, iv k] τ R := by
  obtain ⟨φ, es, rfl, hφ, hF, hl, hc⟩ := h
  refine s_laws_markDatumS_ok ?_
  unfold s_laws_markDatumS
  refine lp_by (fun n x τ' => ∃ (i : Nat) (m : Int), i + n = es.length ∧ x = (.own φ 0 0 es.length, iv m, iv (i : Int), ()) ∧ Mrk τ τ' ∧ m = k + 4 * i) es.length ⟨0, k, by omega, rfl, .refl τ, by omega⟩ ?_
  rintro n x τ1 ⟨i, m, hn, rfl, hM, hm⟩ R' hR'
  obtain ⟨es1, g1, g2, g3⟩ := hM.four φ es hF hc
  simp only [len_own, RR]
  by_cases hi : i < es.length
  · have g : (i : Int) < (es.length : Int) := by omega
    have ix : ∀ (τ2 : AH) (es2 : List (List AV)), τ2 φ = some ⟨0, 4, es2⟩ → idx 4 (.own φ 0 0 es.length) (iv (i : Int)) τ2 = some (.ptr φ 0 i 0) := fun τ2 es2 h => by
      have := idx_own (st := 0) (off := 0) h hi
      rwa [Nat.zero_add] at this
    have a1 : ibin .add (iv m) (.val (.int .i64 1)) = some (iv (m + 1)) := ibin_add (by omega) (by omega)
    have a2 : ibin .add (iv (m + 1)) (.val (.int .i64 1)) = some (iv (m + 1 + 1)) := ibin_add (by omega) (by omega)
    have a3 : ibin .add (iv (m + 1 + 1)) (.val (.int .i64 1)) = some (iv (m + 1 + 1 + 1)) := ibin_add (by omega) (by omega)
    have a4 : ibin .add (iv (m + 1 + 1 + 1)) (.val (.int .i64 1)) = some (iv (m + 1 + 1 + 1 + 1)) := ibin_add (by omega) (by omega)
    simp only [g, ix τ1 es1 g1, RR]
    refine mark_sto g1 g2 (.inl rfl) (by omega) hi rfl fun τ2 m2 ⟨es2, g4, g5⟩ => ?_
    simp only [a1, ix τ2 es2 g4, RR]
    refine mark_sto g4 g5 (.inl rfl) (by omega) hi rfl fun τ3 m3 ⟨es3, g6, g7⟩ => ?_
    simp only [a2, ix τ3 es3 g6, RR]
    refine mark_sto g6 g7 (.inl rfl) (by omega) hi rfl fun τ4 m4 ⟨es4, g8, g9⟩ => ?_
    simp only [a3, RR]
    refine c_laws_markText (by omega) (by omega) fun s => ?_
    simp only [ix τ4 es4 g8, RR]
    refine mark_sto g8 g9 (.inl rfl) (by omega) hi rfl fun τ5 m5 _ => ?_
    simp only [a4, ibin_up hi (by omega), RR]
    exact hR' _ _ (n - 1) τ5 (by omega) (.refl _) ⟨i + 1, m + 1 + 1 + 1 + 1, by omega, rfl, hM.trans (m2.trans (m3.trans (m4.trans m5))), by omega⟩
  · have g : ¬ (i : Int) < (es.length : Int) := by omega
    simp only [g, RR]
    exact ret_here (hR m τ1 (by omega) (by omega) hM)
set_option maxHeartbeats 2000000 in
theorem c_laws_markOpS {σ0 : AH} {a : AV} (h : MkO σ0 τ a) (hR : ∀ (k' : Int) (τ' : AH), 0 ≤ k' → Mrk τ τ' → R (.ret (iv k')) τ') : acall TP fn_laws_markOpS [a, iv 1] τ R := by
  obtain ⟨φ, es, rfl, hφ, hF, hl, hc⟩ := h
  refine s_laws_markOpS_ok ?_
  unfold s_laws_markOpS
  have hc7 : ∀ c, c ∈ es → c.length = 7 := fun c h => (hc c h).1
  refine lp_by (fun n x τ' => ∃ (i : Nat) (m : Int), i + n = es.length ∧ x = (.own φ 0 0 es.length, iv m, iv (i : Int), ()) ∧ Mrk τ τ' ∧ 1 ≤ m ∧ m ≤ 1 + 5000000 * i) es.length ⟨0, 1, by omega, rfl, .refl τ, by omega, by omega⟩ ?_
  rintro n x τ1 ⟨i, m, hn, rfl, hM, hm0, hm⟩ R' hR'
  obtain ⟨es1, g1, g2, g3, gl⟩ := hM.seven φ es hF hc7
  simp only [len_own, RR]
  by_cases hi : i < es.length
  · have g : (i : Int) < (es.length : Int) := by omega
    have ix : ∀ (τ2 : AH) (es2 : List (List AV)), τ2 φ = some ⟨0, 7, es2⟩ → idx 7 (.own φ 0 0 es.length) (iv (i : Int)) τ2 = some (.ptr φ 0 i 0) := fun τ2 es2 h => by
      have := idx_own (st := 0) (off := 0) h hi
      rwa [Nat.zero_add] at this
    have a1 : ibin .add (iv m) (.val (.int .i64 1)) = some (iv (m + 1)) := ibin_add (by omega) (by omega)
    have a2 : ibin .add (iv (m + 1)) (.val (.int .i64 1)) = some (iv (m + 1 + 1)) := ibin_add (by omega) (by omega)
    have a3 : ibin .add (iv (m + 1 + 1)) (.val (.int .i64 1)) = some (iv (m + 1 + 1 + 1)) := ibin_add (by omega) (by omega)
    have a4 : ibin .add (iv (m + 1 + 1 + 1)) (.val (.int .i64 1)) = some (iv (m + 1 + 1 + 1 + 1)) := ibin_add (by omega) (by omega)
    have a5 : ibin .add (iv (m + 1 + 1 + 1 + 1)) (.val (.int .i64 1)) = some (iv (m + 1 + 1 + 1 + 1 + 1)) := ibin_add (by omega) (by omega)
    have a6 : ibin .add (iv (m + 1 + 1 + 1 + 1 + 1)) (.val (.int .i64 1)) = some (iv (m + 1 + 1 + 1 + 1 + 1 + 1)) := ibin_add (by omega) (by omega)
    simp only [g, ix τ1 es1 g1, RR]
    refine mark_sto g1 g2 (.inr ⟨rfl, by omega⟩) (by omega) hi rfl fun τ2 m2 ⟨es2, g4, g5⟩ => ?_
    simp only [a1, ix τ2 es2 g4, RR]
    refine mark_sto g4 g5 (.inr ⟨rfl, by omega⟩) (by omega) hi rfl fun τ3 m3 ⟨es3, g6, g7⟩ => ?_
    simp only [a2, ix τ3 es3 g6, RR]
    refine mark_sto g6 g7 (.inr ⟨rfl, by omega⟩) (by omega) hi rfl fun τ4 m4 ⟨es4, g8, g9⟩ => ?_
    simp only [a3, ix τ4 es4 g8, RR]
    refine mark_sto g8 g9 (.inr ⟨rfl, by omega⟩) (by omega) hi rfl fun τ5 m5 ⟨es5, g10, g11⟩ => ?_
    simp only [a4, ix τ5 es5 g10, RR]
    refine mark_sto g10 g11 (.inr ⟨rfl, by omega⟩) (by omega) hi rfl fun τ6 m6 ⟨es6, g12, g13⟩ => ?_
    simp only [a5, RR]
    refine c_laws_markText (by omega) (by omega) fun s => ?_
    simp only [ix τ6 es6 g12, RR]
    refine mark_sto g12 g13 (.inr ⟨rfl, by omega⟩) (by omega) hi rfl fun τ7 m7 _ => ?_
    have hM7 : Mrk τ τ7 := hM.trans (m2.trans (m3.trans (m4.trans (m5.trans (m6.trans m7)))))
    obtain ⟨es7, b1, b2, b3, b4⟩ := hM7.seven φ es hF hc7
    have hd := (hc _ (List.getElem_mem hi)).2
    have e6 : (es.getD i []) = es[i] := by simp [List.getD, hi]
    have hd7 : MkD σ0 τ7 ((es7.getD i []).getD 6 .any) := by rw [b4 i, e6]; exact hd.mrk hM7
    have hl7 : (es7.getD i [])[6]? = some ((es7.getD i []).getD 6 .any) := by
      have hi7 : i < es7.length := by omega
      have e7 : es7.getD i [] = es7[i] := by simp [List.getD, hi7]
      have := b3 _ (List.getElem_mem hi7)
      rw [e7]
      simp [List.getD, this]
    have el : lod (.ptr φ 0 i 6) τ7 = some ((es7.getD i []).getD 6 .any) := lod_at b1 rfl hl7
    simp only [a6, ix τ7 es7 b1, el, RR]
    refine c_laws_markDatumS hd7 (by omega) (by omega) fun k' τ8 k1 k2 m8 => ?_
    simp only [ibin_up hi (by omega), RR]
    exact hR' _ _ (n - 1) τ8 (by omega) (.refl _) ⟨i + 1, k', by omega, rfl, hM7.trans m8, by omega, by omega⟩
  · have g : ¬ (i : Int) < (es.length : Int) := by omega
    simp only [g, RR]
    exact ret_here (hR m τ1 (by omega) hM)
end Go.Proofs.YtmmhaiidcfgbbaaGreatDoor.E
