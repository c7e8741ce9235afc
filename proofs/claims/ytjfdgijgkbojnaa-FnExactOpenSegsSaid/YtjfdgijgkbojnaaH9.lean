/- Stacks of pieces, built. -/
import Derived.Test.YtjfdgijgkbojnaaH8
set_option linter.unusedSectionVars false
set_option linter.unusedSimpArgs false
set_option linter.unusedVariables false
namespace Go.Proofs.Ytjfdgijgkbojnaa.E
open Go Go.RowKit
variable [Lam]
variable {σ : AH} {R : AEnd → AH → Prop}
/-! ### pieces -/
def pcs (n : Nat) (xs : List Int) (k : Nat) : List (List Int) := (List.range k).map fun i => (xs.drop (i * n)).take n
@[simp] theorem pcs_length (n : Nat) (xs : List Int) (k : Nat) : (pcs n xs k).length = k := by simp [pcs]
theorem pcs_succ (n : Nat) (xs : List Int) (k : Nat) : pcs n xs (k + 1) = pcs n xs k ++ [(xs.drop (k * n)).take n] := by simp [pcs, List.range_succ]
theorem pcs_flat (n : Nat) (xs : List Int) (k : Nat) : (pcs n xs k).flatten = xs.take (k * n) := by
  induction k with
  | zero => simp [pcs]
  | succ k ih => rw [pcs_succ, List.flatten_append, ih, Nat.succ_mul, List.take_add]; simp
theorem pcs_ok {n : Nat} {xs : List Int} {k : Nat} (hn : 0 < n) (hk : ∀ j, j < k → j * n < xs.length) : OkP (n : Int) (pcs n xs k) := by
  intro i hi
  have hi' : i < k := by simpa using hi
  have e : (pcs n xs k)[i] = (xs.drop (i * n)).take n := by simp [pcs]
  have h1 := hk i hi'
  rw [e, List.length_take, List.length_drop]
  refine ⟨by omega, by omega, fun h => ?_⟩
  have h2 := hk (i + 1) (by simpa using h)
  rw [Nat.succ_mul] at h2
  omega
theorem okp_unique {size : Int} : ∀ {ps qs : List (List Int)}, OkP size ps → OkP size qs → ps.flatten = qs.flatten → ps = qs := by
  intro ps
  induction ps with
  | nil =>
    intro qs _ hq e
    cases qs with
    | nil => rfl
    | cons q qs =>
      have h1 := (hq 0 (by simp)).1
      have := congrArg List.length e
      simp at this h1
      omega
  | cons p ps ih =>
    intro qs hp hq e
    cases qs with
    | nil =>
      have h1 := (hp 0 (by simp)).1
      have := congrArg List.length e
      simp only [List.flatten_cons, List.length_append, List.flatten_nil, List.length_nil] at this
      simp only [List.getElem_cons_zero] at h1
      omega
    | cons q qs =>
      have hl : p.length = q.length := by
        obtain ⟨a1, a2, a3⟩ := hp 0 (by simp)
        obtain ⟨b1, b2, b3⟩ := hq 0 (by simp)
        simp only [List.getElem_cons_zero, List.length_cons] at a1 a2 a3 b1 b2 b3
        have el := congrArg List.length e
        simp only [List.flatten_cons, List.length_append] at el
        cases ps with
        | nil =>
          cases qs with
          | nil => simpa using el
          | cons r rs =>
            have c := (okAt_tail hq 0 (by simp)).1
            have b3 := b3 (by simp)
            simp only [List.getElem_cons_zero, List.flatten_nil, List.flatten_cons, List.length_nil, List.length_append] at c el
            omega
        | cons r rs =>
          have a3 := a3 (by simp)
          cases qs with
          | nil =>
            have c := (okAt_tail hp 0 (by simp)).1
            simp only [List.getElem_cons_zero, List.flatten_nil, List.flatten_cons, List.length_nil, List.length_append] at c el
            omega
          | cons s ss =>
            have b3 := b3 (by simp)
            omega
      have e' : p ++ ps.flatten = q ++ qs.flatten := by simpa using e
      obtain ⟨e1, e2⟩ := List.append_inj e' hl
      rw [e1, ih (okAt_tail hp) (okAt_tail hq) e2]

/-! ### a slice looked at for nil, and copied -/
def isSl (T : Tab) (t : TypeId) : Bool := match T t with
  | some ti => match ti.under with | .slice _ => true | _ => false
  | none => false
theorem eql_nil {T : Tab} {t : TypeId} {a : AV} {sz : Nat} {es : List (List AV)} {k : AV → Prop} (hu : isSl T t = true) (hS : Sl σ sz a es) (h : ∀ b : Bool, (es ≠ [] → b = false) → k (bv b)) : abin T .eql t a (.val (.slice none 0 0)) k := by
  unfold isSl at hu
  split at hu
  case h_2 => cases hu
  rename_i ti ht
  split at hu
  case h_2 => cases hu
  rename_i e he
  have key : aeql T t a (.val (.slice none 0 0)) (fun b => k (.val (.bool b))) := by
    unfold aeql
    simp only [ht, he]
    cases hS with
    | ro _ _ => exact fun b hb => h b hb
    | own _ _ _ _ _ _ _ _ _ _ => exact h false (fun _ => rfl)
    | emp => exact fun b => h b (fun h => absurd rfl h)
    | nil => exact h true (fun h => absurd rfl h)
  unfold abin
  cases hS <;> exact key
/-- What may be copied. -/
structure Src (σ : AH) (a : AV) (es : List (List AV)) : Prop where
  el : ∀ σ', AH.Sub σ σ' → aelems σ' a = some es
  nl : ∀ {T : Tab} {t : TypeId} {k : AV → Prop}, isSl T t = true → (∀ b : Bool, (es ≠ [] → b = false) → k (bv b)) → abin T .eql t a (.val (.slice none 0 0)) k
theorem Sl.src {sz : Nat} {a : AV} {es : List (List AV)} (h : Sl σ sz a es) : Src σ a es := ⟨fun σ' hs => (h.sub hs).elems, fun hu hk => eql_nil hu h hk⟩
theorem Src.sub {σ' : AH} {a : AV} {es : List (List AV)} (h : Src σ a es) (hs : AH.Sub σ σ') : Src σ' a es := ⟨fun σ2 h2 => h.el σ2 (hs.trans h2), h.nl⟩
theorem Src.vw {φ st off n : Nat} {F : Fam} (hF : σ φ = some F) (hst : F.st = st) (hl : off + n ≤ F.es.length) (hn : 0 < n) : Src σ (.vw φ st off n) ((F.es.drop off).take n) := by
  refine ⟨fun σ' hs => by simp [aelems, hs.at hF, hst, hl], ?_⟩
  intro T t k hu hk
  unfold isSl at hu
  split at hu
  case h_2 => cases hu
  rename_i ti ht
  split at hu
  case h_2 => cases hu
  rename_i e he
  unfold abin
  simp only
  unfold aeql
  simp only [ht, he]
  exact hk false fun _ => rfl
theorem Sl.slc3 {sz : Nat} {a : AV} {es : List (List AV)} (h : Sl σ sz a es) {l k : Nat} (h1 : l < k) (h2 : k ≤ es.length) :
    ∃ b, E.slc sz a (some (iv (l : Nat))) (some (iv (k : Nat))) (some (iv (k : Nat))) σ = some b ∧ Src σ b ((es.take k).drop l) := by
  have b0 : ∀ (i d : Nat), abd (some (iv (i : Nat))) d = some i := fun i d => by simp [abd]
  cases h with
  | ro _ h =>
    refine ⟨.ro ((es.take k).drop l), ?_, (Sl.ro _ fun c hc => h c (List.mem_of_mem_take (List.mem_of_mem_drop hc))).src⟩
    simp only [E.slc, b0]
    rw [if_pos]
    refine ⟨by omega, Nat.le_refl _, h2, by simp, ?_⟩
    rw [List.all_eq_true]; intro c hc; simpa using h c hc
  | own φ st off n F hF hst hs hl h =>
    have hlen : ((F.es.drop off).take n).length = n := by simp; omega
    rw [hlen] at h2
    refine ⟨.vw φ st (off + l) (k - l), ?_, ?_⟩
    · simp only [E.slc, hF, b0]
      rw [if_pos]
      exact ⟨h1, Nat.le_refl _, h2, rfl, hst, hs⟩
    · have e : (((F.es.drop off).take n).take k).drop l = (F.es.drop (off + l)).take (k - l) := by
        rw [List.take_take, Nat.min_eq_left (by omega), List.drop_take, List.drop_drop]
      rw [e]
      exact .vw hF hst (by omega) (by omega)
  | emp => simp at h2; omega
  | nil => simp at h2; omega
theorem iv_size (xs : List Int) : ∀ c, c ∈ (xs.map fun x => [iv x]) → c.length = 1 := by intro c hc; obtain ⟨x, _, rfl⟩ := List.mem_map.1 hc; rfl
theorem iv_one (xs : List Int) : ∀ c, c ∈ (xs.map fun x => [iv x]) → ∀ y, y ∈ c → y.one = true := by intro c hc; obtain ⟨x, _, rfl⟩ := List.mem_map.1 hc; intro y hy; simp at hy; subst hy; rfl
set_option maxRecDepth 100000 in
theorem li_sl : isSl TT ty_Li = true := by kernel_rfl
theorem Buf.new {σ : AH} {φ : Nat} {sz : Nat} : Buf (σ.set φ ⟨0, sz, []⟩) sz (.own φ 0 0 0) [] := .inr ⟨φ, 0, rfl, AH.set_same ..⟩
theorem c_slices_Clone {a : AV} {xs : List Int} (hS : Src σ a (xs.map fun x => [iv x])) (hl : xs.length ≤ 4294967296)
    (h : ∀ v σ', AH.Sub σ σ' → Buf (dif σ σ') 1 v (xs.map fun x => [iv x]) → R (.ret v) σ') : acall TP fn_slices_Clone [a] σ R := by
  refine s_slices_Clone_ok ?_
  unfold s_slices_Clone
  refine hS.nl li_sl fun b hb => ?_
  cases b with
  | true =>
    simp only [og_some', onr_ret, gval_true, gval_false, pickV_true, pickV_false, apick_true, apick_false, gpick_true, gpick_false, ibin_leq, ibin_geq, ibin_lss, ibin_gtr, ibin_eql, ibin_neq, sbin_eql, sbin_neq, aun_not, Bool.not_true, Bool.not_false, decide_true, decide_false, if_true, if_false, Bool.false_eq_true, fldA_ptr, fldA_rop, anil_ptr, lenStr_str, amm_max, amm_min, Nat.zero_add, Nat.add_zero, List.length_cons, List.length_nil, Nat.reduceAdd]
    have : xs = [] := by
      by_cases c : xs = []
      · exact c
      · have := hb (by simpa using c); cases this
    subst this
    exact ret_here (h _ σ (.refl σ) (.inl ⟨.inl rfl, rfl⟩))
  | false =>
    simp only [og_some', onr_ret, gval_true, gval_false, pickV_true, pickV_false, apick_true, apick_false, gpick_true, gpick_false, ibin_leq, ibin_geq, ibin_lss, ibin_gtr, ibin_eql, ibin_neq, sbin_eql, sbin_neq, aun_not, Bool.not_true, Bool.not_false, decide_true, decide_false, if_true, if_false, Bool.false_eq_true, fldA_ptr, fldA_rop, anil_ptr, lenStr_str, amm_max, amm_min, Nat.zero_add, Nat.add_zero, List.length_cons, List.length_nil, Nat.reduceAdd]
    refine ⟨by decide, fun φ hφ => ?_⟩
    have hs : AH.Sub σ (σ.set φ ⟨0, 1, []⟩) := sub_set (.refl σ) hφ
    simp only [List.replicate_zero]
    refine Buf.app (Buf.new (σ := σ) (φ := φ) (sz := 1)) (hS.el _ hs) (iv_size xs) (iv_one xs) (by simpa using hl) ?_
    intro a' σ' b1 b2 b3 b4
    rw [List.nil_append] at b1
    have own : ∀ ψ, Buf.fam (.own φ 0 0 0) ψ → ψ = φ := by rintro ψ ⟨_, _, _, e⟩; cases e; rfl
    refine ret_here (h a' σ' ?_ (b1.dif fun ψ hψ => ?_))
    · intro ψ F hF
      have hne : ψ ≠ φ := by rintro rfl; rw [hφ] at hF; cases hF
      rw [b2 ψ (fun hf => hne (own ψ hf)) (by rw [hs.at hF]; simp)]; exact hs.at hF
    · rcases b3 ψ hψ with hf | hn
      · rw [own ψ hf]; exact hφ
      · exact hs.none hn

/-! ### in pieces of a size -/
theorem abd_nat (i d : Nat) : abd (some (iv (i : Nat))) d = some i := by simp [abd]
theorem abox_one {v : AV} {k : AV → AH → Prop} (hc : acells v = some [v]) : abox v σ k = ∀ φ, σ φ = none → k (.ptr φ 0 0 0) (σ.set φ ⟨0, 1, [[v]]⟩) := by unfold abox; rw [hc]; rfl
theorem c_slices_Chunk {a : AV} {n : Int} (hc : acells a = some [a]) (hn : 1 ≤ n)
    (h : ∀ φ ψ, σ φ = none → σ ψ = none → ψ ≠ φ → R (.ret (.clo (.func fn_slices_Chunk_1) [] [.ptr φ 0 0 0, .ptr ψ 0 0 0])) ((σ.set φ ⟨0, 1, [[a]]⟩).set ψ ⟨0, 1, [[iv n]]⟩)) : acall TP fn_slices_Chunk [a, iv n] σ R := by
  refine s_slices_Chunk_ok ?_
  unfold s_slices_Chunk
  rw [abox_one hc]
  intro φ hφ
  rw [abox_one rfl]
  intro ψ hψ
  simp only [AH.set_none] at hψ
  have e := lod_at (σ := (σ.set φ ⟨0, 1, [[a]]⟩).set ψ ⟨0, 1, [[iv n]]⟩) (φ := ψ) (st := 0) (i := 0) (off := 0) (c := iv n) (AH.set_same ..) rfl rfl
  have hc1 : ¬ n < 1 := by omega
  simp only [jn, e, hc1, og_some', onr_ret, gval_true, gval_false, pickV_true, pickV_false, apick_true, apick_false, gpick_true, gpick_false, ibin_leq, ibin_geq, ibin_lss, ibin_gtr, ibin_eql, ibin_neq, sbin_eql, sbin_neq, aun_not, Bool.not_true, Bool.not_false, decide_true, decide_false, if_true, if_false, Bool.false_eq_true, fldA_ptr, fldA_rop, anil_ptr, lenStr_str, amm_max, amm_min, Nat.zero_add, Nat.add_zero, List.length_cons, List.length_nil, Nat.reduceAdd]
  exact ret_here (h φ ψ hφ hψ.2 hψ.1)
set_option maxRecDepth 100000 in
theorem c_slices_Chunk_1 {y a : AV} {φ ψ n : Nat} {xs : List Int} (I : Nat → AH → Prop) (hn : 1 ≤ n) (hn2 : n ≤ 1099511627776) (hl : xs.length ≤ 1099511627776)
    (hI : ∀ k σ, I k σ → σ φ = some ⟨0, 1, [[a]]⟩ ∧ σ ψ = some ⟨0, 1, [[iv n]]⟩ ∧ Ns σ a xs) (h0 : I 0 σ)
    (step : ∀ k σ, k * n < xs.length → I k σ → ∀ v, Src σ v (((xs.drop (k * n)).take n).map fun x => [iv x]) → acallv TP y [v] σ (onr (fun v σ' => v = .val (.bool true) ∧ I (k + 1) σ') fun _ _ => False))
    (h : ∀ k σ, (∀ j, j < k → j * n < xs.length) → xs.length ≤ k * n → I k σ → R (.ret (.tup [])) σ) : acall TP fn_slices_Chunk_1 [y, .ptr φ 0 0 0, .ptr ψ 0 0 0] σ R := by
  refine s_slices_Chunk_1_ok ?_
  unfold s_slices_Chunk_1
  refine lp_rel (xs.length + 1) (fun k x σi => x = (y, .ptr φ 0 0 0, .ptr ψ 0 0 0, iv ((k * n : Nat) : Int), ()) ∧ I k σi ∧ ∀ j, j < k → j * n < xs.length) ⟨by simp [iv]; rfl, h0, fun j hj => absurd hj (Nat.not_lt_zero j)⟩ ?_
  rintro k x σi hk ⟨rfl, hi, hj⟩ R' hR'
  obtain ⟨f1, f2, hS⟩ := hI k σi hi
  have e1 := lod_at (st := 0) (i := 0) (off := 0) (c := a) f1 rfl rfl
  have e2 := lod_at (st := 0) (i := 0) (off := 0) (c := iv n) f2 rfl rfl
  simp only [e1, e2, hS.len, og_some', onr_ret, gval_true, gval_false, pickV_true, pickV_false, apick_true, apick_false, gpick_true, gpick_false, ibin_leq, ibin_geq, ibin_lss, ibin_gtr, ibin_eql, ibin_neq, sbin_eql, sbin_neq, aun_not, Bool.not_true, Bool.not_false, decide_true, decide_false, if_true, if_false, Bool.false_eq_true, fldA_ptr, fldA_rop, anil_ptr, lenStr_str, amm_max, amm_min, Nat.zero_add, Nat.add_zero, List.length_cons, List.length_nil, Nat.reduceAdd]
  by_cases c : k * n < xs.length
  · have c' : ((k * n : Nat) : Int) < (xs.length : Int) := by omega
    obtain ⟨b1, g1, g2⟩ := hS.slc (lo := some (iv ((k * n : Nat) : Int))) (hi := none) (l := k * n) (k := xs.length) (abd_nat _ _) rfl (by omega) (Nat.le_refl _)
    have hm : (if (((xs.take xs.length).drop (k * n)).length : Int) < (n : Int) then (((xs.take xs.length).drop (k * n)).length : Int) else (n : Int)) = ((min n (xs.length - k * n) : Nat) : Int) := by
      rw [List.length_drop, List.length_take]; split <;> omega
    have ha := ibin_add (a := ((k * n : Nat) : Int)) (b := ((min n (xs.length - k * n) : Nat) : Int)) (by omega) (by omega)
    have hb : ((k * n : Nat) : Int) + ((min n (xs.length - k * n) : Nat) : Int) = ((k * n + min n (xs.length - k * n) : Nat) : Int) := by omega
    rw [hb] at ha
    obtain ⟨b2, g3, g4⟩ := Sl.slc3 hS (l := k * n) (k := k * n + min n (xs.length - k * n)) (by omega) (by simp; omega)
    have hcut : (xs.take (k * n + min n (xs.length - k * n))).drop (k * n) = (xs.drop (k * n)).take n := by
      rw [List.drop_take, Nat.add_sub_cancel_left]
      by_cases c2 : n ≤ xs.length - k * n
      · rw [Nat.min_eq_left c2]
      · rw [Nat.min_eq_right (by omega), List.take_of_length_le (by simp), List.take_of_length_le (by simp; omega)]
    rw [← List.map_take, ← List.map_drop, hcut] at g4
    simp only [c', g1, g2.len, hm, ha, g3, og_some', onr_ret, gval_true, gval_false, pickV_true, pickV_false, apick_true, apick_false, gpick_true, gpick_false, ibin_leq, ibin_geq, ibin_lss, ibin_gtr, ibin_eql, ibin_neq, sbin_eql, sbin_neq, aun_not, Bool.not_true, Bool.not_false, decide_true, decide_false, if_true, if_false, Bool.false_eq_true, fldA_ptr, fldA_rop, anil_ptr, lenStr_str, amm_max, amm_min, Nat.zero_add, Nat.add_zero, List.length_cons, List.length_nil, Nat.reduceAdd]
    refine acallv_mono (step k σi c hi b2 g4) ?_
    rintro e σ2 he
    cases e with
    | pan v => exact he.elim
    | ret v =>
      obtain ⟨rfl, hi2⟩ := he
      obtain ⟨f1, f2, _⟩ := hI _ _ hi2
      have e2 := lod_at (st := 0) (i := 0) (off := 0) (c := iv n) f2 rfl rfl
      have ha2 := ibin_add (a := ((k * n : Nat) : Int)) (b := (n : Int)) (by omega) (by omega)
      rw [show ((k * n : Nat) : Int) + (n : Int) = (((k + 1) * n : Nat) : Int) by rw [Nat.succ_mul]; omega] at ha2
      simp only [e2, ha2, og_some', onr_ret, gval_true, gval_false, pickV_true, pickV_false, apick_true, apick_false, gpick_true, gpick_false, ibin_leq, ibin_geq, ibin_lss, ibin_gtr, ibin_eql, ibin_neq, sbin_eql, sbin_neq, aun_not, Bool.not_true, Bool.not_false, decide_true, decide_false, if_true, if_false, Bool.false_eq_true, fldA_ptr, fldA_rop, anil_ptr, lenStr_str, amm_max, amm_min, Nat.zero_add, Nat.add_zero, List.length_cons, List.length_nil, Nat.reduceAdd]
      refine hR' _ _ _ ?_ (.refl _) ⟨rfl, hi2, fun j hjk => ?_⟩
      · have : k ≤ k * n := Nat.le_mul_of_pos_right k (by omega)
        omega
      · by_cases c3 : j < k
        · exact hj j c3
        · obtain rfl : j = k := by omega
          exact c
  · have c' : ¬ ((k * n : Nat) : Int) < (xs.length : Int) := by omega
    simp only [c', og_some', onr_ret, gval_true, gval_false, pickV_true, pickV_false, apick_true, apick_false, gpick_true, gpick_false, ibin_leq, ibin_geq, ibin_lss, ibin_gtr, ibin_eql, ibin_neq, sbin_eql, sbin_neq, aun_not, Bool.not_true, Bool.not_false, decide_true, decide_false, if_true, if_false, Bool.false_eq_true, fldA_ptr, fldA_rop, anil_ptr, lenStr_str, amm_max, amm_min, Nat.zero_add, Nat.add_zero, List.length_cons, List.length_nil, Nat.reduceAdd]
    exact ret_here (h k σi hj (by omega) hi)
end Go.Proofs.Ytjfdgijgkbojnaa.E
