/- From the library's contracts on sorted slices to calls in abstract values: what a row of numbers becomes. -/
import Derived.Test.YtlggnigbemghgaaGreatDoorMF
import Derived.Shelf.SortM.Plain
import Derived.Shelf.SortM.SortNone
import Derived.Shelf.SlicesG.CompactI
import Derived.Lib.SortBridge
set_option linter.unusedSectionVars false
set_option linter.unusedSimpArgs false
set_option linter.unusedVariables false
namespace Go.Proofs.YtlggnigbemghgaaGreatDoor.E
open Go Go.RowKit
variable [L : Lam]
/-- Rows of numbers put into a family, one cell behind the other. -/
def putL : List (List AV) → Nat → List Int → List (List AV)
  | es, _, [] => es
  | es, i, y :: ys => putL (es.set i [iv y]) (i + 1) ys
theorem Stp.ints {κ : Kap} {φ st : Nat} {r : Reg} : ∀ (ys : List Int) (i : Nat) (es : List (List AV)) (σ : AH) (w : World), Rel κ σ w → σ φ = some ⟨st, 1, es⟩ → κ.ρ φ st = some r → r.sz = 1 → r.lo ≤ i → i + ys.length ≤ es.length → (∀ c, c ∈ es → c.length = 1) →
    Stp κ σ w κ (σ.set φ ⟨st, 1, putL es i ys⟩) (w.setCells r.b (r.base + (i - r.lo)) (ys.map (Value.int .i64))) := by
  intro ys
  induction ys with
  | nil =>
    intro i es σ w hr hF _ _ _ _ _
    have : σ.set φ ⟨st, 1, putL es i []⟩ = σ := AH.set_self hF
    rw [this]
    exact .refl hr
  | cons y ys ih =>
    intro i es σ w hr hF hρ hsz hlo hl hz
    have hi : i < es.length := by simp at hl; omega
    have key := (Stp.cell (P := default) hr hF hρ hlo (j := 0) hi (by show 0 < 1; omega) (VR.val (Value.int .i64 y)) rfl).2
    have e1 : r.base + (i - r.lo) * r.sz + 0 = r.base + (i - r.lo) := by rw [hsz]; omega
    rw [e1] at key
    have e2 : Fam.cellSet ⟨st, 1, es⟩ i 0 (.val (.int .i64 y)) = ⟨st, 1, es.set i [iv y]⟩ := by
      unfold Fam.cellSet
      have h1 : (es.getD i []).length = 1 := by
        have e : es.getD i [] = es[i] := by simp [List.getD, hi]
        rw [e]; exact hz _ (List.getElem_mem hi)
      simp only
      obtain ⟨x, hx⟩ : ∃ x, es.getD i [] = [x] := List.length_eq_one_iff.1 h1
      rw [hx]; rfl
    rw [e2] at key
    have h2 := ih (i + 1) (es.set i [iv y]) _ _ key.rel (AH.set_same ..) hρ hsz (by omega) (by simp at hl ⊢; omega) (fun c hc => by
      rcases List.mem_or_eq_of_mem_set hc with h | rfl
      · exact hz c h
      · rfl)
    rw [AH.set_set] at h2
    have e3 : r.base + (i + 1 - r.lo) = r.base + (i - r.lo) + 1 := by omega
    rw [e3] at h2
    exact key.trans h2
theorem putL_all : ∀ (ys : List Int) (pre es : List (List AV)), ys.length ≤ es.length → putL (pre ++ es) pre.length ys = pre ++ (ys.map fun x => [iv x]) ++ es.drop ys.length := by
  intro ys
  induction ys with
  | nil => intro pre es _; simp [putL]
  | cons y ys ih =>
    intro pre es h
    cases es with
    | nil => simp at h
    | cons e es =>
      simp only [putL]
      have : (pre ++ e :: es).set pre.length [iv y] = (pre ++ [[iv y]]) ++ es := by simp
      rw [this]
      have h2 := ih (pre ++ [[iv y]]) es (by simpa using h)
      simp only [List.length_append, List.length_cons, List.length_nil, Nat.zero_add] at h2
      rw [h2]
      simp
theorem Stp.grown {κ0 κ : Kap} {σ0 σ : AH} {w0 : World} : ∀ (os : List Obj) (w : World), Stp κ0 σ0 w0 κ σ w → Stp κ0 σ0 w0 κ σ (Go.Sort.grow w os.toArray) := by
  intro os
  induction os with
  | nil => intro w h; simpa using h
  | cons o os ih =>
    intro w h
    have : Go.Sort.grow w (o :: os).toArray = Go.Sort.grow (w.alloc o) os.toArray := by
      rw [Go.Sort.alloc_eq_grow, Go.Sort.grow_grow]
      congr 1
      simp
    rw [this]
    exact ih _ (h.lay o)
/-- What a slice of numbers, at the start of its own family, is in a world. -/
theorem ints_at {κ : Kap} {σ : AH} {w : World} {φ st : Nat} {es : List (List AV)} {xs : List Int} {v : Value} (hr : Rel κ σ w) (hF : σ φ = some ⟨st, 1, es⟩) (hx : ∀ (i : Nat) (h : i < xs.length), es[i]? = some [iv xs[i]]) (hv : VR κ (.own φ st 0 xs.length) v) :
    (xs = [] ∧ ∃ a cap, v = .slice a 0 cap ∧ ∀ w', VR κ (.own φ st 0 0) (.slice a 0 cap) ∨ w' = w) ∨ ∃ r : Reg, κ.ρ φ st = some r ∧ r.lo = 0 ∧ r.sz = 1 ∧ xs.length ≤ r.cap ∧ v = .slice (some ⟨r.b, r.base, none⟩) xs.length r.cap ∧ r.b < w.heap.size ∧ Go.Sort.Holds (Value.int .i64) w r.b r.base xs.toArray := by
  generalize hn : xs.length = n at hv
  cases hv with
  | ownEnd h hoff =>
    left
    have : xs = [] := List.length_eq_zero_iff.1 hn
    exact ⟨this, _, _, rfl, fun _ => .inl (.ownEnd h hoff)⟩
  | own h hlo hle =>
    rename_i r
    right
    subst hn
    obtain ⟨r', e1, hB, H⟩ := hr.has φ _ hF
    have e1' : κ.ρ φ st = some r' := e1
    rw [h] at e1'
    obtain rfl := Option.some.inj e1'
    have hlo0 : r.lo = 0 := by omega
    have hsz : r.sz = 1 := H.sz
    refine ⟨r, h, hlo0, hsz, by omega, ?_, ?_, ?_⟩
    · simp [hlo0]
    · obtain ⟨c, e, fz, hh, _⟩ := H.row
      exact (Array.getElem?_eq_some_iff.1 hh).1
    · intro j hj
      have hj' : j < xs.length := by simpa using hj
      have hjl : j < es.length := (List.getElem?_eq_some_iff.1 (hx j hj')).1
      obtain ⟨u, hc, hu⟩ := H.cell j 0 (by omega) hjl (by show 0 < 1; omega)
      have ej : (es.getD j []).getD 0 .any = iv xs[j] := by simp [List.getD, hx j hj']
      have hu' : VR κ (iv xs[j]) u := ej ▸ hu
      have e2 : r.base + (j - r.lo) * r.sz + 0 = r.base + j := by rw [hlo0, hsz]; omega
      rw [e2] at hc
      refine ⟨?_, H.free _ ?_⟩
      · rw [hc]
        cases hu'
        simp [hj']
      · have : r.cap * r.sz = r.cap := by rw [hsz]; omega
        omega
/-- The library's sort, as a call in abstract values. -/
theorem acall_sort {P : Program} {f : FuncId} {fn : Func} (hf : P.funcs[f]? = some fn) (hb : fn.body.isNone = false) (hg : (fn.name == "runtime.NumGoroutine") = false)
    (h0 : ∀ (p : Option Addr) (cap : Nat) (w : World), Calls P f #[.slice p 0 cap] w fun e w' => e = .returned (.tuple #[]) ∧ w' = w)
    (h1 : ∀ (blk off cap : Nat) (zs : List Int) (w : World), Go.Sort.Holds (Value.int .i64) w blk off zs.toArray → blk < w.heap.size → zs.length < 4611686018427387904 →
      Calls P f #[.slice (some ⟨blk, off, none⟩) zs.length cap] w fun e w' => e = .returned (.tuple #[]) ∧ ∃ n os, w' = Go.Sort.grow (Go.Sort.putRow (Value.int .i64) (Go.Sort.ahead w n) blk off (zs.mergeSort fun x y => decide (x ≤ y)).toArray) os)
    {σ : AH} {R : AEnd → AH → Prop} {φ st : Nat} {xs : List Int} (hF : σ φ = some ⟨st, 1, xs.map fun x => [iv x]⟩) (hl : xs.length < 4611686018427387904) (h : R (.ret (.tup [])) (σ.set φ ⟨st, 1, (xs.mergeSort fun x y => decide (x ≤ y)).map fun x => [iv x]⟩)) :
    acall P f [.own φ st 0 xs.length] σ R := by
  refine ⟨fn, hf, hb, hg, fun κ w vs hr hv => ?_⟩
  obtain ⟨v, rfl⟩ : ∃ v, vs = [v] := List.length_eq_one_iff.1 hv.1.symm
  have hv0 : VR κ (.own φ st 0 xs.length) v := hv.2 0 (by simp)
  have htup : VR κ (.tup []) (.tuple #[]) := .tup (vs := []) rfl fun i hi => absurd hi (Nat.not_lt_zero i)
  rcases ints_at hr hF (fun i hi => by simp [hi]) hv0 with ⟨rfl, a, cap, rfl, _⟩ | ⟨r, hρ, hlo, hsz, hcap, rfl, hblk, hH⟩
  · refine (h0 a cap w).mono fun e w' ⟨he, hw⟩ => ?_
    subst he; subst hw
    refine ⟨κ, _, _, h, ?_, htup⟩
    have : σ.set φ ⟨st, 1, (([] : List Int).mergeSort fun x y => decide (x ≤ y)).map fun x => [iv x]⟩ = σ := AH.set_self (by rw [hF]; simp)
    rw [this]
    exact .refl hr
  · refine (h1 r.b r.base r.cap xs w hH hblk hl).mono fun e w' ⟨he, q, os, hw⟩ => ?_
    subst he
    rw [Lib.sorted_world _ w r.b r.base q xs.toArray _ os hH (by simp)] at hw
    subst hw
    refine ⟨κ, _, _, h, ?_, htup⟩
    have hd : Stp κ σ w κ σ (w.drewN q) := .world hr rfl rfl rfl rfl
    have hs := Stp.ints (xs.mergeSort fun x y => decide (x ≤ y)) 0 _ σ (w.drewN q) hd.rel hF hρ hsz (by omega) (by simp) (fun c hc => by obtain ⟨x, _, rfl⟩ := List.mem_map.1 hc; rfl)
    have e := putL_all (xs.mergeSort fun x y => decide (x ≤ y)) [] (xs.map fun x => [iv x]) (by simp)
    simp only [List.nil_append, List.length_nil] at e
    rw [e] at hs
    have e2 : ((xs.map fun x => [iv x]).drop (xs.mergeSort fun x y => decide (x ≤ y)).length) = ([] : List (List AV)) := List.drop_eq_nil_of_le (by simp)
    rw [e2, List.append_nil] at hs
    have e3 : r.base + (0 - r.lo) = r.base := by omega
    rw [e3] at hs
    exact Stp.grown os.toList _ (hd.trans hs)
theorem acall_sort_emp {P : Program} {f : FuncId} {fn : Func} (hf : P.funcs[f]? = some fn) (hb : fn.body.isNone = false) (hg : (fn.name == "runtime.NumGoroutine") = false)
    (h0 : ∀ (p : Option Addr) (cap : Nat) (w : World), Calls P f #[.slice p 0 cap] w fun e w' => e = .returned (.tuple #[]) ∧ w' = w)
    {σ : AH} {R : AEnd → AH → Prop} (h : R (.ret (.tup [])) σ) : acall P f [.emp] σ R := by
  refine ⟨fn, hf, hb, hg, fun κ w vs hr hv => ?_⟩
  obtain ⟨v, rfl⟩ : ∃ v, vs = [v] := List.length_eq_one_iff.1 hv.1.symm
  have hv0 : VR κ .emp v := hv.2 0 (by simp)
  cases hv0
  refine (h0 _ _ w).mono fun e w' ⟨he, hw⟩ => ?_
  subst he; subst hw
  exact ⟨κ, _, _, h, .refl hr, .tup (vs := []) rfl fun i hi => absurd hi (Nat.not_lt_zero i)⟩
theorem acall_compact_emp {P : Program} {f : FuncId} {fn : Func} (hf : P.funcs[f]? = some fn) (hb : fn.body.isNone = false) (hg : (fn.name == "runtime.NumGoroutine") = false)
    (h0 : ∀ (p : Option Addr) (cap : Nat) (w : World), Calls P f #[.slice p 0 cap] w fun e w' => e = .returned (.slice p 0 cap) ∧ w' = w)
    {σ : AH} {R : AEnd → AH → Prop} (h : R (.ret .emp) σ) : acall P f [.emp] σ R := by
  refine ⟨fn, hf, hb, hg, fun κ w vs hr hv => ?_⟩
  obtain ⟨v, rfl⟩ : ∃ v, vs = [v] := List.length_eq_one_iff.1 hv.1.symm
  have hv0 : VR κ .emp v := hv.2 0 (by simp)
  cases hv0
  refine (h0 _ _ w).mono fun e w' ⟨he, hw⟩ => ?_
  subst he; subst hw
  exact ⟨κ, _, _, h, .refl hr, VR.emp _⟩
/-- The library's slices.Compact, as a call in abstract values. -/
theorem acall_compact {P : Program} {f : FuncId} {fn : Func} (hf : P.funcs[f]? = some fn) (hb : fn.body.isNone = false) (hg : (fn.name == "runtime.NumGoroutine") = false)
    (h0 : ∀ (p : Option Addr) (cap : Nat) (w : World), Calls P f #[.slice p 0 cap] w fun e w' => e = .returned (.slice p 0 cap) ∧ w' = w)
    (h1 : ∀ (blk off cap : Nat) (zs : List Int) (w : World), Go.Sort.Holds (Value.int .i64) w blk off zs.toArray → zs.length ≤ 9223372036854775807 → zs.length ≤ cap →
      Calls P f #[.slice (some ⟨blk, off, none⟩) zs.length cap] w fun e w' => e = .returned (.slice (some ⟨blk, off, none⟩) (Lib.compact zs).length cap) ∧ ∃ q, w' = Go.Sort.putRow (Value.int .i64) (Go.Sort.ahead w q) blk off (Lib.compact zs ++ List.replicate (zs.length - (Lib.compact zs).length) 0).toArray)
    (hc : ∀ zs : List Int, (Lib.compact zs).length ≤ zs.length)
    {σ : AH} {R : AEnd → AH → Prop} {φ st : Nat} {xs : List Int} (hF : σ φ = some ⟨st, 1, xs.map fun x => [iv x]⟩) (hl : xs.length < 4611686018427387904)
    (h : R (.ret (.own φ st 0 (Lib.compact xs).length)) (σ.set φ ⟨st, 1, (Lib.compact xs ++ List.replicate (xs.length - (Lib.compact xs).length) 0).map fun x => [iv x]⟩)) :
    acall P f [.own φ st 0 xs.length] σ R := by
  refine ⟨fn, hf, hb, hg, fun κ w vs hr hv => ?_⟩
  obtain ⟨v, rfl⟩ : ∃ v, vs = [v] := List.length_eq_one_iff.1 hv.1.symm
  have hv0 : VR κ (.own φ st 0 xs.length) v := hv.2 0 (by simp)
  have hcl := hc xs
  rcases ints_at hr hF (fun i hi => by simp [hi]) hv0 with ⟨rfl, a, cap, rfl, _⟩ | ⟨r, hρ, hlo, hsz, hcap, rfl, hblk, hH⟩
  · have hz : (Lib.compact ([] : List Int)).length = 0 := by simpa using hcl
    have hz2 : Lib.compact ([] : List Int) = [] := List.length_eq_zero_iff.1 hz
    refine (h0 a cap w).mono fun e w' ⟨he, hw⟩ => ?_
    subst he; subst hw
    refine ⟨κ, _, _, h, ?_, by rw [hz]; exact hv0⟩
    have : σ.set φ ⟨st, 1, (Lib.compact ([] : List Int) ++ List.replicate (([] : List Int).length - (Lib.compact ([] : List Int)).length) 0).map fun x => [iv x]⟩ = σ := AH.set_self (by rw [hF, hz2]; simp)
    rw [this]
    exact .refl hr
  · refine (h1 r.b r.base r.cap xs w hH (by omega) hcap).mono fun e w' ⟨he, q, hw⟩ => ?_
    subst he
    have hlen : (Lib.compact xs ++ List.replicate (xs.length - (Lib.compact xs).length) 0).length = xs.length := by simp; omega
    have hg2 := Lib.sorted_world (Value.int .i64) w r.b r.base q xs.toArray (Lib.compact xs ++ List.replicate (xs.length - (Lib.compact xs).length) 0) #[] hH (by rw [hlen]; simp)
    rw [Go.Sort.grow_empty, Go.Sort.grow_empty] at hg2
    rw [hg2] at hw
    subst hw
    refine ⟨κ, _, _, h, ?_, ?_⟩
    · have hd : Stp κ σ w κ σ (w.drewN q) := .world hr rfl rfl rfl rfl
      have hs := Stp.ints (Lib.compact xs ++ List.replicate (xs.length - (Lib.compact xs).length) 0) 0 _ σ (w.drewN q) hd.rel hF hρ hsz (by omega) (by rw [hlen]; simp) (fun c hc => by obtain ⟨x, _, rfl⟩ := List.mem_map.1 hc; rfl)
      have e := putL_all (Lib.compact xs ++ List.replicate (xs.length - (Lib.compact xs).length) 0) [] (xs.map fun x => [iv x]) (by rw [hlen]; simp)
      simp only [List.nil_append, List.length_nil] at e
      rw [e] at hs
      have e2 : ((xs.map fun x => [iv x]).drop (Lib.compact xs ++ List.replicate (xs.length - (Lib.compact xs).length) 0).length) = ([] : List (List AV)) := List.drop_eq_nil_of_le (by rw [hlen]; simp)
      rw [e2, List.append_nil] at hs
      have e3 : r.base + (0 - r.lo) = r.base := by omega
      rw [e3] at hs
      exact hd.trans hs
    · have := VR.own (κ := κ) (φ := φ) (st := st) (off := 0) (n := (Lib.compact xs).length) hρ (by omega) (by omega)
      show VR κ _ _
      simpa [hlo] using this
theorem compact_len (zs : List Int) : (Lib.compact zs).length ≤ zs.length := by
  unfold Lib.compact Lib.compactUpTo
  rw [List.length_map]
  have := List.length_filter_le (Lib.keeps zs.toArray) (List.range zs.length)
  rw [List.length_range] at this
  exact this
theorem mem_compact {zs : List Int} {x : Int} : x ∈ Lib.compact zs ↔ x ∈ zs := by
  unfold Lib.compact Lib.compactUpTo
  have e : ∀ j, j < zs.length → zs.toArray[j]! = zs.getD j 0 := by
    intro j hj
    simp [hj, List.getD]
  constructor
  · intro h
    obtain ⟨j, hj, rfl⟩ := List.mem_map.1 h
    have hj1 := List.mem_range.1 (List.mem_filter.1 hj).1
    rw [e j hj1]
    simp [List.getD, hj1]
  · intro h
    obtain ⟨k, hk, hx⟩ := List.getElem_of_mem h
    have key : ∀ n, ∀ k (hk : k < zs.length), k ≤ n → zs[k] = x → ∃ j, ∃ hj : j < zs.length, zs[j] = x ∧ Lib.keeps zs.toArray j = true := by
      intro n
      induction n with
      | zero =>
        intro k hk h0 hx
        obtain rfl : k = 0 := by omega
        exact ⟨0, hk, hx, Lib.keeps_lt_one _ 0 (by omega)⟩
      | succ n ih =>
        intro k hk hn hx
        by_cases c : Lib.keeps zs.toArray k = true
        · exact ⟨k, hk, hx, c⟩
        · have h0 : k ≠ 0 := by rintro rfl; exact c (Lib.keeps_lt_one _ 0 (by omega))
          have h2 : zs.toArray[k]! = zs.toArray[k - 1]! := Classical.byContradiction fun h => c (Lib.keeps_pos h)
          refine ih (k - 1) (by omega) (by omega) ?_
          rw [e k hk, e (k - 1) (by omega)] at h2
          have e1 : zs.getD k 0 = zs[k] := by simp [List.getD, hk]
          have e2 : zs.getD (k - 1) 0 = zs[k - 1] := by simp [List.getD, show k - 1 < zs.length by omega]
          rw [← e2, ← h2, e1, hx]
    obtain ⟨j, hj, h1, h2⟩ := key k k hk (Nat.le_refl _) hx
    refine List.mem_map.2 ⟨j, List.mem_filter.2 ⟨List.mem_range.2 hj, h2⟩, ?_⟩
    rw [e j hj]
    simp [List.getD, hj, h1]
end Go.Proofs.YtlggnigbemghgaaGreatDoor.E
