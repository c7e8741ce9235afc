/- The engine, part 3: loads, stores, new variables. -/
import Derived.Test.YtjfdgijgkbojnaaE2
set_option linter.unusedSectionVars false
namespace Go.Proofs.Ytjfdgijgkbojnaa.E
open Go Go.RowKit
variable [Lam]

theorem addr_add (b o j : Nat) : (⟨b, o, none⟩ : Addr).add j = ⟨b, o + j, none⟩ := by
  unfold Addr.add; split <;> simp_all
theorem addr_inj {a b j k s : Nat} (hj : j < s) (hk : k < s) (h : a * s + j = b * s + k) : a = b ∧ j = k := by
  have h1 : (a * s + j) / s = a := by rw [Nat.mul_comm, Nat.mul_add_div (by omega), Nat.div_eq_of_lt hj]; rfl
  have h2 : (b * s + k) / s = b := by rw [Nat.mul_comm, Nat.mul_add_div (by omega), Nat.div_eq_of_lt hk]; rfl
  have : a = b := by rw [← h1, h, h2]
  subst this; exact ⟨rfl, by omega⟩

/-! ### cells of a value -/
def acells : AV → Option (List AV)
  | .agg cs => some cs
  | .val v => some (v.cells.toList.map .val)
  | .any => none
  | .tup _ => none
  | a => some [a]
theorem VRs.one {κ : Kap} {a : AV} {v : Value} (h : VR κ a v) : VRs κ [a] [v] := .cons h (.nil κ)
theorem acells_ok {κ : Kap} {a : AV} {v : Value} {cs : List AV} (e : acells a = some cs) (h : VR κ a v) : VRs κ cs v.cells.toList := by
  cases h with
  | val v => obtain rfl := Option.some.inj e; exact ⟨by simp, fun i hi => VR.map_val κ _ i (by simpa using hi)⟩
  | agg hl h => obtain rfl := Option.some.inj e; exact ⟨by simpa [Value.cells] using hl, by simpa [Value.cells] using h⟩
  | any v => cases e
  | tup hl h => cases e
  | _ => obtain rfl := Option.some.inj e; exact .one (by first | exact .roEnd _ | exact .ro ‹_› ‹_› ‹_› ‹_› | exact .rop ‹_› ‹_› | exact .own ‹_› ‹_› ‹_› | exact .ownEnd ‹_› ‹_› | exact .vw ‹_› ‹_› ‹_› | exact .ptr ‹_› ‹_› | exact .clo ‹_› ‹_› ‹_› ‹_› | exact .ifc ‹_› | exact .yld _ | exact .emp _)
def AV.one : AV → Bool
  | .val v => v.oneCell'
  | .agg _ | .tup _ | .any => false
  | _ => true
theorem one_ok {κ : Kap} {a : AV} {v : Value} (e : a.one = true) (h : VR κ a v) : v.oneCell' = true := by
  cases h <;> first | exact e | (simp [AV.one] at e; done) | rfl

/-! ### load -/
def acellsAt (σ : AH) : AV → Option (List AV)
  | .rop cs off => some (cs.drop off)
  | .ptr φ st i off => match σ φ with
    | some F => if F.st = st ∧ i < F.es.length then some ((F.es.getD i []).drop off) else none
    | none => none
  | _ => none
theorem getD_drop {α : Type} (l : List α) (n j : Nat) (d : α) : (l.drop n).getD j d = l.getD (n + j) d := by
  simp [List.getD, List.getElem?_drop]
theorem getD_take {α : Type} (l : List α) (n j : Nat) (d : α) (h : j < n) : (l.take n).getD j d = l.getD j d := by
  simp [List.getD, h]
theorem acellsAt_ok {κ : Kap} {σ : AH} {w : World} (hr : Rel κ σ w) {p : AV} {v : Value} {cs : List AV} (h : VR κ p v) (e : acellsAt σ p = some cs) :
    ∃ b o, v = .pointer (some ⟨b, o, none⟩) ∧ ∀ j, j < cs.length → ∃ u, w.cell? ⟨b, o + j, none⟩ = some u ∧ VR κ (cs.getD j .any) u := by
  cases h with
  | @rop cs0 off b base vals hm hv =>
    obtain rfl := Option.some.inj e
    refine ⟨_, _, rfl, fun j hj => ⟨vals (off + j), ?_, ?_⟩⟩
    · rw [Nat.add_assoc]; exact hr.mem _ _ _ (hm _ (by simp at hj; omega))
    · rw [getD_drop]; exact hv _ (by simp at hj; omega)
  | @ptr φ st i off r h hlo =>
    simp only [acellsAt] at e
    split at e
    · rename_i F hF
      split at e
      · rename_i c
        obtain rfl := Option.some.inj e
        obtain ⟨s, h1, _, h3⟩ := hr.has φ F hF
        rw [c.1, h] at h1; obtain rfl := Option.some.inj h1
        have hz := h3.esz i hlo c.2
        refine ⟨_, _, rfl, fun j hj => ?_⟩
        simp only [List.length_drop] at hj
        obtain ⟨u, a1, a2⟩ := h3.cell i (off + j) hlo c.2 (by omega)
        exact ⟨u, by rw [Nat.add_assoc]; exact a1, by rw [getD_drop]; exact a2⟩
      · cases e
    · cases e
  | _ => cases e
def aload (T : Tab) (t : TypeId) (p : AV) (σ : AH) : Option AV :=
  match T t, acellsAt σ p with
  | some ti, some cs => if ti.size ≤ cs.length then match isAggD ti.under with
    | true => some (.agg (cs.take ti.size))
    | false => if 0 < cs.length then some (cs.getD 0 .any) else none
    else none
  | _, _ => none
section
variable {P : Program} {T : Tab} (hT : TabOk P T)
include hT
theorem run_loadVar {κ : Kap} {σ : AH} {w : World} (hr : Rel κ σ w) {t : TypeId} {p x : AV} {v : Value} (h : VR κ p v) (e : aload T t p σ = some x) :
    ∃ b o, v = .pointer (some ⟨b, o, none⟩) ∧ ∃ u, (loadVar t ⟨b, o, none⟩).run P w = .ok u w ∧ VR κ x u := by
  unfold aload at e
  split at e
  · rename_i ti cs ht hc
    obtain ⟨b, o, rfl, hcell⟩ := acellsAt_ok hr h hc
    refine ⟨b, o, rfl, ?_⟩
    split at e
    case isFalse => cases e
    rename_i hs
    have hA := run_isAgg hT w ht
    cases ha : isAggD ti.under with
    | true =>
      rw [ha] at e hA
      obtain rfl := Option.some.inj e
      let f : Nat → Value := fun j => (w.cell? ⟨b, o + j, none⟩).getD undef
      have hf : ∀ j, j < ti.size → w.cell? ((⟨b, o, none⟩ : Addr).add j) = some (f j) := by
        intro j hj
        obtain ⟨u, h1, _⟩ := hcell j (by omega)
        rw [addr_add, h1]; simp [f, h1]
      have hL := run_loadCells (P := P) w ⟨b, o, none⟩ ti.size f hf
      refine ⟨.agg ((List.range ti.size).map f).toArray, ?_, ?_⟩
      · simp only [loadVar, Sem.run_bind, hA, Result.andThen_ok, if_true, run_sizeOf hT w ht, hL, Sem.run_pure]
      · refine .agg (by simp [Nat.min_eq_left hs]) fun i hi => ?_
        have hi' : i < ti.size := by simp at hi; omega
        obtain ⟨u, h1, h2⟩ := hcell i (by omega)
        rw [getD_take _ _ _ _ hi']
        have : ((List.range ti.size).map f).getD i undef = u := by simp [List.getD, hi', f, h1]
        rw [this]; exact h2
    | false =>
      rw [ha] at e hA
      replace e : (if 0 < cs.length then some (cs.getD 0 .any) else none) = some x := e
      by_cases h0 : 0 < cs.length
      · rw [if_pos h0] at e
        obtain rfl := Option.some.inj e
        obtain ⟨u, h1, h2⟩ := hcell 0 h0
        refine ⟨u, ?_, h2⟩
        simp only [Nat.add_zero] at h1
        simp [loadVar, hA, h1]
      · rw [if_neg h0] at e; cases e
  · cases e
end

/-! ### one cell stored -/
theorem getD_set {α : Type} (l : List α) (i k : Nat) (x d : α) : (l.set i x).getD k d = if i = k ∧ i < l.length then x else l.getD k d := by
  simp only [List.getD, List.getElem?_set]
  by_cases h : i = k
  · subst h
    by_cases h2 : i < l.length
    · simp [h2]
    · simp [h2]
  · simp [h]
def Fam.cellSet (F : Fam) (i j : Nat) (x : AV) : Fam := { F with es := F.es.set i ((F.es.getD i []).set j x) }
theorem Holds.put {κ : Kap} {F : Fam} {r : Reg} {w : World} (h : Holds κ F r w) {φ : Nat} (hρ : κ.ρ φ F.st = some r) : Holds (κ.put φ F.st r) F r w := by
  have e : κ.put φ F.st r = κ := by
    unfold Kap.put
    have : (fun ψ t => if ψ = φ ∧ t = F.st then some r else κ.ρ ψ t) = κ.ρ := by
      funext ψ t; split
      · rename_i c; rw [c.1, c.2, hρ]
      · rfl
    rw [this]
  rw [e]; exact h
theorem Kap.put_self {κ : Kap} {φ st : Nat} {r : Reg} (hρ : κ.ρ φ st = some r) : κ.put φ st r = κ := by
  unfold Kap.put
  have : (fun ψ t => if ψ = φ ∧ t = st then some r else κ.ρ ψ t) = κ.ρ := by
    funext ψ t; split
    · rename_i c; rw [c.1, c.2, hρ]
    · rfl
  rw [this]
theorem Stp.cell {P : Program} {κ : Kap} {σ : AH} {w : World} (hr : Rel κ σ w) {φ i j : Nat} {F : Fam} {r : Reg} (hF : σ φ = some F) (hρ : κ.ρ φ F.st = some r)
    (hlo : r.lo ≤ i) (hi : i < F.es.length) (hj : j < F.sz) {x : AV} {v : Value} (hv : VR κ x v) (h1 : v.oneCell' = true) :
    (store ⟨r.b, r.base + (i - r.lo) * r.sz + j, none⟩ v).run P w = .ok () (w.setCell ⟨r.b, r.base + (i - r.lo) * r.sz + j, none⟩ v) ∧
    Stp κ σ w κ (σ.set φ (F.cellSet i j x)) (w.setCell ⟨r.b, r.base + (i - r.lo) * r.sz + j, none⟩ v) := by
  obtain ⟨r', e1, hB, H⟩ := hr.has φ F hF
  rw [hρ] at e1; obtain rfl := Option.some.inj e1
  obtain ⟨u, hc, _⟩ := H.cell i j hlo hi hj
  have hsz := H.sz
  have hlt : (i - r.lo) * r.sz + j < r.cap * r.sz := by
    have a1 : i - r.lo < r.cap := by have := H.len; omega
    have a2 : (i - r.lo + 1) * r.sz ≤ r.cap * r.sz := Nat.mul_le_mul_right _ a1
    rw [Nat.add_mul, Nat.one_mul] at a2; omega
  have hfr := H.free (r.base + (i - r.lo) * r.sz + j) (by omega)
  constructor
  · rw [run_store P w _ v .plain h1, hc]; simp [hfr]
  · have hfs : (F.cellSet i j x).st = F.st := rfl
    have key := Stp.turn (w' := w.setCell ⟨r.b, r.base + (i - r.lo) * r.sz + j, none⟩ v) hr (φ := φ) (F' := F.cellSet i j x) (r := r)
      (.inr hρ) (fun st h => hr.up φ F st hF h) (.inl ⟨F, r, hF, hρ, rfl⟩) (by simp) (fun b hb hne => Below.heap_setCell _ _ _ _ hne) rfl rfl rfl
    rw [hfs, Kap.put_self hρ] at key
    refine key ⟨H.sz, by simpa [Fam.cellSet] using H.len, ?_, ?_, ?_, ?_⟩
    · obtain ⟨c, e, fz, hh, hle⟩ := H.row
      refine ⟨c.setIfInBounds (r.base + (i - r.lo) * r.sz + j) v, e, fz, ?_, by simpa using hle⟩
      simp only [World.setCell, Array.getElem?_modify, ↓reduceIte, hh, Option.map_some]
      rfl
    · intro o ho; rw [World.frozen?_setCell]; exact H.free o ho
    · intro k hk hkl
      simp only [Fam.cellSet, getD_set]
      have hkl' : k < F.es.length := by simpa [Fam.cellSet] using hkl
      split
      · rename_i c; simp only [List.length_set]; rw [c.1]; exact H.esz k hk hkl'
      · exact H.esz k hk hkl'
    · intro k l hk hkl hl
      have hkl' : k < F.es.length := by simpa [Fam.cellSet] using hkl
      have hl' : l < F.sz := hl
      obtain ⟨u', hc', hv'⟩ := H.cell k l hk hkl' hl'
      by_cases c : k = i ∧ l = j
      · obtain ⟨rfl, rfl⟩ := c
        refine ⟨v, World.cell?_setCell_same _ _ _ hc', ?_⟩
        have hlen : l < (F.es.getD k []).length := by rw [H.esz k hk hkl']; exact hl'
        simp only [Fam.cellSet, getD_set, hkl', and_self, if_true, hlen]
        exact hv
      · refine ⟨u', ?_, ?_⟩
        · rw [World.cell?_setCell_other, hc']
          intro he
          have h0 : r.base + (i - r.lo) * r.sz + j = r.base + (k - r.lo) * r.sz + l := congrArg Addr.off he
          have := addr_inj (s := r.sz) (by omega) (by omega) (show (i - r.lo) * r.sz + j = (k - r.lo) * r.sz + l by omega)
          exact c ⟨by omega, this.2.symm⟩
        · simp only [Fam.cellSet, getD_set]
          split
          · rename_i c1
            obtain ⟨rfl, _⟩ := c1
            rw [getD_set, if_neg (fun c2 => c ⟨rfl, c2.1.symm⟩)]; exact hv'
          · exact hv'

/-! ### store -/
def spl (cs : List AV) (off : Nat) : List AV → List AV
  | [] => cs
  | x :: xs => spl (cs.set off x) (off + 1) xs
theorem spl_length (xs : List AV) : ∀ (cs : List AV) (off : Nat), (spl cs off xs).length = cs.length := by
  induction xs with
  | nil => intro cs off; rfl
  | cons x xs ih => intro cs off; rw [spl, ih]; simp
def Fam.splice (F : Fam) (i off : Nat) (xs : List AV) : Fam := { F with es := F.es.set i (spl (F.es.getD i []) off xs) }
theorem Fam.splice_nil (F : Fam) (i off : Nat) (hi : i < F.es.length) : F.splice i off [] = F := by
  unfold Fam.splice spl
  have : F.es.set i (F.es.getD i []) = F.es := by
    apply List.ext_getElem?; intro k
    rw [List.getElem?_set]; split
    · rename_i h; subst h; simp [hi, List.getD]
    · rfl
  rw [this]
theorem Fam.splice_cons (F : Fam) (i off : Nat) (x : AV) (xs : List AV) (hi : i < F.es.length) : F.splice i off (x :: xs) = (F.cellSet i off x).splice i (off + 1) xs := by
  unfold Fam.splice Fam.cellSet
  simp only [spl, List.set_set, getD_set, true_and, hi, if_true]
theorem run_storeCells {P : Program} (xs : List AV) : ∀ (vs : List Value) (κ : Kap) (σ : AH) (w : World) (φ i j n : Nat) (F : Fam) (r : Reg) (a : Addr), Rel κ σ w → σ φ = some F → κ.ρ φ F.st = some r →
    r.lo ≤ i → i < F.es.length → j + n + xs.length ≤ F.sz → VRs κ xs vs → (∀ x, x ∈ xs → x.one = true) → a = ⟨r.b, r.base + (i - r.lo) * r.sz + j, none⟩ →
    ∃ w', (storeCells a vs n).run P w = .ok () w' ∧ Stp κ σ w κ (σ.set φ (F.splice i (j + n) xs)) w' := by
  induction xs with
  | nil =>
    intro vs κ σ w φ i j n F r a hr hF hρ hlo hi hle hv _ _
    obtain rfl := hv.unnil
    refine ⟨w, rfl, ?_⟩
    rw [Fam.splice_nil _ _ _ hi, AH.set_self hF]; exact .refl hr
  | cons x xs ih =>
    intro vs κ σ w φ i j n F r a hr hF hρ hlo hi hle hv h1 ha
    obtain ⟨v, us, rfl, hv1, hv2⟩ := hv.uncons
    simp only [List.length_cons] at hle
    obtain ⟨g1, g2⟩ := Stp.cell (P := P) hr hF hρ hlo hi (j := j + n) (by omega) hv1 (one_ok (h1 x (by simp)) hv1)
    have hi' : i < (F.cellSet i (j + n) x).es.length := by simpa [Fam.cellSet] using hi
    obtain ⟨w', e, hs⟩ := ih us κ _ _ φ i j (n + 1) (F.cellSet i (j + n) x) r a g2.rel (AH.set_same ..) hρ hlo hi' (by show j + (n + 1) + xs.length ≤ F.sz; omega) hv2 (fun y hy => h1 y (by simp [hy])) ha
    refine ⟨w', ?_, ?_⟩
    · subst ha
      simp only [storeCells, Sem.run_bind, addr_add]
      rw [Nat.add_assoc (r.base + (i - r.lo) * r.sz) j n, g1]
      exact e
    · rw [AH.set_set] at hs
      rw [Fam.splice_cons _ _ _ _ _ hi]
      exact g2.trans hs
def astore (T : Tab) (t : TypeId) (p v : AV) (σ : AH) (k : AH → Prop) : Prop :=
  match T t, p, acells v with
  | some ti, .ptr φ st i off, some xs => xs.length = ti.size ∧ (∀ x, x ∈ xs → x.one = true) ∧ ∃ F, σ φ = some F ∧ F.st = st ∧ i < F.es.length ∧ off + xs.length ≤ F.sz ∧ k (σ.set φ (F.splice i off xs))
  | _, _, _ => False
section
variable {P : Program} {T : Tab} (hT : TabOk P T)
include hT
theorem run_storeVar {κ : Kap} {σ : AH} {w : World} (hr : Rel κ σ w) {t : TypeId} {p x : AV} {v u : Value} {k : AH → Prop} (h : VR κ p v) (hx : VR κ x u) (e : astore T t p x σ k) :
    ∃ b o, v = .pointer (some ⟨b, o, none⟩) ∧ ∃ w' σ', (storeVar t ⟨b, o, none⟩ u).run P w = .ok () w' ∧ Stp κ σ w κ σ' w' ∧ k σ' := by
  unfold astore at e
  split at e
  · rename_i ti φ st i off xs ht hc
    obtain ⟨hl, h1, F, hF, hst, hi, hle, hk⟩ := e
    have hxs := acells_ok hc hx
    cases h with
    | @ptr _ _ _ _ r hρ hlo =>
      subst hst
      obtain ⟨w', e, hs⟩ := run_storeCells (P := P) xs u.cells.toList κ σ w φ i off 0 F r _ hr hF hρ hlo hi (by omega) hxs h1 rfl
      refine ⟨_, _, rfl, w', _, ?_, hs, hk⟩
      have hsz : u.cells.size = ti.size := by rw [← hl, hxs.1]; simp
      simp only [storeVar, Sem.run_bind, run_sizeOf hT w ht, Result.andThen_ok, hsz, ne_eq, not_true_eq_false, if_false]
      exact e
  · exact e.elim
end

/-! ### a new row -/
theorem Stp.fresh {κ : Kap} {σ : AH} {w : World} (hr : Rel κ σ w) {φ : Nat} {F' : Fam} {lo cap : Nat} (c : Array Value) (e : TypeId)
    (hnew : κ.ρ φ F'.st = none) (hst : ∀ st, F'.st < st → κ.ρ φ st = none) (hid : σ φ = none → ∀ st, κ.ρ φ st = none)
    (hlen : F'.es.length ≤ lo + cap) (hc : cap * F'.sz ≤ c.size) (hz : ∀ i, lo ≤ i → i < F'.es.length → (F'.es.getD i []).length = F'.sz)
    (hcell : ∀ i j, lo ≤ i → i < F'.es.length → j < F'.sz → ∃ v, c[(i - lo) * F'.sz + j]? = some v ∧ VR κ ((F'.es.getD i []).getD j .any) v) :
    Stp κ σ w (κ.put φ F'.st ⟨w.heap.size, 0, lo, cap, F'.sz⟩) (σ.set φ F') (w.alloc (.cells c e)) := by
  have hE : Ext κ (κ.put φ F'.st ⟨w.heap.size, 0, lo, cap, F'.sz⟩) := Kap.put_ext _ hnew
  refine Stp.turn hr (.inl hnew) hst (.inr ⟨Nat.le_refl _, hid⟩) (by simp) (fun b hb _ => Below.heap_alloc _ _ _ hb) rfl rfl rfl ⟨rfl, hlen, ⟨c, e, (0, 0), ?_, ?_⟩, ?_, hz, ?_⟩
  · show (w.heap.push _)[w.heap.size]? = _
    simp
  · simpa using hc
  · intro o _; exact World.frozen?_alloc_new w c e o
  · intro i j hi hil hj
    obtain ⟨v, h1, h2⟩ := hcell i j hi hil hj
    refine ⟨v, ?_, h2.mono hE⟩
    simp only [Nat.zero_add, World.cell?_alloc_new]; exact h1
/-- A family that nobody has. -/
theorem Rel.newId {κ : Kap} {σ : AH} {w : World} (hr : Rel κ σ w) : ∃ φ, σ φ = none ∧ ∀ st, κ.ρ φ st = none := by
  obtain ⟨N, hN⟩ := hr.fin; exact ⟨N, hN N (Nat.le_refl _)⟩
theorem Stp.newVar {κ : Kap} {σ : AH} {w : World} (hr : Rel κ σ w) {φ : Nat} (h1 : ∀ st, κ.ρ φ st = none) {xs : List AV} {vs : List Value} (e : TypeId) (hv : VRs κ xs vs) :
    ∃ κ', Stp κ σ w κ' (σ.set φ ⟨0, xs.length, [xs]⟩) (w.alloc (.cells vs.toArray e)) ∧ VR κ' (.ptr φ 0 0 0) (.pointer (some ⟨w.heap.size, 0, none⟩)) := by
  refine ⟨_, Stp.fresh (F' := ⟨0, xs.length, [xs]⟩) (lo := 0) (cap := 1) hr vs.toArray e (h1 0) (fun st _ => h1 st) (fun _ => h1) (by simp) (by simp [hv.1]) ?_ ?_, ?_⟩
  · intro i _ hi
    have : i = 0 := by simp at hi; omega
    subst this; rfl
  · intro i j _ hi hj
    have : i = 0 := by simp at hi; omega
    subst this
    have hj' : j < vs.length := by rw [← hv.1]; exact hj
    exact ⟨vs.getD j undef, by simp [List.getD, hj'], hv.2 j hj⟩
  · have h := VR.ptr (i := 0) (off := 0) (r := ⟨w.heap.size, 0, 0, 1, xs.length⟩) (Kap.put_same κ φ 0 ⟨w.heap.size, 0, 0, 1, xs.length⟩) (Nat.le_refl _)
    simpa using h
def abox (v : AV) (σ : AH) (k : AV → AH → Prop) : Prop :=
  match acells v with
  | some xs => ∀ φ, σ φ = none → k (.ptr φ 0 0 0) (σ.set φ ⟨0, xs.length, [xs]⟩)
  | none => False
def aalloc (T : Tab) (t : TypeId) (σ : AH) (k : AV → AH → Prop) : Prop :=
  match T t with
  | some ti => abox (ofV ti.zero) σ k
  | none => False
theorem run_newVar {P : Program} {κ : Kap} {σ : AH} {w : World} (hr : Rel κ σ w) {x : AV} {v : Value} {k : AV → AH → Prop} (t : TypeId) (hx : VR κ x v) (e : abox x σ k) :
    ∃ u w' κ' σ' y, (do pure (.pointer (some (← newVar t v))) : Sem Value).run P w = .ok u w' ∧ k y σ' ∧ Stp κ σ w κ' σ' w' ∧ VR κ' y u := by
  unfold abox at e
  split at e
  · rename_i xs hc
    obtain ⟨φ, h0, h1⟩ := hr.newId
    obtain ⟨κ', hs, hv⟩ := Stp.newVar hr h1 t (acells_ok hc hx)
    refine ⟨_, _, κ', _, _, ?_, e φ h0, hs, hv⟩
    simp [Go.newVar, newRow]
  · exact e.elim
end Go.Proofs.Ytjfdgijgkbojnaa.E
