/- The engine, part 5: parts of slices and strings, what is built, made and appended. -/
import Derived.Test.YtjfdgijgkbojnaaE4
set_option linter.unusedSectionVars false
namespace Go.Proofs.Ytjfdgijgkbojnaa.E
open Go Go.RowKit
variable [Lam]

section
variable {P : Program} {T : Tab} (hT : TabOk P T)
include hT

/-! ### slice expressions -/
omit hT in
def abd (x : Option AV) (d : Nat) : Option Nat :=   -- a bound that is told, or the one that is meant
  match x with
  | none => some d
  | some (.val (.int _ i)) => if 0 ≤ i then some i.toNat else none
  | some _ => none
omit hT in
def aslice (T : Tab) (t : TypeId) (x : AV) (lo hi mx : Option AV) (σ : AH) : Option AV :=
  match T t with
  | some ti => match ti.under, x with
    | .string, .val (.string s) => match abd lo 0, abd hi s.size, mx with
      | some l, some h, none => if l ≤ h ∧ h ≤ s.size then some (.val (.string (s.extract l h))) else none
      | _, _, _ => none
    | .slice e, .ro es => match T e, abd lo 0, abd hi es.length, abd mx es.length with
      | some te, some l, some h, some m => if l ≤ h ∧ h ≤ m ∧ m ≤ es.length ∧ (mx.isSome = true → hi.isSome = true) ∧ es.all (fun c => c.length == te.size) = true then some (.ro ((es.take h).drop l)) else none
      | _, _, _, _ => none
    | .slice e, .own φ st off n => match T e, σ φ, abd lo 0, abd hi n, mx with
      | some te, some F, some l, some h, none => if l ≤ h ∧ h ≤ n ∧ F.st = st ∧ F.sz = te.size then some (.own φ st (off + l) (h - l)) else none
      | some te, some F, some l, some h, some m => match abd (some m) 0 with
        | some m => if l < h ∧ h ≤ m ∧ m ≤ n ∧ hi.isSome = true ∧ F.st = st ∧ F.sz = te.size then some (.vw φ st (off + l) (h - l)) else none
        | none => none
      | _, _, _, _, _ => none
    | .slice e, .emp => match T e, abd lo 0, abd hi 0, mx with
      | some _, some 0, some 0, none => some .emp
      | _, _, _, _ => none
    | .slice e, .val (.slice none 0 0) => match T e, abd lo 0, abd hi 0, mx with
      | some _, some 0, some 0, none => some (.val (.slice none 0 0))
      | _, _, _, _ => none
    | _, _ => none
  | none => none
omit hT in
theorem run_bd {κ : Kap} {w : World} {x : Option AV} {v : Option Value} (h : (x = none ∧ v = none) ∨ ∃ a u, x = some a ∧ v = some u ∧ VR κ a u) {d n y : Nat} (e : abd x d = some n) (hn : n ≤ y) (c : BoundsCode) :
    (x = none ∧ v = none ∧ n = d) ∨ ∃ u, v = some u ∧ x.isSome = true ∧ (Instr.sliceBound u y c).run P w = .ok n w := by
  rcases h with ⟨rfl, rfl⟩ | ⟨a, u, rfl, rfl, h⟩
  · exact .inl ⟨rfl, rfl, (Option.some.inj e).symm⟩
  · right
    refine ⟨u, rfl, rfl, ?_⟩
    unfold abd at e
    split at e
    · cases ‹some a = none›
    · rename_i k i hx
      obtain rfl := Option.some.inj hx
      cases h
      split at e
      case isFalse => cases e
      rename_i h0
      obtain rfl := Option.some.inj e
      have : i ≤ (y : Int) := by omega
      simp [Instr.sliceBound, asIntOf, h0, this]
    · cases e
omit hT in
theorem run_bounds {κ : Kap} {w : World} {lo hi mx : Option AV} {lv hv mv : Option Value} (isS : Bool) {n cap l h m mm : Nat}
    (hl : (lo = none ∧ lv = none) ∨ ∃ a u, lo = some a ∧ lv = some u ∧ VR κ a u) (hh : (hi = none ∧ hv = none) ∨ ∃ a u, hi = some a ∧ hv = some u ∧ VR κ a u)
    (hm : (mx = none ∧ mv = none) ∨ ∃ a u, mx = some a ∧ mv = some u ∧ VR κ a u)
    (el : abd lo 0 = some l) (eh : abd hi n = some h) (em : abd mx mm = some m) (h1 : l ≤ h) (h2 : h ≤ m) (h3 : m ≤ cap) (h5 : mx.isSome = true → hi.isSome = true) :
    ∃ m', (Instr.sliceBounds isS n cap lv hv mv).run P w = .ok (l, h, m') w ∧ (mx = none → m' = cap) ∧ m ≤ m' ∧ m' ≤ cap := by
  rcases run_bd (P := P) (w := w) hm em h3 (if isS then .slice3Acap else .slice3Alen) with ⟨a1, a2, a3⟩ | ⟨um, a1, a2, a3⟩
  · subst a1; subst a2
    rcases run_bd (P := P) (w := w) hh eh (Nat.le_trans h2 h3) (if isS then .sliceAcap else .sliceAlen) with ⟨b1, b2, b3⟩ | ⟨uh, b1, b2, b3⟩ <;>
    rcases run_bd (P := P) (w := w) hl el h1 .sliceB with ⟨c1, c2, c3⟩ | ⟨ul, c1, c2, c3⟩ <;>
    · subst_vars
      refine ⟨cap, ?_, fun _ => rfl, h3, Nat.le_refl _⟩
      simp [Instr.sliceBounds, *]
  · subst a1
    rcases run_bd (P := P) (w := w) hh eh h2 .slice3B with ⟨b1, b2, b3⟩ | ⟨uh, b1, b2, b3⟩
    · subst b1; have := h5 a2; simp at this
    · rcases run_bd (P := P) (w := w) hl el h1 .slice3C with ⟨c1, c2, c3⟩ | ⟨ul, c1, c2, c3⟩ <;>
      · subst_vars
        refine ⟨m, ?_, fun e => by rw [e] at a2; simp at a2, Nat.le_refl _, h3⟩
        simp [Instr.sliceBounds, *]
theorem run_slice {κ : Kap} {σ : AH} {w : World} (hr : Rel κ σ w) {t : TypeId} {x y : AV} {v : Value} {lo hi mx : Option AV} {lv hv mv : Option Value} (h : VR κ x v)
    (hl : (lo = none ∧ lv = none) ∨ ∃ a u, lo = some a ∧ lv = some u ∧ VR κ a u) (hh : (hi = none ∧ hv = none) ∨ ∃ a u, hi = some a ∧ hv = some u ∧ VR κ a u)
    (hm : (mx = none ∧ mv = none) ∨ ∃ a u, mx = some a ∧ mv = some u ∧ VR κ a u) (e : aslice T t x lo hi mx σ = some y) :
    ∃ z, (Instr.sliceAt t v lv hv mv).run P w = .ok z w ∧ VR κ y z := by
  unfold aslice at e
  split at e
  case h_2 => cases e
  rename_i ti ht
  have hU := run_underlying hT w ht
  split at e
  case h_6 => cases e
  · rename_i s hu
    rw [hu] at hU
    cases h
    split at e
    case h_2 => cases e
    rename_i l h el eh
    split at e
    case isFalse => cases e
    rename_i hc
    obtain rfl := Option.some.inj e
    have hmv : mv = none := by rcases hm with ⟨_, r⟩ | ⟨a, u, c, _⟩; · exact r
                               cases c
    subst hmv
    obtain ⟨m', g1, g2, g3, g4⟩ := run_bounds (P := P) (w := w) (cap := s.size) (mm := s.size) (m := s.size) false hl hh hm el eh rfl hc.1 hc.2 (Nat.le_refl _) (by simp)
    exact ⟨_, by simp [Instr.sliceAt, Instr.slice, hU, g1], .val _⟩
  · rename_i el0 es hu
    rw [hu] at hU
    split at e
    case h_2 => cases e
    rename_i te l h m hte el eh em
    split at e
    case isFalse => cases e
    rename_i hc
    obtain ⟨c1, c2, c3, c4, c5⟩ := hc
    obtain rfl := Option.some.inj e
    have hS := run_sizeOf hT w hte
    have hlen : ((es.take h).drop l).length = h - l := by simp; omega
    cases ‹VR κ (AV.ro es) v› with
    | roEnd a =>
      simp only [List.length_nil, Nat.le_zero] at c3
      obtain rfl : m = 0 := c3
      obtain rfl : h = 0 := by omega
      obtain rfl : l = 0 := by omega
      obtain ⟨m', g1, g2, g3, g4⟩ := run_bounds (P := P) (w := w) (cap := 0) (mm := ([] : List (List AV)).length) true hl hh hm el eh em c1 c2 (Nat.le_refl _) c4
      obtain rfl : m' = 0 := by omega
      simp only [List.length_nil] at g1
      exact ⟨.slice a 0 0, by cases a <;> simp [Instr.sliceAt, Instr.slice, hU, g1, hS], .roEnd _⟩
    | @ro _ b off cap sz vals hcap hz hmm hv =>
      obtain ⟨m', g1, g2, g3, g4⟩ := run_bounds (P := P) (w := w) (cap := cap) (mm := es.length) true hl hh hm el eh em c1 c2 (by omega) c4
      by_cases he : ((es.take h).drop l) = []
      · rw [he]
        have hl0 : h - l = 0 := by rw [← hlen, he]; rfl
        have hres : ∀ (a : Addr), a.spot = none → VR κ (.ro []) (.slice (some a) 0 (m' - l)) := by
          intro a ha
          obtain ⟨ab, ao, as⟩ := a
          obtain rfl : as = none := ha
          exact VR.ro (es := []) (sz := sz) (vals := vals) (Nat.zero_le _) (fun i hi => absurd hi (Nat.not_lt_zero i)) (fun i j hi => absurd hi (Nat.not_lt_zero i)) (fun i j hi => absurd hi (Nat.not_lt_zero i))
        refine ⟨.slice (some (if m' = l then ⟨b, off, none⟩ else (⟨b, off, none⟩ : Addr).add (l * te.size))) (h - l) (m' - l), ?_, ?_⟩
        · by_cases hml : m' = l <;> simp [Instr.sliceAt, Instr.slice, hU, g1, hS, hml]
        · rw [hl0]; refine hres _ ?_
          split
          · rfl
          · rw [addr_add]
      · have hlt : l < h := by
          rcases Nat.lt_or_ge l h with c | c
          · exact c
          · exact absurd (List.length_eq_zero_iff.mp (by rw [hlen]; omega)) he
        have hsz : sz = te.size := by
          have h0 : 0 < es.length := by omega
          rw [← hz 0 h0]
          have := List.all_eq_true.mp c5 (es.getD 0 []) (by simp [List.getD, h0])
          simpa using this
        have hml : m' ≠ l := by omega
        refine ⟨.slice (some ((⟨b, off, none⟩ : Addr).add (l * te.size))) (h - l) (m' - l), by simp [Instr.sliceAt, Instr.slice, hU, g1, hS, hml], ?_⟩
        rw [addr_add]
        have hget : ∀ i, i < h - l → ((es.take h).drop l).getD i [] = es.getD (l + i) [] := by
          intro i hi; rw [getD_drop, getD_take _ _ _ _ (by omega)]
        have key : VR κ (.ro ((es.take h).drop l)) (.slice (some ⟨b, off + l * te.size, none⟩) ((es.take h).drop l).length (m' - l)) := by
          refine VR.ro (sz := sz) (vals := fun i j => vals (l + i) j) (by omega) (fun i hi => ?_) (fun i j hi hj => ?_) (fun i j hi hj => ?_)
          · rw [hget i (by omega)]; exact hz _ (by omega)
          · have := hmm (l + i) j (by omega) hj
            rw [hsz, Nat.add_mul] at this; rw [hsz]
            rw [← this]; congr 1; omega
          · rw [hget i (by omega)]; exact hv _ _ (by omega) hj
        rw [hlen] at key; exact key
  · rename_i el0 φ st off n hu
    rw [hu] at hU
    split at e
    case h_3 => cases e
    case h_2 =>
      rename_i te F l h m0 hte hF el eh
      split at e
      case h_2 => cases e
      rename_i m em
      split at e
      case isFalse => cases e
      rename_i hc
      obtain ⟨c1, c2, c3, c4, rfl, c6⟩ := hc
      obtain rfl := Option.some.inj e
      have hS := run_sizeOf hT w hte
      have em' : abd (some m0) n = some m := by
        rw [← em]; unfold abd; split
        · rename_i hh0; cases hh0
        · rfl
        · rfl
      cases ‹VR κ (AV.own φ _ off n) v› with
      | @own _ _ _ _ r hρ hlo hn =>
        obtain ⟨r', e1, _, H⟩ := hr.has φ F hF
        rw [hρ] at e1; obtain rfl := Option.some.inj e1
        have hsz : r.sz = te.size := by rw [H.sz, c6]
        obtain ⟨m', g1, g2, g3, g4⟩ := run_bounds (P := P) (w := w) (cap := r.lo + r.cap - off) (mm := n) (m := m) true hl hh hm el eh em' (by omega) c2 (by omega) (fun _ => c4)
        have hml : m' ≠ l := by omega
        refine ⟨.slice (some ((⟨r.b, r.base + (off - r.lo) * r.sz, none⟩ : Addr).add (l * te.size))) (h - l) (m' - l), by simp [Instr.sliceAt, Instr.slice, hU, g1, hS, hml], ?_⟩
        rw [addr_add]
        have key := VR.vw (κ := κ) (off := off + l) (n := h - l) (cap := m' - l) hρ (by omega) (by omega)
        have e1 : r.base + (off + l - r.lo) * r.sz = r.base + (off - r.lo) * r.sz + l * te.size := by
          rw [← hsz, Nat.add_assoc, ← Nat.add_mul]; congr 2; omega
        rw [e1] at key
        exact key
      | @ownEnd _ _ _ r a hρ hoff => omega
    rename_i te F l h hte hF el eh
    split at e
    case isFalse => cases e
    rename_i hc
    obtain ⟨c1, c2, rfl, c4⟩ := hc
    obtain rfl := Option.some.inj e
    have hS := run_sizeOf hT w hte
    have hmv : mv = none := by rcases hm with ⟨_, r⟩ | ⟨a, u, c, _⟩; · exact r
                               cases c
    subst hmv
    cases ‹VR κ (AV.own φ _ off n) v› with
    | @own _ _ _ _ r hρ hlo hn =>
      obtain ⟨r', e1, _, H⟩ := hr.has φ F hF
      rw [hρ] at e1; obtain rfl := Option.some.inj e1
      have hsz : r.sz = te.size := by rw [H.sz, c4]
      obtain ⟨m', g1, g2, g3, g4⟩ := run_bounds (P := P) (w := w) (cap := r.lo + r.cap - off) (mm := h) (m := h) true hl hh hm el eh rfl c1 (Nat.le_refl _) (by omega) (by simp)
      have g2' := g2 rfl
      subst g2'
      by_cases hml : r.lo + r.cap - off = l
      · have : h - l = 0 := by omega
        rw [hml] at g1
        refine ⟨.slice (some ⟨r.b, r.base + (off - r.lo) * r.sz, none⟩) (h - l) (r.lo + r.cap - off - l), by simp [Instr.sliceAt, Instr.slice, hU, g1, hS, hml], ?_⟩
        rw [this, show r.lo + r.cap - off - l = 0 by omega]
        exact .ownEnd hρ (by omega)
      · refine ⟨.slice (some ((⟨r.b, r.base + (off - r.lo) * r.sz, none⟩ : Addr).add (l * te.size))) (h - l) (r.lo + r.cap - off - l), by simp [Instr.sliceAt, Instr.slice, hU, g1, hS, hml], ?_⟩
        rw [addr_add]
        have key := VR.own (κ := κ) (off := off + l) (n := h - l) hρ (by omega) (by omega)
        have e1 : r.base + (off + l - r.lo) * r.sz = r.base + (off - r.lo) * r.sz + l * te.size := by
          rw [← hsz, Nat.add_assoc, ← Nat.add_mul]; congr 2; omega
        rw [e1, show r.lo + r.cap - (off + l) = r.lo + r.cap - off - l by omega] at key
        exact key
    | @ownEnd _ _ _ r a hρ hoff =>
      obtain rfl : h = 0 := by omega
      obtain rfl : l = 0 := by omega
      obtain ⟨m', g1, g2, g3, g4⟩ := run_bounds (P := P) (w := w) (n := 0) (cap := 0) (mm := 0) (m := 0) true hl hh hm el eh rfl c1 (Nat.le_refl _) (Nat.le_refl _) (by simp)
      obtain rfl : m' = 0 := by omega
      exact ⟨.slice (some a) 0 0, by simp [Instr.sliceAt, Instr.slice, hU, g1, hS], .ownEnd hρ (by omega)⟩
  · rename_i el0 hu
    rw [hu] at hU
    cases ‹VR κ AV.emp v› with
    | emp a =>
      split at e
      case h_2 => cases e
      rename_i te hte el eh
      obtain rfl := Option.some.inj e
      have hS := run_sizeOf hT w hte
      have hmv : mv = none := by rcases hm with ⟨_, r⟩ | ⟨a, u, c, _⟩; · exact r
                                 cases c
      subst hmv
      obtain ⟨m', g1, g2, g3, g4⟩ := run_bounds (P := P) (w := w) (n := 0) (cap := 0) (mm := 0) (m := 0) true hl hh hm el eh rfl (Nat.le_refl _) (Nat.le_refl _) (Nat.le_refl _) (by simp)
      obtain rfl : m' = 0 := by omega
      exact ⟨.slice a 0 0, by simp [Instr.sliceAt, Instr.slice, hU, g1, hS], .emp _⟩
  · rename_i el0 hu
    rw [hu] at hU
    cases ‹VR κ (AV.val _) v›
    split at e
    case h_2 => cases e
    rename_i te hte el eh
    obtain rfl := Option.some.inj e
    have hS := run_sizeOf hT w hte
    have hmv : mv = none := by rcases hm with ⟨_, r⟩ | ⟨a, u, c, _⟩; · exact r
                               cases c
    subst hmv
    obtain ⟨m', g1, g2, g3, g4⟩ := run_bounds (P := P) (w := w) (n := 0) (cap := 0) (mm := 0) (m := 0) true hl hh hm el eh rfl (Nat.le_refl _) (Nat.le_refl _) (Nat.le_refl _) (by simp)
    obtain rfl : m' = 0 := by omega
    exact ⟨.slice none 0 0, by simp [Instr.sliceAt, Instr.slice, hU, g1, hS], .val _⟩
end
end Go.Proofs.Ytjfdgijgkbojnaa.E
