/- The engine, part 21: a region that draws its order, looked at in one order. -/
import Derived.Test.YtjfdgijgkbojnaaE20
namespace Go.Proofs.Ytjfdgijgkbojnaa.E
open Go Go.RowKit

def wat1 (T : Tab) (ops : Array Oper) (x : Nat) (t : List AV) (σ : AH) : Prop := match ops[x]? with
  | some o => match o.dst with
    | some d => gvo ops o t (bval T o.op (aeval t) σ) = some (t.getD d .any)
    | none => False
  | none => False
/-- What was read already has to be as it was. -/
def wat (T : Tab) (ops : Array Oper) : List Nat → List AV → AH → Prop
  | [], _, _ => True
  | x :: r, t, σ => wat1 T ops x t σ ∧ wat T ops r t σ
theorem wat_iff {T : Tab} {ops : Array Oper} {t : List AV} {σ : AH} (l : List Nat) : wat T ops l t σ ↔ ∀ x ∈ l, wat1 T ops x t σ := by
  induction l with
  | nil => simp [wat]
  | cons x l ih => simp [wat, ih]
def isRead (ops : Array Oper) (x : Nat) : Bool := match ops[x]? with | some o => reads o.op | none => false
def wl (ops : Array Oper) (ancs : List Nat) (dn : List Nat) (i : Nat) : List Nat := dn.filter fun x => isRead ops x && !(ancs.getD i 0).testBit x
def cw (P : Program) (T : Tab) (ops : Array Oper) (ancs : List Nat) : List Nat → List Nat → List AV → AH → (List AV → AH → Prop) → (AV → AH → Prop) → Prop
  | [], _, t, σ, K, _ => K t σ
  | i :: l, dn, t, σ, K, Kp => match ops[i]? with
    | none => False
    | some o => match silent o.op with
      | true => og (gvo ops o t (bval T o.op (aeval t) σ)) fun v => cw P T ops ancs l (i :: dn) (aput t o.dst v) σ K Kp
      | false => bgd ops o t
        (fun t => bop P T o.op (aeval t) σ (onr (fun v σ' => wat T ops (wl ops ancs dn i) (aput t o.dst v) σ' ∧ cw P T ops ancs l (i :: dn) (aput t o.dst v) σ' K Kp) (fun v σ' => Kp v σ')))
        (fun t => cw P T ops ancs l (i :: dn) (aput t o.dst (.tup [])) σ K Kp)

/-- What an operation that only reckons or reads yields, guard and all. -/
def sv (T : Tab) (ops : Array Oper) (o : Oper) (t : List AV) (σ : AH) : Option AV := match gdec ops o t with
  | some true => bval T o.op (aeval t) σ
  | some false => some (.tup [])
  | none => none

section
variable {P : Program} {T : Tab} {ops : Array Oper} {ancs : List Nat} {t : List AV} {σ : AH} {K : List AV → AH → Prop} {Kp : AV → AH → Prop}
theorem sv_gvo {o : Oper} : sv T ops o t σ = gvo ops o t (bval T o.op (aeval t) σ) := gvo_gdec.symm
theorem cw_silent {i : Nat} {o : Oper} {l dn : List Nat} (hi : ops[i]? = some o) (hs : silent o.op = true) :
    cw P T ops ancs (i :: l) dn t σ K Kp ↔ ∃ v, sv T ops o t σ = some v ∧ cw P T ops ancs l (i :: dn) (aput t o.dst v) σ K Kp := by
  simp only [cw, hi, hs, ← sv_gvo]
  constructor
  · intro h; exact og_some h
  · rintro ⟨v, h1, h2⟩; rw [h1]; exact h2
theorem cw_loud {i : Nat} {o : Oper} {l dn : List Nat} (hi : ops[i]? = some o) (hs : silent o.op = false) :
    cw P T ops ancs (i :: l) dn t σ K Kp ↔
      (gdec ops o t = some true ∧ bop P T o.op (aeval t) σ (onr (fun v σ' => wat T ops (wl ops ancs dn i) (aput t o.dst v) σ' ∧ cw P T ops ancs l (i :: dn) (aput t o.dst v) σ' K Kp) (fun v σ' => Kp v σ'))) ∨
      (gdec ops o t = some false ∧ cw P T ops ancs l (i :: dn) (aput t o.dst (.tup [])) σ K Kp) := by
  simp only [cw, hi, hs, bgd_iff]
theorem onr_mono {k k' : AV → AH → Prop} {p p' : AV → AH → Prop} (h : ∀ v σ, k v σ → k' v σ) (h' : ∀ v σ, p v σ → p' v σ) : ∀ e σ, onr k p e σ → onr k' p' e σ := by
  intro e σ he
  cases e
  · exact h _ _ he
  · exact h' _ _ he
theorem cw_cons_mono {i : Nat} {l l' dn : List Nat} (h : ∀ t σ, cw P T ops ancs l (i :: dn) t σ K Kp → cw P T ops ancs l' (i :: dn) t σ K Kp) (k : cw P T ops ancs (i :: l) dn t σ K Kp) : cw P T ops ancs (i :: l') dn t σ K Kp := by
  cases hi : ops[i]? with
  | none => simp only [cw, hi] at k
  | some o =>
    cases hs : silent o.op with
    | true =>
      rw [cw_silent hi hs] at k ⊢
      obtain ⟨v, h1, h2⟩ := k
      exact ⟨v, h1, h _ _ h2⟩
    | false =>
      rw [cw_loud hi hs] at k ⊢
      rcases k with ⟨h1, h2⟩ | ⟨h1, h2⟩
      · exact .inl ⟨h1, bop_mono hs (onr_mono (fun v σ g => ⟨g.1, h _ _ g.2⟩) (fun _ _ g => g)) h2⟩
      · exact .inr ⟨h1, h _ _ h2⟩
theorem cw_dn (l : List Nat) : ∀ (dn dn' : List Nat) (t : List AV) (σ : AH), (∀ x, x ∈ dn' → x ∈ dn) → cw P T ops ancs l dn t σ K Kp → cw P T ops ancs l dn' t σ K Kp := by
  induction l with
  | nil => intro dn dn' t σ _ h; exact h
  | cons i l ih =>
    intro dn dn' t σ hd k
    have hd' : ∀ x, x ∈ i :: dn' → x ∈ i :: dn := fun x hx => by
      rcases List.mem_cons.mp hx with rfl | hx
      · exact List.mem_cons_self
      · exact List.mem_cons_of_mem _ (hd x hx)
    cases hi : ops[i]? with
    | none => simp only [cw, hi] at k
    | some o =>
      cases hs : silent o.op with
      | true =>
        rw [cw_silent hi hs] at k ⊢
        obtain ⟨v, h1, h2⟩ := k
        exact ⟨v, h1, ih _ _ _ _ hd' h2⟩
      | false =>
        rw [cw_loud hi hs] at k ⊢
        rcases k with ⟨h1, h2⟩ | ⟨h1, h2⟩
        · refine .inl ⟨h1, bop_mono hs (onr_mono (fun v σ g => ⟨?_, ih _ _ _ _ hd' g.2⟩) (fun _ _ g => g)) h2⟩
          rw [wat_iff] at g ⊢
          intro x hx
          obtain ⟨a, b⟩ := List.mem_filter.mp hx
          exact g.1 x (List.mem_filter.mpr ⟨hd x a, b⟩)
        · exact .inr ⟨h1, ih _ _ _ _ hd' h2⟩

def noLook (ops : Array Oper) (dst : Option Tmp) (o : Oper) : Prop := ∀ d, dst = some d → d ∉ o.looksAt ops
theorem sv_put {o : Oper} {dst : Option Tmp} {v : AV} (h : noLook ops dst o) : sv T ops o (aput t dst v) σ = sv T ops o t σ := by
  unfold sv
  rw [gdec_put h]
  split <;> first | rfl | exact bval_put h
theorem sv_still {o : Oper} (hr : reads o.op = false) (σ' : AH) : sv T ops o t σ = sv T ops o t σ' := by
  unfold sv
  split <;> first | rfl | exact bval_still hr _ _ _
/-- Watching is not disturbed by another slot. -/
theorem wat1_put {x : Nat} {o : Oper} {dst : Option Tmp} {v : AV} (hx : ops[x]? = some o) (h : noLook ops dst o) (hd : ∀ d, dst = some d → o.dst ≠ some d) :
    wat1 T ops x (aput t dst v) σ → wat1 T ops x t σ := by
  unfold wat1
  simp only [hx]
  split
  · rename_i d hod
    rw [← sv_gvo, ← sv_gvo, sv_put h]
    intro h2
    rw [h2]
    cases dst with
    | none => rfl
    | some e =>
      have hne : e ≠ d := by rintro rfl; exact hd e rfl hod
      simp [aput, List.getD, List.getElem?_set_ne hne]
  · exact id

theorem set_getD_same (t t' : List AV) (d : Nat) (v : AV) (hl : t'.length = t.length) : t'.set d ((t.set d v).getD d .any) = t'.set d v := by
  by_cases h : d < t.length
  · rw [show (t.set d v).getD d .any = v by simp [List.getD, h]]
  · rw [List.set_eq_of_length_le (by omega), List.set_eq_of_length_le (by omega)]

/-- What one writes the other does not look at, nor write. -/
def wapart (ops : Array Oper) (x y : Oper) : Bool := match x.dst with
  | some d => !(y.looksAt ops).contains d && y.dst != some d
  | none => true
theorem wapart_spec {ops : Array Oper} {x y : Oper} (h : wapart ops x y = true) : noLook ops x.dst y ∧ ∀ d, x.dst = some d → y.dst ≠ some d := by
  refine ⟨fun d hd => ?_, fun d hd => ?_⟩ <;> simp [wapart, hd] at h
  · exact h.1
  · exact h.2
/-- An operation that only reckons or reads goes behind another one. -/
theorem cw_swap {c i : Nat} {oc oi : Oper} {l dn : List Nat} (hc : ops[c]? = some oc) (hi : ops[i]? = some oi) (hs : silent oc.op = true) (hap : oc.apart ops oi = true)
    (hself : isRead ops c = true → noLook ops oc.dst oc) (hanc : (ancs.getD i 0).testBit c = false) (hdn : ∀ y ∈ dn, ∀ oy, ops[y]? = some oy → isRead ops y = true → wapart ops oc oy = true)
    (k : cw P T ops ancs (c :: i :: l) dn t σ K Kp) : cw P T ops ancs (i :: c :: l) dn t σ K Kp := by
  obtain ⟨a1, a2, a3⟩ := Oper.apart_spec hap
  have a2' : ∀ d, oi.dst = some d → oc.dst ≠ some d := fun d h e => a2 d e h
  have hperm : ∀ x, x ∈ c :: i :: dn → x ∈ i :: c :: dn := by
    intro x hx; simp only [List.mem_cons] at hx ⊢; rcases hx with h | h | h <;> simp [h]
  rw [cw_silent hc hs] at k
  obtain ⟨v, hv, k⟩ := k
  cases hsi : silent oi.op with
  | true =>
    rw [cw_silent hi hsi] at k ⊢
    obtain ⟨u, hu, k⟩ := k
    rw [sv_put a1] at hu
    refine ⟨u, hu, ?_⟩
    rw [cw_silent hc hs]
    refine ⟨v, by rw [sv_put a3]; exact hv, ?_⟩
    rw [aput_comm t u v a2']
    exact cw_dn _ _ _ _ _ hperm k
  | false =>
    rw [cw_loud hi hsi] at k ⊢
    rw [gdec_put a1] at k
    rcases k with ⟨g, k⟩ | ⟨g, k⟩
    · refine .inl ⟨g, ?_⟩
      rw [bop_put a1] at k
      refine bop_mono hsi (onr_mono (fun r σ' => ?_) (fun _ _ g => g)) k
      rintro ⟨hw, hk⟩
      rw [wat_iff] at hw
      have hcomm : aput (aput t oc.dst v) oi.dst r = aput (aput t oi.dst r) oc.dst v := aput_comm t v r a2
      rw [hcomm] at hw hk
      refine ⟨?_, ?_⟩
      · rw [wat_iff]
        intro y hy
        obtain ⟨y1, y2⟩ := List.mem_filter.mp hy
        have := hw y (List.mem_filter.mpr ⟨List.mem_cons_of_mem _ y1, y2⟩)
        cases hoy : ops[y]? with
        | none => simp only [wat1, hoy] at this
        | some oy =>
          obtain ⟨b1, b2⟩ := wapart_spec (hdn y y1 oy hoy (by simp only [Bool.and_eq_true] at y2; exact y2.1))
          exact wat1_put hoy b1 b2 this
      · rw [cw_silent hc hs]
        have fin : ∀ u, sv T ops oc (aput t oi.dst r) σ' = some u → aput (aput t oi.dst r) oc.dst u = aput (aput t oi.dst r) oc.dst v → ∃ v, sv T ops oc (aput t oi.dst r) σ' = some v ∧ cw P T ops ancs l (c :: i :: dn) (aput (aput t oi.dst r) oc.dst v) σ' K Kp :=
          fun u h1 h2 => ⟨u, h1, by rw [h2]; exact cw_dn _ _ _ _ _ hperm hk⟩
        cases hrd : reads oc.op with
        | false => exact fin v (by rw [sv_still hrd σ, sv_put a3]; exact hv) rfl
        | true =>
          have hread : isRead ops c = true := by simp only [isRead, hc]; exact hrd
          have := hw c (List.mem_filter.mpr ⟨List.mem_cons_self, by rw [hread, hanc]; rfl⟩)
          unfold wat1 at this
          simp only [hc] at this
          split at this
          case h_2 => exact this.elim
          rename_i d hd
          have hn := hself hread
          rw [← sv_gvo, sv_put hn] at this
          refine fin ((aput (aput t oi.dst r) oc.dst v).getD d .any) this ?_
          rw [hd]
          exact set_getD_same _ _ _ _ rfl
    · refine .inr ⟨g, ?_⟩
      rw [cw_silent hc hs]
      refine ⟨v, by rw [sv_put a3]; exact hv, ?_⟩
      rw [aput_comm t (.tup []) v a2']
      exact cw_dn _ _ _ _ _ hperm k
end
end Go.Proofs.Ytjfdgijgkbojnaa.E
