/- The engine, part 21: a region that draws its order, looked at in one order. -/
import Derived.Test.YtjfdgijgkbojnaaE20
import Derived.Test.YtjfdgijgkbojnaaEG
set_option linter.unusedSectionVars false
namespace Go.Proofs.Ytjfdgijgkbojnaa.E
open Go Go.RowKit
variable [Lam]

/-- What was yielded without a heap: the model comes to it. -/
theorem bvalD_sop {P : Program} {T : Tab} (hT : TabOk P T) {o : Oper} {t : List AV} {σ : AH} {K : AEnd → AH → Prop} {v : AV} (h : bvalD T o.op (aeval t) σ = some v) (hk : K (.ret v) σ) : sop P o t σ K := by
  unfold bvalD at h
  split at h
  · rename_i ty n ps ho
    split at h
    case h_2 => cases h
    rename_i te hte
    unfold bslR at h
    split at h
    case h_2 => cases h
    rename_i es hes
    split at h
    case isFalse => cases h
    rename_i hc
    obtain rfl := Option.some.inj h
    have hb : bop P T o.op (aeval t) σ (fun e σ' => ∃ φ, e = .ret (.own φ 0 0 n) ∧ σ φ = none ∧ σ' = σ.set φ ⟨0, te.size, es⟩) := by
      rw [ho]
      simp only [bop, hte]
      unfold bsl
      rw [hes]
      exact ⟨hc.1, fun φ hφ => ⟨φ, rfl, hφ, rfl⟩⟩
    intro r m κ w a hr he next Qx h1 h2
    refine aop_sop hT (bop_ok hb) r m κ w a hr he next Qx ?_ ?_
    · rintro κ' x u σ' w' ⟨φ, hx, hφ, rfl⟩ hs hv
      cases hx
      have hlen : es.length = n := by
        have : ∀ (ps : List (Nat × AV)) (es es' : List (List AV)), afillS te.size es ps = some es' → es'.length = es.length := by
          intro ps
          induction ps with
          | nil => intro es es' h; obtain rfl := Option.some.inj h; rfl
          | cons p ps ih =>
            intro es es' h
            unfold afillS at h
            split at h
            · split at h
              · have := ih _ _ h; simpa using this
              · cases h
            · cases h
        have := this _ _ _ hes; simpa using this
      have hfz : Fz σ (σ.set φ ⟨0, te.size, es⟩) (.own φ 0 0 n) (.ro es) := by
        refine .own (AH.set_same ..) hφ rfl (by simp [hlen]) hlen (fun i hi => ?_) (fun i j hi hj => ?_)
        · have hi : i < es.length := by omega
          have : es.getD i [] = es[i] := by simp [List.getD, hi]
          rw [this]; exact hc.2 _ (List.getElem_mem hi)
        · rw [Nat.zero_add]; exact .same _
      obtain ⟨κ2, s2, v2⟩ := imp_freeze (AH.Sub.set (.refl σ) _ hφ) hfz κ' w' u hs.rel hv
      exact h1 κ2 _ u σ w' hk (hs.trans s2) v2
    · rintro κ' x u σ' w' ⟨φ, hx, _⟩ _ _
      cases hx
  · rename_i s d x ho
    split at h
    · rename_i hb
      have : bop P T o.op (aeval t) σ K := by
        rw [ho]
        simp only [bop, aop]
        unfold b2s at h
        split at h
        case h_2 => cases h
        rename_i es hx
        obtain ⟨bs, hbs, rfl⟩ := Option.map_eq_some_iff.mp h
        unfold bytesT at hb
        split at hb
        case h_2 => cases hb
        rename_i ts td h1 h2
        split at hb
        case h_2 => cases hb
        rename_i e h3 h4
        split at hb
        case h_2 => cases hb
        rename_i te h5
        split at hb
        case h_2 => cases hb
        rename_i h6
        unfold aconv
        simp only [h1, h2, h3, h4, hx, aelems, h5, h6, hbs]
        exact ⟨Nat.eq_of_beq_eq_true hb, (fun s e => (by cases e)), hk⟩
      exact aop_sop hT (bop_ok this)
    · exact aop_sop hT (bop_ok (bval_bop (o := o.op) (by rw [ho]; exact h) hk))
  · exact aop_sop hT (bop_ok (bval_bop h hk))
def wat1 (T : Tab) (ops : Array Oper) (x : Nat) (t : List AV) (σ : AH) : Prop := match ops[x]? with
  | some o => match o.dst with
    | some d => gvo ops o t (bvalD T o.op (aeval t) σ) = some (t.getD d .any)
    | none => False
  | none => False
/-- What was read already has to be as it was. -/
def wat (T : Tab) (ops : Array Oper) : List Nat → List AV → AH → Prop
  | [], _, _ => True
  | x :: r, t, σ => wat1 T ops x t σ ∧ wat T ops r t σ
theorem wat_iff {T : Tab} {ops : Array Oper} {t : List AV} {σ : AH} (l : List Nat) : wat T ops l t σ ↔ ∀ x ∈ l, wat1 T ops x t σ := by
  induction l with
  | nil => simp [wat]
  | cons x l ih => simp [wat, ih]
def isRead (ops : Array Oper) (x : Nat) : Bool := match ops[x]? with | some o => reads o.op | none => false
/-- A new cell, of a zero value. -/
def isAlloc (o : Op) : Bool := match o with | .alloc _ => true | _ => false
def isNew (ops : Array Oper) (i : Nat) : Bool := match ops[i]? with | some o => isAlloc o.op | none => false
def isCallV (o : Op) : Bool := match o with
  | .call c => match c.callee with | .value _ => true | _ => false
  | _ => false
def wl (ops : Array Oper) (ancs : List Nat) (dn : List Nat) (i : Nat) : List Nat := dn.filter fun x => isRead ops x && !(ancs.getD i 0).testBit x && !isNew ops i
def cw (P : Program) (T : Tab) (ops : Array Oper) (ancs : List Nat) : List Nat → List Nat → List AV → AH → (List AV → AH → Prop) → (AV → AH → Prop) → Prop
  | [], _, t, σ, K, _ => K t σ
  | i :: l, dn, t, σ, K, Kp => match ops[i]? with
    | none => False
    | some o => match silentD o.op with
      | true => og (gvo ops o t (bvalD T o.op (aeval t) σ)) fun v => cw P T ops ancs l (i :: dn) (aput t o.dst v) σ K Kp
      | false => bgd ops o t
        (fun t => bop P T o.op (aeval t) σ (onr (fun v σ' => wat T ops (wl ops ancs dn i) (aput t o.dst v) σ' ∧ cw P T ops ancs l (i :: dn) (aput t o.dst v) σ' K Kp) (fun v σ' => Kp v σ')))
        (fun t => cw P T ops ancs l (i :: dn) (aput t o.dst (.tup [])) σ K Kp)

/-- What an operation that only reckons or reads yields, guard and all. -/
def sv (T : Tab) (ops : Array Oper) (o : Oper) (t : List AV) (σ : AH) : Option AV := match gdec ops o t with
  | some true => bvalD T o.op (aeval t) σ
  | some false => some (.tup [])
  | none => none

section
variable {P : Program} {T : Tab} {ops : Array Oper} {ancs : List Nat} {t : List AV} {σ : AH} {K : List AV → AH → Prop} {Kp : AV → AH → Prop}
theorem sv_gvo {o : Oper} : sv T ops o t σ = gvo ops o t (bvalD T o.op (aeval t) σ) := gvo_gdec.symm
theorem cw_silent {i : Nat} {o : Oper} {l dn : List Nat} (hi : ops[i]? = some o) (hs : silentD o.op = true) :
    cw P T ops ancs (i :: l) dn t σ K Kp ↔ ∃ v, sv T ops o t σ = some v ∧ cw P T ops ancs l (i :: dn) (aput t o.dst v) σ K Kp := by
  simp only [cw, hi, hs, ← sv_gvo]
  constructor
  · intro h; exact og_some h
  · rintro ⟨v, h1, h2⟩; rw [h1]; exact h2
theorem cw_loud {i : Nat} {o : Oper} {l dn : List Nat} (hi : ops[i]? = some o) (hs : silentD o.op = false) :
    cw P T ops ancs (i :: l) dn t σ K Kp ↔
      (gdec ops o t = some true ∧ bop P T o.op (aeval t) σ (onr (fun v σ' => wat T ops (wl ops ancs dn i) (aput t o.dst v) σ' ∧ cw P T ops ancs l (i :: dn) (aput t o.dst v) σ' K Kp) (fun v σ' => Kp v σ'))) ∨
      (gdec ops o t = some false ∧ cw P T ops ancs l (i :: dn) (aput t o.dst (.tup [])) σ K Kp) := by
  simp only [cw, hi, hs, bgd_iff]
theorem onr_mono {k k' : AV → AH → Prop} {p p' : AV → AH → Prop} (h : ∀ v σ, k v σ → k' v σ) (h' : ∀ v σ, p v σ → p' v σ) : ∀ e σ, onr k p e σ → onr k' p' e σ := by
  intro e σ he
  cases e
  · exact h _ _ he
  · exact h' _ _ he
theorem cw_cons_mono {i : Nat} {l l' dn : List Nat} (h : ∀ t σ, cw P T ops ancs l (i :: dn) t σ K Kp → cw P T ops ancs l' (i :: dn) t σ K Kp) (k : cw P T ops ancs (i :: l) dn t σ K Kp) : cw P T ops ancs (i :: l') dn t σ K Kp := by
  cases hi : ops[i]? with
  | none => simp only [cw, hi] at k
  | some o =>
    cases hs : silentD o.op with
    | true =>
      rw [cw_silent hi hs] at k ⊢
      obtain ⟨v, h1, h2⟩ := k
      exact ⟨v, h1, h _ _ h2⟩
    | false =>
      rw [cw_loud hi hs] at k ⊢
      rcases k with ⟨h1, h2⟩ | ⟨h1, h2⟩
      · exact .inl ⟨h1, bop_mono (silentD_false hs) (onr_mono (fun v σ g => ⟨g.1, h _ _ g.2⟩) (fun _ _ g => g)) h2⟩
      · exact .inr ⟨h1, h _ _ h2⟩
theorem cw_dn (l : List Nat) : ∀ (dn dn' : List Nat) (t : List AV) (σ : AH), (∀ x, x ∈ dn' → x ∈ dn) → cw P T ops ancs l dn t σ K Kp → cw P T ops ancs l dn' t σ K Kp := by
  induction l with
  | nil => intro dn dn' t σ _ h; exact h
  | cons i l ih =>
    intro dn dn' t σ hd k
    have hd' : ∀ x, x ∈ i :: dn' → x ∈ i :: dn := fun x hx => by
      rcases List.mem_cons.mp hx with rfl | hx
      · exact List.mem_cons_self
      · exact List.mem_cons_of_mem _ (hd x hx)
    cases hi : ops[i]? with
    | none => simp only [cw, hi] at k
    | some o =>
      cases hs : silentD o.op with
      | true =>
        rw [cw_silent hi hs] at k ⊢
        obtain ⟨v, h1, h2⟩ := k
        exact ⟨v, h1, ih _ _ _ _ hd' h2⟩
      | false =>
        rw [cw_loud hi hs] at k ⊢
        rcases k with ⟨h1, h2⟩ | ⟨h1, h2⟩
        · refine .inl ⟨h1, bop_mono (silentD_false hs) (onr_mono (fun v σ g => ⟨?_, ih _ _ _ _ hd' g.2⟩) (fun _ _ g => g)) h2⟩
          rw [wat_iff] at g ⊢
          intro x hx
          obtain ⟨a, b⟩ := List.mem_filter.mp hx
          exact g.1 x (List.mem_filter.mpr ⟨hd x a, b⟩)
        · exact .inr ⟨h1, ih _ _ _ _ hd' h2⟩

def noLook (ops : Array Oper) (dst : Option Tmp) (o : Oper) : Prop := ∀ d, dst = some d → d ∉ o.looksAt ops
theorem sv_put {o : Oper} {dst : Option Tmp} {v : AV} (h : noLook ops dst o) : sv T ops o (aput t dst v) σ = sv T ops o t σ := by
  unfold sv
  rw [gdec_put h]
  split <;> first | rfl | exact bvalD_put h
theorem sv_still {o : Oper} (hr : reads o.op = false) (σ' : AH) : sv T ops o t σ = sv T ops o t σ' := by
  unfold sv
  split <;> first | rfl | exact bvalD_still hr _ _ _
/-- Watching is not disturbed by another slot. -/
theorem wat1_put {x : Nat} {o : Oper} {dst : Option Tmp} {v : AV} (hx : ops[x]? = some o) (h : noLook ops dst o) (hd : ∀ d, dst = some d → o.dst ≠ some d) :
    wat1 T ops x (aput t dst v) σ → wat1 T ops x t σ := by
  unfold wat1
  simp only [hx]
  split
  · rename_i d hod
    rw [← sv_gvo, ← sv_gvo, sv_put h]
    intro h2
    rw [h2]
    cases dst with
    | none => rfl
    | some e =>
      have hne : e ≠ d := by rintro rfl; exact hd e rfl hod
      simp [aput, List.getD, List.getElem?_set_ne hne]
  · exact id

theorem set_getD_same (t t' : List AV) (d : Nat) (v : AV) (hl : t'.length = t.length) : t'.set d ((t.set d v).getD d .any) = t'.set d v := by
  by_cases h : d < t.length
  · rw [show (t.set d v).getD d .any = v by simp [List.getD, h]]
  · rw [List.set_eq_of_length_le (by omega), List.set_eq_of_length_le (by omega)]

/-- What one writes the other does not look at, nor write. -/
def wapart (ops : Array Oper) (x y : Oper) : Bool := match x.dst with
  | some d => !(y.looksAt ops).contains d && y.dst != some d
  | none => true
theorem wapart_spec {ops : Array Oper} {x y : Oper} (h : wapart ops x y = true) : noLook ops x.dst y ∧ ∀ d, x.dst = some d → y.dst ≠ some d := by
  refine ⟨fun d hd => ?_, fun d hd => ?_⟩ <;> simp [wapart, hd] at h
  · exact h.1
  · exact h.2
/-- An operation that only reckons or reads goes behind another one. -/
theorem cw_swap {c i : Nat} {oc oi : Oper} {l dn : List Nat} (hc : ops[c]? = some oc) (hi : ops[i]? = some oi) (hs : silentD oc.op = true) (hap : oc.apart ops oi = true)
    (hself : isRead ops c = true → noLook ops oc.dst oc) (hanc : (ancs.getD i 0).testBit c = false) (hnew : isNew ops i = false) (hdn : ∀ y ∈ dn, ∀ oy, ops[y]? = some oy → isRead ops y = true → wapart ops oc oy = true)
    (k : cw P T ops ancs (c :: i :: l) dn t σ K Kp) : cw P T ops ancs (i :: c :: l) dn t σ K Kp := by
  obtain ⟨a1, a2, a3⟩ := Oper.apart_spec hap
  have a2' : ∀ d, oi.dst = some d → oc.dst ≠ some d := fun d h e => a2 d e h
  have hperm : ∀ x, x ∈ c :: i :: dn → x ∈ i :: c :: dn := by
    intro x hx; simp only [List.mem_cons] at hx ⊢; rcases hx with h | h | h <;> simp [h]
  rw [cw_silent hc hs] at k
  obtain ⟨v, hv, k⟩ := k
  cases hsi : silentD oi.op with
  | true =>
    rw [cw_silent hi hsi] at k ⊢
    obtain ⟨u, hu, k⟩ := k
    rw [sv_put a1] at hu
    refine ⟨u, hu, ?_⟩
    rw [cw_silent hc hs]
    refine ⟨v, by rw [sv_put a3]; exact hv, ?_⟩
    rw [aput_comm t u v a2']
    exact cw_dn _ _ _ _ _ hperm k
  | false =>
    rw [cw_loud hi hsi] at k ⊢
    rw [gdec_put a1] at k
    rcases k with ⟨g, k⟩ | ⟨g, k⟩
    · refine .inl ⟨g, ?_⟩
      rw [bop_put a1] at k
      refine bop_mono (silentD_false hsi) (onr_mono (fun r σ' => ?_) (fun _ _ g => g)) k
      rintro ⟨hw, hk⟩
      rw [wat_iff] at hw
      have hcomm : aput (aput t oc.dst v) oi.dst r = aput (aput t oi.dst r) oc.dst v := aput_comm t v r a2
      rw [hcomm] at hw hk
      refine ⟨?_, ?_⟩
      · rw [wat_iff]
        intro y hy
        obtain ⟨y1, y2⟩ := List.mem_filter.mp hy
        have := hw y (List.mem_filter.mpr ⟨List.mem_cons_of_mem _ y1, y2⟩)
        cases hoy : ops[y]? with
        | none => simp only [wat1, hoy] at this
        | some oy =>
          obtain ⟨b1, b2⟩ := wapart_spec (hdn y y1 oy hoy (by simp only [Bool.and_eq_true] at y2; exact y2.1.1))
          exact wat1_put hoy b1 b2 this
      · rw [cw_silent hc hs]
        have fin : ∀ u, sv T ops oc (aput t oi.dst r) σ' = some u → aput (aput t oi.dst r) oc.dst u = aput (aput t oi.dst r) oc.dst v → ∃ v, sv T ops oc (aput t oi.dst r) σ' = some v ∧ cw P T ops ancs l (c :: i :: dn) (aput (aput t oi.dst r) oc.dst v) σ' K Kp :=
          fun u h1 h2 => ⟨u, h1, by rw [h2]; exact cw_dn _ _ _ _ _ hperm hk⟩
        cases hrd : reads oc.op with
        | false => exact fin v (by rw [sv_still hrd σ, sv_put a3]; exact hv) rfl
        | true =>
          have hread : isRead ops c = true := by simp only [isRead, hc]; exact hrd
          have := hw c (List.mem_filter.mpr ⟨List.mem_cons_self, by rw [hread, hanc, hnew]; rfl⟩)
          unfold wat1 at this
          simp only [hc] at this
          split at this
          case h_2 => exact this.elim
          rename_i d hd
          have hn := hself hread
          rw [← sv_gvo, sv_put hn] at this
          refine fin ((aput (aput t oi.dst r) oc.dst v).getD d .any) this ?_
          rw [hd]
          exact set_getD_same _ _ _ _ rfl
    · refine .inr ⟨g, ?_⟩
      rw [cw_silent hc hs]
      refine ⟨v, by rw [sv_put a3]; exact hv, ?_⟩
      rw [aput_comm t (.tup []) v a2']
      exact cw_dn _ _ _ _ _ hperm k
/-! ### what was read stays so in a greater heap -/
theorem acellsAt_mono {σ σ' : AH} (hs : AH.Sub σ σ') {p : AV} {cs : List AV} (h : acellsAt σ p = some cs) : acellsAt σ' p = some cs := by
  unfold acellsAt at h ⊢
  split at h
  · exact h
  · split at h
    · rename_i F hF; simp only [hs _ _ hF]; exact h
    · cases h
  · cases h
theorem lod_mono {σ σ' : AH} (hs : AH.Sub σ σ') {p v : AV} (h : lod p σ = some v) : lod p σ' = some v := by
  unfold lod at h ⊢
  split at h
  · rename_i e; rw [acellsAt_mono hs e]; exact h
  · cases h
theorem lodA_mono {σ σ' : AH} (hs : AH.Sub σ σ') {n : Nat} {p v : AV} (h : lodA n p σ = some v) : lodA n p σ' = some v := by
  unfold lodA at h ⊢
  split at h
  · rename_i e; rw [acellsAt_mono hs e]; exact h
  · cases h
theorem idx_mono {σ σ' : AH} (hs : AH.Sub σ σ') {n : Nat} {x i v : AV} (h : idx n x i σ = some v) : idx n x i σ' = some v := by
  unfold idx at h ⊢
  split at h
  · split at h
    · exact h
    · split at h
      · rename_i F hF; simp only [hs _ _ hF]; exact h
      · cases h
    · cases h
  · cases h
theorem slc_mono {σ σ' : AH} (hs : AH.Sub σ σ') {n : Nat} {x : AV} {lo hi mx : Option AV} {v : AV} (h : slc n x lo hi mx σ = some v) : slc n x lo hi mx σ' = some v := by
  unfold slc at h ⊢
  split at h
  · exact h
  · split at h
    · rename_i F l k hF h1 h2; simp only [hs _ _ hF, h1, h2]; exact h
    · rename_i F l k m hF h1 h2; simp only [hs _ _ hF, h1, h2]; exact h
    · cases h
  · exact h
  · exact h
  · cases h
theorem bvalD_mono {σ σ' : AH} (hs : AH.Sub σ σ') {o : Op} {ev : Operand → AV} {v : AV} (h : bvalD T o ev σ = some v) : bvalD T o ev σ' = some v := by
  by_cases hr : reads o = false
  · rw [bvalD_still hr ev σ' σ]; exact h
  · cases o with
    | load ty p =>
      simp only [bvalD, bval] at h ⊢
      split at h
      · split at h
        · exact lodA_mono hs h
        · exact lod_mono hs h
        · cases h
      · cases h
    | slice ty x lo hi mx =>
      simp only [bvalD, bval] at h ⊢
      split at h
      · exact slc_mono hs h
      · exact h
      · cases h
    | indexAddr ty x i =>
      simp only [bvalD, bval] at h ⊢
      split at h
      · exact idx_mono hs h
      · exact h
    | _ => exact absurd rfl hr
theorem sv_mono {σ' : AH} (hs : AH.Sub σ σ') {o : Oper} {v : AV} (h : sv T ops o t σ = some v) : sv T ops o t σ' = some v := by
  unfold sv at h ⊢
  split at h
  · exact bvalD_mono hs h
  · exact h
  · cases h
theorem wl_new {dn : List Nat} {i : Nat} (h : isNew ops i = true) : wl ops ancs dn i = [] := by
  unfold wl; rw [List.filter_eq_nil_iff]; intro x _; simp [h]
theorem new_alloc {i : Nat} {oi : Oper} (hi : ops[i]? = some oi) (h : isNew ops i = true) : ∃ ty, oi.op = .alloc ty := by
  unfold isNew at h
  rw [hi] at h
  simp only [] at h
  unfold isAlloc at h
  split at h
  · exact ⟨_, ‹_›⟩
  · cases h
/-- An operation that only reckons or reads goes behind a new cell. -/
theorem cw_swapN {c i : Nat} {oc oi : Oper} {l dn : List Nat} (hc : ops[c]? = some oc) (hi : ops[i]? = some oi) (hs : silentD oc.op = true) (hap : oc.apart ops oi = true) (hnew : isNew ops i = true)
    (k : cw P T ops ancs (c :: i :: l) dn t σ K Kp) : cw P T ops ancs (i :: c :: l) dn t σ K Kp := by
  obtain ⟨a1, a2, a3⟩ := Oper.apart_spec hap
  have a2' : ∀ d, oi.dst = some d → oc.dst ≠ some d := fun d h e => a2 d e h
  have hperm : ∀ x, x ∈ c :: i :: dn → x ∈ i :: c :: dn := by
    intro x hx; simp only [List.mem_cons] at hx ⊢; rcases hx with h | h | h <;> simp [h]
  obtain ⟨ty, hty⟩ := new_alloc hi hnew
  have hsi : silentD oi.op = false := by rw [hty]; rfl
  rw [cw_silent hc hs] at k
  obtain ⟨v, hv, k⟩ := k
  rw [cw_loud hi hsi] at k ⊢
  rw [gdec_put a1] at k
  rcases k with ⟨g, k⟩ | ⟨g, k⟩
  · refine .inl ⟨g, ?_⟩
    rw [bop_put a1] at k
    rw [hty] at k ⊢
    simp only [bop] at k ⊢
    split at k
    case h_2 => exact k.elim
    intro φ hφ
    obtain ⟨_, k⟩ := k φ hφ
    refine ⟨by rw [wl_new hnew]; trivial, ?_⟩
    rw [cw_silent hc hs]
    refine ⟨v, by rw [sv_put a3]; exact sv_mono (AH.Sub.set (.refl σ) _ hφ) hv, ?_⟩
    rw [aput_comm t _ v a2']
    exact cw_dn _ _ _ _ _ hperm k
  · refine .inr ⟨g, ?_⟩
    rw [cw_silent hc hs]
    refine ⟨v, by rw [sv_put a3]; exact hv, ?_⟩
    rw [aput_comm t (.tup []) v a2']
    exact cw_dn _ _ _ _ _ hperm k
theorem wat1_put' {x : Nat} {o : Oper} {dst : Option Tmp} {v : AV} (hx : ops[x]? = some o) (h : noLook ops dst o) (hd : ∀ d, dst = some d → o.dst ≠ some d) :
    wat1 T ops x t σ → wat1 T ops x (aput t dst v) σ := by
  unfold wat1
  simp only [hx]
  split
  · rename_i d hod
    rw [← sv_gvo, ← sv_gvo, sv_put h]
    intro h2
    rw [h2]
    cases dst with
    | none => rfl
    | some e =>
      have hne : e ≠ d := by rintro rfl; exact hd e rfl hod
      simp [aput, List.getD, List.getElem?_set_ne hne]
  · exact id
theorem wat1_mono {x : Nat} {σ' : AH} (hs : AH.Sub σ σ') (h : wat1 T ops x t σ) : wat1 T ops x t σ' := by
  unfold wat1 at h ⊢
  split at h
  · split at h
    · rw [← sv_gvo] at h ⊢; exact sv_mono hs h
    · exact h
  · exact h
/-- A call goes behind a new cell. -/
theorem cw_swapA {c i : Nat} {oc oi : Oper} {l dn : List Nat} (hc : ops[c]? = some oc) (hi : ops[i]? = some oi) (hcv : isCallV oc.op = true) (hgc : oc.guard = none) (hgi : oi.guard = none) (hap : oc.apart ops oi = true) (hnew : isNew ops i = true)
    (hty' : ∀ ty, oi.op = .alloc ty → ∃ ti, T ty = some ti) (hdn : ∀ y ∈ dn, ∀ oy, ops[y]? = some oy → isRead ops y = true → wapart ops oi oy = true)
    (k : cw P T ops ancs (c :: i :: l) dn t σ K Kp) : cw P T ops ancs (i :: c :: l) dn t σ K Kp := by
  obtain ⟨a1, a2, a3⟩ := Oper.apart_spec hap
  have a2' : ∀ d, oi.dst = some d → oc.dst ≠ some d := fun d h e => a2 d e h
  have hperm : ∀ x, x ∈ c :: i :: dn → x ∈ i :: c :: dn := by
    intro x hx; simp only [List.mem_cons] at hx ⊢; rcases hx with h | h | h <;> simp [h]
  obtain ⟨ty, hty⟩ := new_alloc hi hnew
  have hsi : silentD oi.op = false := by rw [hty]; rfl
  unfold isCallV at hcv
  split at hcv
  case h_2 => cases hcv
  rename_i cl hop
  split at hcv
  case h_2 => cases hcv
  rename_i fv hcal
  have hsc : silentD oc.op = false := by rw [hop]; simp only [silentD, silent, hcal]
  have hrc : isRead ops c = false := by simp only [isRead, hc, hop]; rfl
  have hgdc : ∀ t, gdec ops oc t = some true := fun t => by unfold gdec; rw [hgc]
  have hgdi : ∀ t, gdec ops oi t = some true := fun t => by unfold gdec; rw [hgi]
  rw [cw_loud hc hsc] at k
  rcases k with ⟨_, k⟩ | ⟨g, _⟩
  case inr => rw [hgdc] at g; cases g
  rw [cw_loud hi hsi]
  refine .inl ⟨hgdi t, ?_⟩
  rw [hty]
  simp only [bop]
  obtain ⟨ti, hT⟩ := hty' ty hty
  rw [hT]
  simp only []
  intro φ hφ
  refine ⟨by rw [wl_new hnew]; trivial, ?_⟩
  rw [cw_loud hc hsc]
  refine .inl ⟨hgdc _, ?_⟩
  rw [bop_put a3]
  rw [hop] at k ⊢
  simp only [bop, hcal] at k ⊢
  refine acallv_mono (acallv_frame hφ k) ?_
  intro e σ' he
  cases e with
  | pan v => exact he
  | ret v =>
    obtain ⟨σ2, rfl, hn, hw, hk⟩ := he
    have hcomm : aput (aput t oc.dst v) oi.dst (.ptr φ 0 0 0) = aput (aput t oi.dst (.ptr φ 0 0 0)) oc.dst v := aput_comm t v _ a2
    rw [cw_loud hi hsi] at hk
    rcases hk with ⟨_, hk⟩ | ⟨g, _⟩
    case inr => rw [hgdi] at g; cases g
    rw [hty] at hk
    simp only [bop, hT] at hk
    obtain ⟨_, hk⟩ := hk φ hn
    rw [hcomm] at hk
    refine ⟨?_, cw_dn _ _ _ _ _ hperm hk⟩
    rw [wat_iff] at hw ⊢
    intro y hy
    obtain ⟨y1, y2⟩ := List.mem_filter.mp hy
    have y1' : y ∈ dn := by
      rcases List.mem_cons.mp y1 with rfl | h
      · simp only [Bool.and_eq_true] at y2
        have h1 := y2.1.1
        simp only [isRead, hi, hty] at h1; cases h1
      · exact h
    have h1 := hw y (List.mem_filter.mpr ⟨y1', y2⟩)
    cases hoy : ops[y]? with
    | none => simp only [wat1, hoy] at h1
    | some oy =>
      obtain ⟨b1, b2⟩ := wapart_spec (hdn y y1' oy hoy (by simp only [Bool.and_eq_true] at y2; exact y2.1.1))
      rw [← hcomm]
      exact wat1_mono (AH.Sub.set (.refl σ2) _ hn) (wat1_put' hoy b1 b2 h1)
end
end Go.Proofs.Ytjfdgijgkbojnaa.E
