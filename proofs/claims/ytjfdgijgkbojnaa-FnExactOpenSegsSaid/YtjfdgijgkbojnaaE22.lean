/- The engine, part 22: whatever order is drawn. -/
import Derived.Test.YtjfdgijgkbojnaaE21
set_option linter.unusedSectionVars false
namespace Go.Proofs.Ytjfdgijgkbojnaa.E
open Go Go.RowKit
variable [Lam]

def ancStep (ancs : List Nat) (m : Nat) (e : Edge) : Nat := match Region.binds .any e with
  | true => m ||| 2 ^ e.on ||| ancs.getD e.on 0
  | false => m
def ancAt (ops : Array Oper) (ancs : List Nat) (i : Nat) : Nat := match ops[i]? with
  | some o => o.after.toList.foldl (ancStep ancs) 0
  | none => 0
def ancOk (ops : Array Oper) (ancs : List Nat) : Bool := (List.range ops.size).all fun i => Nat.beq (ancs.getD i 0) (ancAt ops ancs i) &&
  (match ops[i]? with | some o => o.after.toList.all fun e => !Region.binds .any e || Nat.blt e.on i | none => true)
def isNone {α : Type} : Option α → Bool
  | none => true
  | some _ => false
theorem isNone_ok {α : Type} {x : Option α} (h : isNone x = true) : x = none := by cases x <;> first | rfl | cases h
/-- A new cell whose type is known. -/
def allocOk (T : Tab) (o : Op) : Bool := match o with
  | .alloc ty => match T ty with | some _ => true | none => false
  | _ => false
theorem allocOk_spec {T : Tab} {o : Op} (h : allocOk T o = true) : isAlloc o = true ∧ ∀ ty, o = .alloc ty → ∃ ti, T ty = some ti := by
  unfold allocOk at h
  split at h
  · rename_i ty
    split at h
    · rename_i ti hti
      exact ⟨rfl, fun ty' e => by cases e; exact ⟨ti, hti⟩⟩
    · cases h
  · cases h
def swpk (T : Tab) (ops : Array Oper) (c i : Nat) : Bool := match ops[c]?, ops[i]? with
  | some oc, some oi => oc.apart ops oi && (silentD oc.op || (isCallV oc.op && isNone oc.guard && isNone oi.guard && allocOk T oi.op))
  | _, _ => false
def okp (T : Tab) (ops : Array Oper) (ancs : List Nat) (c i : Nat) : Bool := !Nat.beq c i && !(ancs.getD c 0).testBit i && ((ancs.getD i 0).testBit c || swpk T ops c i)
def pairOk (T : Tab) (ops : Array Oper) (ancs : List Nat) : List Nat → Bool
  | [] => true
  | c :: l => l.all (okp T ops ancs c) && pairOk T ops ancs l
def selfOk (ops : Array Oper) (y : Nat) : Bool := match ops[y]? with
  | some o => match o.dst with | some d => !(o.looksAt ops).contains d | none => true
  | none => true
def apartOk (ops : Array Oper) (x y : Nat) : Bool := match ops[x]?, ops[y]? with
  | some a, some b => wapart ops a b
  | _, _ => true
def rdOk (ops : Array Oper) (ancs : List Nat) : Bool := (List.range ops.size).all fun y => !isRead ops y ||
  (selfOk ops y && (List.range ops.size).all fun x => Nat.beq x y || (ancs.getD y 0).testBit x || apartOk ops x y)
def chk (T : Tab) (ops : Array Oper) (ancs C : List Nat) : Bool :=
  ancOk ops ancs && pairOk T ops ancs C && rdOk ops ancs && C.all (Nat.blt · ops.size) && (List.range ops.size).all C.contains && Nat.ble C.length ops.size

section
variable {T : Tab} {ops : Array Oper} {ancs : List Nat}
theorem anc_fold (l : List Edge) : ∀ (m c : Nat), (l.foldl (ancStep ancs) m).testBit c = true ↔ m.testBit c = true ∨ ∃ e ∈ l, Region.binds .any e = true ∧ (e.on = c ∨ (ancs.getD e.on 0).testBit c = true) := by
  induction l with
  | nil => simp
  | cons e l ih =>
    intro m c
    rw [List.foldl_cons, ih]
    unfold ancStep
    cases hb : Region.binds .any e with
    | true =>
      simp only [Nat.testBit_or, Nat.testBit_two_pow, Bool.or_eq_true, decide_eq_true_eq, List.mem_cons, exists_eq_or_imp, hb, true_and]
      constructor
      · rintro ((h | h) | h)
        · rcases h with h | h
          · exact .inl h
          · exact .inr (.inl (.inl h))
        · exact .inr (.inl (.inr h))
        · exact .inr (.inr h)
      · rintro (h | (h | h) | h)
        · exact .inl (.inl (.inl h))
        · exact .inl (.inl (.inr h))
        · exact .inl (.inr h)
        · exact .inr h
    | false => simp [hb]
theorem anc_spec (h : ancOk ops ancs = true) {i : Nat} {o : Oper} (hi : ops[i]? = some o) (c : Nat) : (ancs.getD i 0).testBit c = true ↔ ∃ e ∈ o.after.toList, Region.binds .any e = true ∧ (e.on = c ∨ (ancs.getD e.on 0).testBit c = true) := by
  have hlt : i < ops.size := (Array.getElem?_eq_some_iff.1 hi).1
  have := (List.all_eq_true.mp h) i (List.mem_range.mpr hlt)
  simp only [Bool.and_eq_true] at this
  have h1 := Nat.eq_of_beq_eq_true this.1
  rw [h1]
  unfold ancAt
  simp only [hi]
  rw [anc_fold]
  simp
theorem anc_lt (h : ancOk ops ancs = true) {i : Nat} {o : Oper} (hi : ops[i]? = some o) {e : Edge} (he : e ∈ o.after.toList) (hb : Region.binds .any e = true) : e.on < i := by
  have hlt : i < ops.size := (Array.getElem?_eq_some_iff.1 hi).1
  have := (List.all_eq_true.mp h) i (List.mem_range.mpr hlt)
  simp only [Bool.and_eq_true, hi] at this
  have := (List.all_eq_true.mp this.2) e he
  simpa [hb, Nat.blt_eq] using this
theorem okp_spec {c i : Nat} (h : okp T ops ancs c i = true) : c ≠ i ∧ (ancs.getD c 0).testBit i = false ∧ ((ancs.getD i 0).testBit c = true ∨ swpk T ops c i = true) := by
  unfold okp at h
  simp only [Bool.and_eq_true, Bool.not_eq_true', Bool.or_eq_true] at h
  refine ⟨?_, h.1.2, h.2⟩
  rintro rfl
  have := h.1.1
  rw [show Nat.beq c c = true from Nat.beq_refl c] at this; cases this
theorem pairOk_spec : ∀ C : List Nat, pairOk T ops ancs C = true → C.Pairwise fun c i => okp T ops ancs c i = true
  | [], _ => .nil
  | c :: l, h => by
    simp only [pairOk, Bool.and_eq_true, List.all_eq_true] at h
    exact .cons h.1 (pairOk_spec l h.2)
theorem rd_spec (h : rdOk ops ancs = true) {y x : Nat} {oy ox : Oper} (hy : ops[y]? = some oy) (hx : ops[x]? = some ox) (hr : isRead ops y = true) (hne : x ≠ y) (hn : (ancs.getD y 0).testBit x = false) : wapart ops ox oy = true := by
  have h1 := (List.all_eq_true.mp h) y (List.mem_range.mpr (Array.getElem?_eq_some_iff.1 hy).1)
  simp only [hr, Bool.not_true, Bool.false_or, Bool.and_eq_true] at h1
  have h2 := (List.all_eq_true.mp h1.2) x (List.mem_range.mpr (Array.getElem?_eq_some_iff.1 hx).1)
  simp only [Bool.or_eq_true, hn, Bool.false_eq_true, or_false] at h2
  rcases h2 with h2 | h2
  · exact absurd (Nat.eq_of_beq_eq_true h2) hne
  · simpa [apartOk, hx, hy] using h2
theorem self_spec (h : rdOk ops ancs = true) {y : Nat} {oy : Oper} (hy : ops[y]? = some oy) (hr : isRead ops y = true) : noLook ops oy.dst oy := by
  have h1 := (List.all_eq_true.mp h) y (List.mem_range.mpr (Array.getElem?_eq_some_iff.1 hy).1)
  simp only [hr, Bool.not_true, Bool.false_or, Bool.and_eq_true] at h1
  have h2 := h1.1
  intro d hd
  simp only [selfOk, hy, hd] at h2
  simpa using h2

variable {P : Program} {K : List AV → AH → Prop} {Kp : AV → AH → Prop}
theorem cw_front (hrd : rdOk ops ancs = true) {i : Nat} {oi : Oper} (hi : ops[i]? = some oi) {B : List Nat} (A : List Nat) : ∀ (dn : List Nat) (t : List AV) (σ : AH),
    (∀ c ∈ A, swpk T ops c i = true ∧ (ancs.getD i 0).testBit c = false ∧ c ≠ i ∧ (ancs.getD c 0).testBit i = false) → (∀ y ∈ dn, y ≠ i ∧ (ancs.getD y 0).testBit i = false) → (∀ c ∈ A, ∀ y ∈ dn, y ≠ c ∧ (ancs.getD y 0).testBit c = false) → (A.Pairwise fun c i => okp T ops ancs c i = true) →
    cw P T ops ancs (A ++ i :: B) dn t σ K Kp → cw P T ops ancs (i :: (A ++ B)) dn t σ K Kp := by
  induction A with
  | nil => intro dn t σ _ _ _ _ k; exact k
  | cons c A ih =>
    intro dn t σ h1 h4 h2 h3 k
    obtain ⟨hcA, hA⟩ := List.pairwise_cons.mp h3
    have k2 : cw P T ops ancs (c :: (i :: (A ++ B))) dn t σ K Kp := by
      refine cw_cons_mono (fun t σ g => ih (c :: dn) t σ (fun x hx => h1 x (List.mem_cons_of_mem _ hx)) ?_ ?_ hA g) k
      · intro y hy
        rcases List.mem_cons.mp hy with rfl | hy
        · exact (h1 y List.mem_cons_self).2.2
        · exact h4 y hy
      intro x hx y hy
      rcases List.mem_cons.mp hy with rfl | hy
      · obtain ⟨a, b, _⟩ := okp_spec (hcA x hx); exact ⟨a, b⟩
      · exact h2 x (List.mem_cons_of_mem _ hx) y hy
    obtain ⟨hs, ha, _, _⟩ := h1 c List.mem_cons_self
    unfold swpk at hs
    simp only [hi] at hs
    split at hs
    case h_2 => cases hs
    rename_i oc oi' hoc hoi
    obtain rfl := Option.some.inj hoi
    simp only [Bool.and_eq_true, Bool.or_eq_true] at hs
    obtain ⟨hap, hs | ⟨⟨⟨hcv, hg1⟩, hg2⟩, hal⟩⟩ := hs
    · cases hnew : isNew ops i with
      | true => exact cw_swapN hoc hi hs hap hnew k2
      | false =>
        refine cw_swap hoc hi hs hap (fun hr => self_spec hrd hoc hr) ha hnew ?_ k2
        intro y hy oy hoy hr
        obtain ⟨g1, g2⟩ := h2 c List.mem_cons_self y hy
        exact rd_spec hrd hoy hoc hr (Ne.symm g1) g2
    · obtain ⟨hal1, hal2⟩ := allocOk_spec hal
      refine cw_swapA hoc hi hcv (isNone_ok hg1) (isNone_ok hg2) hap (by simp only [isNew, hi]; exact hal1) hal2 ?_ k2
      intro y hy oy hoy hr
      obtain ⟨g1, g2⟩ := h4 y hy
      exact rd_spec hrd hoy hi hr (Ne.symm g1) g2

theorem getD_listed {l : Array Bool} {j : Nat} (h : j < l.size) : l.getD j false = l.getD j true := by
  simp [Array.getD, h]
theorem cw_any (hT : TabOk P T) (hanc : ancOk ops ancs = true) (hrd : rdOk ops ancs = true) {Q : Exit → Act → World → Prop} {D : List Deferred} {r : Option Nat} {m : Nat} : ∀ (fuel : Nat) (C dn : List Nat) (listed : Array Bool) (t : List AV) (σ : AH) (κ : Kap) (w : World) (a : Act),
    C.length ≤ fuel → listed.size = ops.size → (∀ j, j < ops.size → (j ∈ C ↔ listed.getD j true = false)) → (∀ j ∈ C, j < ops.size) → (C.Pairwise fun c i => okp T ops ancs c i = true) →
    (∀ y ∈ dn, y < ops.size ∧ listed.getD y true = true) → (∀ j, j < ops.size → listed.getD j true = true → ∀ c, c < ops.size → (ancs.getD j 0).testBit c = true → listed.getD c true = true) →
    Rel κ σ w → EnvR κ t a.tmps → a.defers = D →
    (∀ κ' t' σ' (a' : Act) w', K t' σ' → Stp κ σ w κ' σ' w' → EnvR κ' t' a'.tmps → a'.defers = D → Q .normal a' w') →
    (∀ κ' v u t' σ' (a' : Act) w', Kp v σ' → Stp κ σ w κ' σ' w' → VR κ' v u → EnvR κ' t' a'.tmps → a'.defers = D → Q (.panic [{ v := u, recovered := false }]) a' w') →
    cw P T ops ancs C dn t σ K Kp → wpAnyIn (FR r) m P .any ops Q fuel listed a w := by
  intro fuel
  induction fuel with
  | zero =>
    intro C dn listed t σ κ w a hlen hsz hmem hC hpw hdn hcl hr he hd h1 h2 k
    obtain rfl : C = [] := List.eq_nil_of_length_eq_zero (by omega)
    refine ⟨?_, h1 κ t σ a w k (.refl hr) he hd⟩
    apply List.eq_nil_iff_forall_not_mem.mpr
    intro j hj
    obtain ⟨g1, o, g2, _⟩ := mem_ready.1 hj
    have := (hmem j (Array.getElem?_eq_some_iff.1 g2).1).mpr g1
    cases this
  | succ fuel ih =>
    intro C dn listed t σ κ w a hlen hsz hmem hC hpw hdn hcl hr he hd h1 h2 k
    refine ⟨?_, ?_⟩
    · intro hready
      cases C with
      | nil => exact h1 κ t σ a w k (.refl hr) he hd
      | cons i l =>
        exfalso
        have hlt := hC i List.mem_cons_self
        have hi : ops[i]? = some ops[i] := Array.getElem?_eq_getElem hlt
        have : i ∈ Region.ready .any ops listed := mem_ready.2 ⟨(hmem i hlt).mp List.mem_cons_self, _, hi, fun e he hb => by
          have hlt2 := anc_lt hanc hi (by simpa using he) hb
          have hlt3 : e.on < ops.size := by omega
          rw [getD_listed (by omega)]
          cases hh : listed.getD e.on true with
          | true => rfl
          | false =>
            have hm := (hmem e.on hlt3).mpr hh
            rcases List.mem_cons.mp hm with h | h
            · omega
            · obtain ⟨_, g, _⟩ := okp_spec ((List.pairwise_cons.mp hpw).1 e.on h)
              have := (anc_spec hanc hi e.on).mpr ⟨e, by simpa using he, hb, .inl rfl⟩
              rw [g] at this; cases this⟩
        rw [hready] at this; cases this
    · intro i hready
      obtain ⟨g1, o, hi, g3⟩ := mem_ready.1 hready
      have hlt := (Array.getElem?_eq_some_iff.1 hi).1
      obtain ⟨A, B, rfl⟩ := List.append_of_mem ((hmem i hlt).mpr g1)
      have hnl : ∀ c, c ∈ A ++ i :: B → listed.getD c true = false := fun c hc => (hmem c (hC c hc)).mp hc
      have hnanc : ∀ c, c ∈ A ++ i :: B → (ancs.getD i 0).testBit c = false := by
        intro c hc
        cases hh : (ancs.getD i 0).testBit c with
        | false => rfl
        | true =>
          obtain ⟨e, e1, e2, e3⟩ := (anc_spec hanc hi c).mp hh
          have hlt2 := anc_lt hanc hi e1 e2
          have hl := g3 e (by simpa using e1) e2
          rw [getD_listed (by omega)] at hl
          rcases e3 with rfl | e3
          · rw [hnl _ hc] at hl; cases hl
          · have := hcl e.on (by omega) hl c (hC c hc) e3
            rw [hnl _ hc] at this; cases this
      obtain ⟨pA, pB, pAB⟩ := List.pairwise_append.mp hpw
      have k2 := cw_front hrd hi A dn t σ (fun c hc => ⟨by
          have hm : c ∈ A ++ i :: B := List.mem_append_left _ hc
          obtain ⟨_, _, g⟩ := okp_spec (pAB c hc i List.mem_cons_self)
          rcases g with g | g
          · rw [hnanc c hm] at g; cases g
          · exact g, hnanc c (List.mem_append_left _ hc), (okp_spec (pAB c hc i List.mem_cons_self)).1, (okp_spec (pAB c hc i List.mem_cons_self)).2.1⟩)
        (fun y hy => by
          obtain ⟨y1, y2⟩ := hdn y hy
          refine ⟨?_, ?_⟩
          · rintro rfl; rw [g1] at y2; cases y2
          · cases hh : (ancs.getD y 0).testBit i with
            | false => rfl
            | true => have := hcl y y1 y2 i hlt hh; rw [g1] at this; cases this)
        (fun c hc y hy => by
          have hm : c ∈ A ++ i :: B := List.mem_append_left _ hc
          obtain ⟨y1, y2⟩ := hdn y hy
          refine ⟨?_, ?_⟩
          · rintro rfl; rw [hnl _ hm] at y2; cases y2
          · cases hh : (ancs.getD y 0).testBit c with
            | false => rfl
            | true => have := hcl y y1 y2 c (hC c hm) hh; rw [hnl _ hm] at this; cases this) pA k
      -- what is left
      have hi2 : i ∉ A ++ B := by
        have hn : (A ++ i :: B).Nodup := hpw.imp fun h => (okp_spec h).1
        rw [List.nodup_append] at hn
        obtain ⟨_, n2, n3⟩ := hn
        intro hm
        rcases List.mem_append.mp hm with hm | hm
        · exact n3 i hm i List.mem_cons_self rfl
        · exact (List.nodup_cons.mp n2).1 hm
      have hsub : ∀ x, x ∈ A ++ B → x ∈ A ++ i :: B := fun x hx => by
        rcases List.mem_append.mp hx with hx | hx
        · exact List.mem_append_left _ hx
        · exact List.mem_append_right _ (List.mem_cons_of_mem _ hx)
      have hset : ∀ j, j ≠ i → (listed.setIfInBounds i true).getD j true = listed.getD j true := fun j hj => getD_set_ne true (Ne.symm hj)
      have hset1 : (listed.setIfInBounds i true).getD i true = true := by simp
      have IH : ∀ (t' : List AV) (σ' : AH) (κ' : Kap) (w' : World) (a' : Act), Stp κ σ w κ' σ' w' → EnvR κ' t' a'.tmps → a'.defers = D → cw P T ops ancs (A ++ B) (i :: dn) t' σ' K Kp → wpAnyIn (FR r) m P .any ops Q fuel (listed.setIfInBounds i true) a' w' := by
        intro t' σ' κ' w' a' hs he' hd' k'
        refine ih (A ++ B) (i :: dn) _ t' σ' κ' w' a' ?_ (by simp [hsz]) ?_ (fun j hj => hC j (hsub j hj)) ?_ ?_ ?_ hs.rel he' hd' ?_ ?_ k'
        · simp only [List.length_append, List.length_cons] at hlen ⊢; omega
        · intro j hj
          by_cases e : j = i
          · subst e; rw [hset1]; exact ⟨fun h => absurd h hi2, fun h => by cases h⟩
          · rw [hset j e, ← hmem j hj]
            simp only [List.mem_append, List.mem_cons, e, false_or]
        · exact hpw.sublist (List.Sublist.append (List.Sublist.refl A) (List.sublist_cons_self i B))
        · intro y hy
          rcases List.mem_cons.mp hy with rfl | hy
          · exact ⟨hlt, hset1⟩
          · obtain ⟨y1, y2⟩ := hdn y hy
            by_cases e : y = i
            · subst e; exact ⟨y1, hset1⟩
            · exact ⟨y1, by rw [hset y e]; exact y2⟩
        · intro j hj hl c hc hb
          by_cases ec : c = i
          · subst ec; exact hset1
          · rw [hset c ec]
            by_cases ej : j = i
            · subst ej
              cases hh : listed.getD c true with
              | true => rfl
              | false =>
                have hm := (hmem c hc).mpr hh
                rw [hnanc c hm] at hb; cases hb
            · rw [hset j ej] at hl; exact hcl j hj hl c hc hb
        · intro κ2 t2 σ2 a2 w2 q1 q2 q3 q4; exact h1 κ2 t2 σ2 a2 w2 q1 (hs.trans q2) q3 q4
        · intro κ2 v2 u2 t2 σ2 a2 w2 q1 q2 q3 q4 q5; exact h2 κ2 v2 u2 t2 σ2 a2 w2 q1 (hs.trans q2) q3 q4 q5
      unfold wpOpIn
      simp only [hi]
      simp only [cw, hi] at k2
      have k2 : bgd ops o t (fun t => ∃ K0 : AEnd → AH → Prop, sop P o t σ K0 ∧ (∀ v σ', K0 (.ret v) σ' → cw P T ops ancs (A ++ B) (i :: dn) (aput t o.dst v) σ' K Kp) ∧ (∀ v σ', K0 (.pan v) σ' → Kp v σ'))
          (fun t => cw P T ops ancs (A ++ B) (i :: dn) (aput t o.dst (.tup [])) σ K Kp) := by
        split at k2
        · obtain ⟨v, hv, hk⟩ := og_some k2
          rw [gvo_gdec] at hv
          rw [bgd_iff]
          split at hv
          · rename_i hg
            exact .inl ⟨hg, onr (fun u σ' => cw P T ops ancs (A ++ B) (i :: dn) (aput t o.dst u) σ' K Kp) (fun v σ' => Kp v σ'), bvalD_sop hT hv hk, fun _ _ h => h, fun _ _ h => h⟩
          · rename_i hg; obtain rfl := Option.some.inj hv; exact .inr ⟨hg, hk⟩
          · cases hv
        · rw [bgd_iff] at k2 ⊢
          rcases k2 with ⟨hg, k2⟩ | ⟨hg, k2⟩
          · exact .inl ⟨hg, _, aop_sop hT (bop_ok k2), fun v σ' h => h.2, fun v σ' h => h⟩
          · exact .inr ⟨hg, k2⟩
      rcases bgd_ok he k2 with ⟨hw, hop⟩ | ⟨hw, k3⟩
      · rw [if_pos hw]
        obtain ⟨K0, hop, p1, p2⟩ := hop
        refine hop r m κ w a hr he _ _ ?_ ?_
        · intro κ' x v σ' w' hk hs hv
          exact IH (aput t o.dst x) σ' κ' w' (a.put o.dst v) hs ((he.mono hs.ext).put o.dst hv) (by rw [defers_put, hd]) (p1 _ _ hk)
        · intro κ' x v σ' w' hk hs hv
          exact h2 κ' x v t σ' a w' (p2 _ _ hk) hs hv (he.mono hs.ext) hd
      · rw [if_neg (by rw [hw]; decide)]
        exact ⟨fun _ _ => trivial, IH (aput t o.dst (.tup [])) σ κ w (a.put o.dst undef) (.refl hr) (he.put o.dst (undefR κ)) (by rw [defers_put, hd]) k3⟩

theorem cw_ok (hT : TabOk P T) {C : List Nat} (hchk : chk T ops ancs C = true) {Q : Exit → Act → World → Prop} {D : List Deferred} {r : Option Nat} {m : Nat} {id : Nat} {t : List AV} {σ : AH} {κ : Kap} {w : World} {a : Act} (hr : Rel κ σ w) (he : EnvR κ t a.tmps) (hd : a.defers = D)
    (h1 : ∀ κ' t' σ' (a' : Act) w', K t' σ' → Stp κ σ w κ' σ' w' → EnvR κ' t' a'.tmps → a'.defers = D → Q .normal a' w')
    (h2 : ∀ κ' v u t' σ' (a' : Act) w', Kp v σ' → Stp κ σ w κ' σ' w' → VR κ' v u → EnvR κ' t' a'.tmps → a'.defers = D → Q (.panic [{ v := u, recovered := false }]) a' w')
    (k : cw P T ops ancs C [] t σ K Kp) : (Code.region id ops true).wpIn (FR r) m P Q a w := by
  unfold chk at hchk
  simp only [Bool.and_eq_true, List.all_eq_true] at hchk
  obtain ⟨⟨⟨⟨⟨c1, c2⟩, c3⟩, c4⟩, c5⟩, c6⟩ := hchk
  refine wpIn_region_draw fun s => ?_
  unfold Region.schedule
  simp only [hT.mixed, Bool.true_or, if_true]
  have hdr := Stp.drew hr
  refine wpAnyIn_sound ops.size s _ a _ ?_
  refine cw_any hT c1 c3 ops.size C [] (Array.replicate ops.size false) t σ κ _ a (Nat.le_of_ble_eq_true c6) (by simp) ?_ (fun j hj => by simpa [Nat.blt_eq] using c4 j hj) (pairOk_spec C c2) (fun y hy => by cases hy) ?_ hdr.rel he hd ?_ ?_ k
  · intro j hj
    have := c5 j (List.mem_range.mpr hj)
    simp [hj]
    simpa using this
  · intro j hj hl
    simp [hj] at hl
  · intro κ' t' σ' a' w' q1 q2 q3 q4; exact h1 κ' t' σ' a' w' q1 (hdr.trans q2) q3 q4
  · intro κ' v u t' σ' a' w' q1 q2 q3 q4 q5; exact h2 κ' v u t' σ' a' w' q1 (hdr.trans q2) q3 q4 q5
end
end Go.Proofs.Ytjfdgijgkbojnaa.E
