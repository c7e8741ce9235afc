/- The engine, part 20: operations in another order. -/
import Derived.Test.YtjfdgijgkbojnaaE19
set_option linter.unusedSectionVars false
namespace Go.Proofs.Ytjfdgijgkbojnaa.E
open Go Go.RowKit
variable [Lam]

/-! ### what an operation looks at -/
theorem toList_map_congr {ev ev' : Operand → AV} (ps : List (Nat × Operand)) (h : ∀ x ∈ ps.map (·.2), ev x = ev' x) : (ps.map fun p => (p.1, ev p.2)) = ps.map fun p => (p.1, ev' p.2) :=
  List.map_congr_left fun p hp => by rw [h p.2 (List.mem_map.mpr ⟨p, hp, rfl⟩)]
theorem bval_congr {T : Tab} {o : Op} {ev ev' : Operand → AV} {σ : AH} (h : ∀ x ∈ o.operands, ev x = ev' x) : bval T o ev σ = bval T o ev' σ := by
  cases o <;> simp only [Op.operands] at h <;> simp only [bval]
  case build t ps => rw [toList_map_congr ps.toList fun x hx => h x (by simpa using hx)]
  case call c =>
    cases hc : c.callee with
    | builtin b =>
      simp only []
      have hh : ∀ x ∈ c.args.toList, ev x = ev' x := fun x hx => h x (by simp [Call.operands, hc]; simpa using hx)
      split <;> (rename_i e; first | rfl | (rw [e] at hh; simp at hh; simp only [hh]))
    | _ => rfl
  case slice t x lo hi mx => cases lo <;> cases hi <;> cases mx <;> simp_all
  all_goals (first | rfl | (simp_all; done))
theorem bop_congr {P : Program} {T : Tab} {o : Op} {ev ev' : Operand → AV} {σ : AH} {K : AEnd → AH → Prop} (h : ∀ x ∈ o.operands, ev x = ev' x) : bop P T o ev σ K = bop P T o ev' σ K := by
  cases o <;> simp only [Op.operands] at h <;> simp only [bop, aop]
  case build t ps => rw [toList_map_congr ps.toList fun x hx => h x (by simpa using hx)]
  case buildSlice t n ps => rw [toList_map_congr ps.toList fun x hx => h x (by simpa using hx)]
  case makeFunc fn fs cs => 
    rw [List.map_congr_left fun x hx => h x (by simp; exact .inl (by simpa using hx)), List.map_congr_left (l := cs.toList) fun x hx => h x (by simp; exact .inr (by simpa using hx))]
  case call c =>
    cases hc : c.callee with
    | builtin b =>
      simp only []
      have hh : ∀ x ∈ c.args.toList, ev x = ev' x := fun x hx => h x (by simp [Call.operands, hc]; simpa using hx)
      split <;> (rename_i e; first | rfl | (rw [e] at hh; simp at hh; simp only [hh]))
    | value f =>
      simp only []
      rw [h f (by simp [Call.operands, hc]), List.map_congr_left fun x hx => h x (by simp [Call.operands, hc]; exact .inr (by simpa using hx))]
    | invoke r m => rfl
  case slice t x lo hi mx => cases lo <;> cases hi <;> cases mx <;> simp_all
  all_goals (first | rfl | (simp_all; done))
theorem bvalD_congr {T : Tab} {o : Op} {ev ev' : Operand → AV} {σ : AH} (h : ∀ x ∈ o.operands, ev x = ev' x) : bvalD T o ev σ = bvalD T o ev' σ := by
  unfold bvalD
  split
  · rename_i t n ps
    simp only [Op.operands] at h
    rw [toList_map_congr ps.toList fun x hx => h x (by simpa using hx)]
  · rename_i s d x
    simp only [Op.operands] at h
    rw [h x (by simp), show bval T (.convert s d x) ev σ = bval T (.convert s d x) ev' σ from bval_congr h]
  · exact bval_congr h
theorem aeval_put {t : List AV} {dst : Option Tmp} {v : AV} {x : Operand} (h : ∀ d, dst = some d → x ≠ .tmp d) : aeval (aput t dst v) x = aeval t x := by
  cases dst with
  | none => rfl
  | some d =>
    cases x with
    | tmp s =>
      have hne : d ≠ s := fun e => h d rfl (e ▸ rfl)
      simp [aeval, aput, List.getD, List.getElem?_set_ne hne]
    | _ => rfl
theorem aput_comm (t : List AV) {x y : Option Tmp} (v u : AV) (h : ∀ d, x = some d → y ≠ some d) : aput (aput t x v) y u = aput (aput t y u) x v := by
  cases x with
  | none => rfl
  | some d =>
    cases y with
    | none => rfl
    | some e =>
      have hne : d ≠ e := fun he => h d rfl (he ▸ rfl)
      simp only [aput]; exact List.set_comm v u hne
section
variable {T : Tab} {ops : Array Oper} {o : Oper} {t : List AV} {dst : Option Tmp} {v : AV}
theorem looks_operand {d : Tmp} (h : d ∉ o.looksAt ops) : ∀ x ∈ o.op.operands, x ≠ .tmp d := by
  intro x hx e
  subst e
  exact h (List.mem_append_left _ (List.mem_filterMap.2 ⟨.tmp d, by simpa using hx, rfl⟩))
theorem bval_put {σ : AH} (h : ∀ d, dst = some d → d ∉ o.looksAt ops) : bval T o.op (aeval (aput t dst v)) σ = bval T o.op (aeval t) σ :=
  bval_congr fun x hx => aeval_put fun d hd => looks_operand (h d hd) x hx
theorem bvalD_put {σ : AH} (h : ∀ d, dst = some d → d ∉ o.looksAt ops) : bvalD T o.op (aeval (aput t dst v)) σ = bvalD T o.op (aeval t) σ :=
  bvalD_congr fun x hx => aeval_put fun d hd => looks_operand (h d hd) x hx
theorem bop_put {P : Program} {σ : AH} {K : AEnd → AH → Prop} (h : ∀ d, dst = some d → d ∉ o.looksAt ops) : bop P T o.op (aeval (aput t dst v)) σ K = bop P T o.op (aeval t) σ K :=
  bop_congr fun x hx => aeval_put fun d hd => looks_operand (h d hd) x hx
end
/-! ### guards -/
def gdec (ops : Array Oper) (o : Oper) (t : List AV) : Option Bool := match o.guard with
  | none => some true
  | some (j, want) => match gslot ops j with
    | some s => match t.getD s .any with
      | .val (.bool b) => some (b == want)
      | .tup [] => match guarded ops j with | true => some false | false => none
      | _ => none
    | none => none
theorem bgd_iff {ops : Array Oper} {o : Oper} {t : List AV} {run skip : List AV → Prop} : bgd ops o t run skip ↔ (gdec ops o t = some true ∧ run t) ∨ (gdec ops o t = some false ∧ skip t) := by
  unfold bgd gdec
  cases hg : o.guard with
  | none => simp
  | some gw =>
    obtain ⟨j, want⟩ := gw
    simp only []
    cases hs : gslot ops j with
    | none => simp
    | some s =>
      simp only []
      generalize hx : t.getD s .any = x
      unfold gpick
      split
      · rw [set_self hx]; cases want <;> simp
      · rw [set_self hx]; cases want <;> simp
      · rw [set_self hx]; cases guarded ops j <;> simp
      · rename_i h1 h2 h3
        split
        · rename_i b; cases b
          · exact absurd rfl h2
          · exact absurd rfl h1
        · exact absurd rfl h3
        · simp
theorem gvo_gdec {ops : Array Oper} {o : Oper} {t : List AV} {x : Option AV} : gvo ops o t x = match gdec ops o t with | some true => x | some false => some (.tup []) | none => none := by
  unfold gvo gdec
  cases hg : o.guard with
  | none => rfl
  | some gw =>
    obtain ⟨j, want⟩ := gw
    simp only []
    cases hs : gslot ops j with
    | none => rfl
    | some s =>
      simp only []
      generalize hx : t.getD s .any = y
      unfold gval
      split
      · cases want <;> rfl
      · cases want <;> rfl
      · cases guarded ops j <;> rfl
      · rename_i h1 h2 h3
        cases y with
        | val v => cases v with
          | bool b => cases b
                      · exact absurd rfl h2
                      · exact absurd rfl h1
          | _ => rfl
        | tup l => cases l with
          | nil => exact absurd rfl h3
          | cons => rfl
        | _ => rfl
theorem gdec_put {ops : Array Oper} {o : Oper} {t : List AV} {dst : Option Tmp} {v : AV} (h : ∀ d, dst = some d → d ∉ o.looksAt ops) : gdec ops o (aput t dst v) = gdec ops o t := by
  cases dst with
  | none => rfl
  | some d =>
    unfold gdec
    cases hg : o.guard with
    | none => rfl
    | some gw =>
      obtain ⟨j, want⟩ := gw
      simp only []
      cases hs : gslot ops j with
      | none => rfl
      | some s =>
        have hne : d ≠ s := by
          intro e; subst e
          refine h d rfl (List.mem_append_right _ ?_)
          have : (ops[j]?).bind (·.dst) = some d := hs
          simp [hg, this]
        have : (aput t (some d) v).getD s .any = t.getD s .any := by simp [aput, List.getD, List.getElem?_set_ne hne]
        simp only [this]

/-! ### more is told -/
theorem bop_mono {P : Program} {T : Tab} {o : Op} {ev : Operand → AV} {σ : AH} {K K' : AEnd → AH → Prop} (hl : silent o = false) (hk : ∀ e σ', K e σ' → K' e σ') (h : bop P T o ev σ K) : bop P T o ev σ K' := by
  have ogm : ∀ {x : Option AV}, og x (fun v => K (.ret v) σ) → og x (fun v => K' (.ret v) σ) := fun h => og_mono (fun _ h => h) (fun _ => hk _ _) h
  cases o <;> first | (cases hl; done) | skip
  case alloc t =>
    simp only [bop] at h ⊢
    split at h
    · exact fun φ hφ => hk _ _ (h φ hφ)
    · exact h
  case box e x =>
    simp only [bop, abox] at h ⊢
    split at h
    · exact fun φ hφ => hk _ _ (h φ hφ)
    · exact h
  case buildSlice t n ps =>
    simp only [bop] at h ⊢
    split at h
    · unfold bsl at h ⊢
      split at h
      · exact ⟨h.1, fun φ hφ => hk _ _ (h.2 φ hφ)⟩
      · exact h
    · exact h
  case store t a x =>
    simp only [bop] at h ⊢
    split at h
    · unfold sto at h ⊢
      split at h
      · obtain ⟨h1, h2, F, h3, h4, h5, h6, h7⟩ := h
        exact ⟨h1, h2, F, h3, h4, h5, h6, hk _ _ h7⟩
      · exact h
    · exact h
  case makeInterface t x => exact ogm h
  case makeFunc fn fs cs => exact hk _ _ h
  case typeAssert x xt t ok => exact ogm h
  case panic x =>
    simp only [bop, aop, apanic] at h ⊢
    split at h
    · exact hk _ _ h
    · exact h
  case makeSlice t l c =>
    simp only [bop, aop, amake] at h ⊢
    split at h
    · split at h
      · split at h
        · obtain ⟨h1, h2, h3, h4, h5⟩ := h
          exact ⟨h1, h2, h3, h4, fun φ hφ => hk _ _ (h5 φ hφ)⟩
        · exact h
      · exact h
    · exact h
  case call c =>
    simp only [bop] at h ⊢
    split at h
    · unfold acallv at h ⊢
      split at h
      · exact acall.mono h hk
      · exact ayield.mono h hk
      · exact h
    · split at h
      · rename_i hc _ _ hx
        split at h
        · split at h <;> first | exact ogm h | exact h
        · exact h
      · split at h
        · unfold app at h ⊢
          split at h
          · obtain ⟨g, h⟩ := h
            refine ⟨g, ?_⟩
            split at h
            · split at h
              · obtain ⟨h1, h2, h3, h4, h5, h6⟩ := h
                exact ⟨h1, h2, h3, h4, h5, hk _ _ h6⟩
              · exact h
            · exact ⟨h.1, fun e => hk _ _ (h.2.1 e), fun e φ hφ => hk _ _ (h.2.2 e φ hφ)⟩
            · exact ⟨h.1, fun e => hk _ _ (h.2.1 e), fun e φ hφ => hk _ _ (h.2.2 e φ hφ)⟩
            · exact h
          · exact h
        · exact h
      · exact ogm h
      · exact ogm h
      · exact h
    · exact h
  all_goals exact h.elim

/-! ### one after the other -/
def bops (P : Program) (T : Tab) (ops : Array Oper) (ms : List (Nat × Nat)) : Nat → List Oper → List AV → AH → (List AV → AH → Prop) → (AV → List AV → AH → Prop) → Prop
  | _, [], t, σ, K, _ => K t σ
  | i, o :: rest, t, σ, K, Kp => match silent o.op, o.guard with
    | true, some _ => og (gvo ops o (fgm ms i t) (bval T o.op (aeval (fgm ms i t)) σ)) fun v => bops P T ops ms (i + 1) rest (aput (fgm ms i t) o.dst v) σ K Kp
    | _, _ => bgd ops o (fgm ms i t)
      (fun t => bop P T o.op (aeval t) σ (onr (fun v σ' => bops P T ops ms (i + 1) rest (aput t o.dst v) σ' K Kp) (fun v σ' => Kp v t σ')))
      (fun t => bops P T ops ms (i + 1) rest (aput t o.dst (.tup [])) σ K Kp)
theorem bops_cons {P : Program} {T : Tab} {ops : Array Oper} {ms : List (Nat × Nat)} {i : Nat} {o : Oper} {rest : List Oper} {t : List AV} {σ : AH} {K : List AV → AH → Prop} {Kp : AV → List AV → AH → Prop} (h : bops P T ops ms i (o :: rest) t σ K Kp) :
    bgd ops o (fgm ms i t)
      (fun t => bop P T o.op (aeval t) σ (onr (fun v σ' => bops P T ops ms (i + 1) rest (aput t o.dst v) σ' K Kp) (fun v σ' => Kp v t σ')))
      (fun t => bops P T ops ms (i + 1) rest (aput t o.dst (.tup [])) σ K Kp) := by
  simp only [bops] at h
  split at h
  · obtain ⟨v, hv, hk⟩ := og_some h
    rw [gvo_gdec] at hv
    rw [bgd_iff]
    split at hv
    · rename_i hg; exact .inl ⟨hg, bval_bop hv hk⟩
    · rename_i hg; obtain rfl := Option.some.inj hv; exact .inr ⟨hg, hk⟩
    · cases hv
  · exact h
theorem bops_ok {P : Program} {T : Tab} (hT : TabOk P T) {ops : Array Oper} (ms : List (Nat × Nat)) (rest : List Oper) : ∀ (i : Nat) (t : List AV) (σ : AH) (K : List AV → AH → Prop) (Kp : AV → List AV → AH → Prop), bops P T ops ms i rest t σ K Kp →
    ∀ (D : List Deferred) r m κ w (a : Act), Rel κ σ w → EnvR κ t a.tmps → a.defers = D → ∀ (Q : Exit → Act → World → Prop),
      (∀ κ' t' σ' (a' : Act) w', K t' σ' → Stp κ σ w κ' σ' w' → EnvR κ' t' a'.tmps → a'.defers = D → Q .normal a' w') →
      (∀ κ' v u t' σ' (a' : Act) w', Kp v t' σ' → Stp κ σ w κ' σ' w' → VR κ' v u → EnvR κ' t' a'.tmps → a'.defers = D → Q (.panic [{ v := u, recovered := false }]) a' w') →
      wpListIn (FR r) m P ops Q rest a w := by
  induction rest with
  | nil =>
    intro i t σ K Kp h D r m κ w a hr he hd Q h1 _
    exact h1 κ t σ a w h (.refl hr) he hd
  | cons o rest ih =>
    intro i t σ K Kp h D r m κ w a hr he hd Q h1 h2
    have he := he.fgm ms i
    unfold wpListIn
    have h := bops_cons h
    generalize fgm ms i t = t at h he
    rcases bgd_ok he h with ⟨hw, h⟩ | ⟨hw, h⟩
    · rw [if_pos hw]
      refine aop_sop hT (bop_ok h) r m κ w a hr he _ _ ?_ ?_
      · intro κ' x v σ' w' hk hs hv
        refine ih (i + 1) (aput t o.dst x) σ' K Kp hk D r m κ' w' (a.put o.dst v) hs.rel ((he.mono hs.ext).put o.dst hv) (by rw [defers_put, hd]) Q ?_ ?_
        · intro κ2 t2 σ2 a2 w2 g1 g2 g3 g4; exact h1 κ2 t2 σ2 a2 w2 g1 (hs.trans g2) g3 g4
        · intro κ2 v2 u2 t2 σ2 a2 w2 g1 g2 g3 g4 g5; exact h2 κ2 v2 u2 t2 σ2 a2 w2 g1 (hs.trans g2) g3 g4 g5
      · intro κ' x v σ' w' hk hs hv
        exact h2 κ' x v t σ' a w' hk hs hv (he.mono hs.ext) hd
    · rw [if_neg (by rw [hw]; decide)]
      exact ⟨fun _ _ => trivial, ih (i + 1) (aput t o.dst (.tup [])) σ K Kp h D r m κ w (a.put o.dst undef) hr (he.put o.dst (undefR κ)) (by rw [defers_put, hd]) Q h1 h2⟩
end Go.Proofs.Ytjfdgijgkbojnaa.E
