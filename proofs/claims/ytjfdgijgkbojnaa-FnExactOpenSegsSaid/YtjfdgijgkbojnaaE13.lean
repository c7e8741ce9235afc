/- The engine, part 13: the operations all together. -/
import Derived.Test.YtjfdgijgkbojnaaE12
set_option linter.unusedSectionVars false
namespace Go.Proofs.Ytjfdgijgkbojnaa.E
open Go Go.RowKit
variable [Lam]

/-- A call of yield: whatever world it is called in. -/
def ayield (P : Program) (l : Nat) (args : List AV) (σ : AH) (K : AEnd → AH → Prop) : Prop :=
  ∀ m κ w vs, Rel κ σ w → VRs κ args vs → YieldAt (FR none) m P l vs.toArray w fun e w' => ∃ κ' ae σ', K ae σ' ∧ Stp κ σ w κ' σ' w' ∧ EdR κ' ae e
theorem ayield.mono {P : Program} {l : Nat} {args : List AV} {σ : AH} {K K' : AEnd → AH → Prop} (h : ayield P l args σ K) (k : ∀ e σ', K e σ' → K' e σ') : ayield P l args σ K' := by
  intro m κ w vs hr hv
  obtain ⟨fn, tmps, assign, body, hy, hR⟩ := h m κ w vs hr hv
  exact ⟨fn, tmps, assign, body, hy, hR.mono fun e w' ⟨κ', ae, σ', a, b, c⟩ => ⟨κ', ae, σ', k _ _ a, b, c⟩⟩
def acallv (P : Program) (f : AV) (args : List AV) (σ : AH) (K : AEnd → AH → Prop) : Prop :=
  match f with
  | .clo (.func f) first cap => acall P f (first ++ (args ++ cap)) σ K
  | .yld l => ayield P l args σ K
  | _ => False
def aext (x : AV) (i : Nat) : Option AV := match x with | .tup vs => vs[i]? | _ => none
def aifc (T : Tab) (t : TypeId) (x : AV) : Option AV := match T t with
  | some ti => match ti.under with | .interface _ => none | _ => some (.ifc t x)
  | none => none
def atype (T : Tab) (x : AV) (at_ : TypeId) (ok : Bool) : Option AV := match T at_ with
  | some ti => match ti.under, x with
    | .interface _, _ => none
    | _, .ifc t v => if t = at_ then some (if ok then .tup [v, .val (.bool true)] else v) else if ok then some (.tup [ofV ti.zero, .val (.bool false)]) else none
    | _, .val .nilIface => if ok then some (.tup [ofV ti.zero, .val (.bool false)]) else none
    | _, _ => none
  | none => none
def apanic (x : AV) (k : AV → Prop) : Prop := match x with | .ifc t v => k (.ifc t v) | _ => False

def aop (P : Program) (T : Tab) (o : Op) (ev : Operand → AV) (σ : AH) (K : AEnd → AH → Prop) : Prop :=
  match o with
  | .move x | .assign x => K (.ret (ev x)) σ
  | .pick c a b => apick (ev c) (K (.ret (ev a)) σ) (K (.ret (ev b)) σ)
  | .alloc t => aalloc T t σ fun v σ' => K (.ret v) σ'
  | .box _ x => abox (ev x) σ fun v σ' => K (.ret v) σ'
  | .build t ps => og (abuild T t (ps.toList.map fun p => (p.1, ev p.2))) fun v => K (.ret v) σ
  | .buildSlice t n ps => abuildSlice T t n (ps.toList.map fun p => (p.1, ev p.2)) σ fun v σ' => K (.ret v) σ'
  | .load t a => og (aload T t (ev a) σ) fun v => K (.ret v) σ
  | .store t a x => astore T t (ev a) (ev x) σ fun σ' => K (.ret .any) σ'
  | .nilCheck x => og (anil (ev x)) fun v => K (.ret v) σ
  | .binOp op t x y _ => abin T op t (ev x) (ev y) fun v => K (.ret v) σ
  | .unOp op _ x => og (aun op (ev x)) fun v => K (.ret v) σ
  | .convert s d x => aconv T s d (ev x) σ fun v σ' => K (.ret v) σ'
  | .makeInterface t x => og (aifc T t (ev x)) fun v => K (.ret v) σ
  | .makeFunc fn fs cs => K (.ret (.clo fn (fs.toList.map ev) (cs.toList.map ev))) σ
  | .makeSlice t l c => amake T t (ev l) (ev c) σ fun v σ' => K (.ret v) σ'
  | .slice t x lo hi mx => og (aslice T t (ev x) (lo.map ev) (hi.map ev) (mx.map ev) σ) fun v => K (.ret v) σ
  | .fieldAddr t x f => og (afieldAddr T t (ev x) f) fun v => K (.ret v) σ
  | .field t x f => og (afield T t (ev x) f) fun v => K (.ret v) σ
  | .indexAddr t x i => og (aindexAddr T t (ev x) (ev i) σ) fun v => K (.ret v) σ
  | .index t x i => og (aindex T t (ev x) (ev i)) fun v => K (.ret v) σ
  | .typeAssert x _ t ok => og (atype T (ev x) t ok) fun v => K (.ret v) σ
  | .extract x i => og (aext (ev x) i) fun v => K (.ret v) σ
  | .panic x => apanic (ev x) fun v => K (.pan v) σ
  | .call c => match c.callee with
    | .value f => acallv P (ev f) (c.args.toList.map ev) σ K
    | .builtin b => match b, c.args.toList with
      | .len, [x] => match c.argTypes[0]? with
        | some t => og (alen T t (ev x)) fun v => K (.ret v) σ
        | none => False
      | .append, [s, x] => aappend T c.argTypes (ev s) (ev x) σ fun v σ' => K (.ret v) σ'
      | .max, [x, y] => og (amm true (ev x) (ev y)) fun v => K (.ret v) σ
      | .min, [x, y] => og (amm false (ev x) (ev y)) fun v => K (.ret v) σ
      | _, _ => False
    | .invoke _ _ => False
  | _ => False

theorem og_some {o : Option AV} {k : AV → Prop} (h : og o k) : ∃ v, o = some v ∧ k v := by
  unfold og at h
  split at h
  · exact ⟨_, rfl, h⟩
  · exact h.elim
theorem VRs.map {κ : Kap} {t : List AV} {a : Act} (h : EnvR κ t a.tmps) (xs : List Operand) : VRs κ (xs.map (aeval t)) (xs.map a.eval) := by
  refine ⟨by simp, fun i hi => ?_⟩
  have hi' : i < xs.length := by simpa using hi
  simp only [List.getD, List.getElem?_map, List.getElem?_eq_getElem hi', Option.map_some, Option.getD_some]
  exact h.eval _
theorem optR {κ : Kap} {t : List AV} {a : Act} (h : EnvR κ t a.tmps) (x : Option Operand) :
    (x.map (aeval t) = none ∧ x.map a.eval = none) ∨ ∃ b u, x.map (aeval t) = some b ∧ x.map a.eval = some u ∧ VR κ b u := by
  cases x with
  | none => exact .inl ⟨rfl, rfl⟩
  | some x => exact .inr ⟨_, _, rfl, rfl, h.eval x⟩

section
variable {P : Program} {T : Tab} (hT : TabOk P T)
include hT
omit hT in
theorem val_run {s : Sem Value} {w w' : World} {u : Value} (h : s.run P w = .ok u w') : (do pure (.value (← s)) : Sem Next).run P w = .ok (.value u) w' := by
  rw [Sem.run_bind, h]; rfl
omit hT in
theorem unit_run {s : Sem Unit} {w w' : World} (h : s.run P w = .ok () w') : (do s; pure .skip : Sem Next).run P w = .ok .skip w' := by
  rw [Sem.run_bind, h]; rfl
omit hT in
theorem sop_og {o : Oper} {t : List AV} {σ : AH} {K : AEnd → AH → Prop} {x : Option AV} (h : og x fun v => K (.ret v) σ)
    (hr : ∀ v, x = some v → ∀ κ w (a : Act), Rel κ σ w → EnvR κ t a.tmps → ∃ u, (execOp a.eval o).run P w = .ok (.value u) w ∧ VR κ v u) : sop P o t σ K := by
  obtain ⟨v, hv, hk⟩ := og_some h
  exact sop_value (hr v hv) hk
omit hT in
theorem sop_call {o : Oper} {c : Call} {f : Operand} {t : List AV} {σ : AH} {K : AEnd → AH → Prop} (ho : o.op = .call c) (hc : c.callee = .value f) (h : acallv P (aeval t f) (c.args.toList.map (aeval t)) σ K) : sop P o t σ K := by
  have fin : ∀ {κ : Kap} {σ : AH} {w : World} {next : Act → World → Prop} {Qx : Exit → Act → World → Prop} {a : Act} {e : Ending} {w' : World} {K : AEnd → AH → Prop}, (∀ κ' x v σ' w', K (.ret x) σ' → Stp κ σ w κ' σ' w' → VR κ' x v → next (a.put o.dst v) w') →
      (∀ κ' x v σ' w', K (.pan x) σ' → Stp κ σ w κ' σ' w' → VR κ' x v → Qx (.panic [{ v := v, recovered := false }]) a w') →
      (∃ κ' ae σ', K ae σ' ∧ Stp κ σ w κ' σ' w' ∧ EdR κ' ae e) → (match e, w' with | .returned v, w'' => next (a.put o.dst v) w'' | .panicked chain, w'' => Qx (.panic chain) a w'' | .outgrown, _ => LetsOut Qx) := by
    rintro κ σ w next Qx a e w' K k1 k2 ⟨κ', ae, σ', hQ, hs, hE⟩
    cases e with
    | returned v => cases ae with
      | ret x => exact k1 κ' x v σ' w' hQ hs hE
      | pan x => exact hE.elim
    | panicked ch => cases ae with
      | ret x => exact hE.elim
      | pan x => obtain ⟨v, rfl, hv⟩ := hE; exact k2 κ' x v σ' w' hQ hs hv
    | outgrown => cases ae <;> exact hE.elim
  unfold acallv at h
  split at h
  case h_3 => exact h.elim
  case h_2 =>
    rename_i l hf
    intro r m κ w a hr he next Qx k1 k2
    have hv := he.eval f
    rw [hf] at hv
    generalize hav : a.eval f = fv at hv
    cases hv with
    | yld _ =>
      obtain ⟨fn, tmps, assign, body, hy, hR⟩ := h (m - 1) κ w _ hr (VRs.map he c.args.toList)
      have hrun : (execOp a.eval o).run P w = .ok (.round l fn tmps assign body) w := by
        unfold execOp
        rw [ho]
        have e1 : (c.args.toList.map a.eval).toArray = c.args.map a.eval := by apply Array.ext'; simp
        rw [e1] at hy
        simp only [resolve, hc, hav, Deferred.ofValue, invoke, Sem.run_bind, Sem.run_pure, Result.andThen_ok, Array.empty_append]
        exact hy
      refine ⟨fun _ _ => trivial, ?_⟩
      rw [semAt_ok r hrun (fun d h => by cases h), Oper.uponIn_round]
      refine ⟨(fun h => by cases h), hR.mono fun e w' h => ?_⟩
      have := fin k1 k2 h
      cases e <;> exact this
  rename_i fid first cap hf
  obtain ⟨fn, h1, h2, h3, h4⟩ := h
  intro r m κ w a hr he next Qx k1 k2
  have hv := he.eval f
  rw [hf] at hv
  generalize hav : a.eval f = fv at hv
  cases hv with
  | @clo _ _ _ fs cs hl hl2 g1 g2 =>
    have hargs : VRs κ (first ++ (c.args.toList.map (aeval t) ++ cap)) (fs ++ (c.args.toList.map a.eval ++ cs)) := VRs.append ⟨hl, g1⟩ (VRs.append (VRs.map he _) ⟨hl2, g2⟩)
    have hcall := h4 κ w _ hr hargs
    have hrun : (execOp a.eval o).run P w = .ok (.enter fid (fs ++ (c.args.toList.map a.eval ++ cs)).toArray) w := by
      have e1 : (fs ++ (c.args.toList.map a.eval ++ cs)).toArray = fs.toArray ++ c.args.map a.eval ++ cs.toArray := by
        apply Array.ext'; simp
      unfold execOp
      rw [ho]
      simp only [resolve, hc, hav, Deferred.ofValue, invoke, callFunc, Sem.run_bind, Sem.run_pure, Result.andThen_ok, run_program, h1, h3, h2, Bool.false_eq_true, if_false]
      rw [e1]
    refine ⟨fun _ _ => trivial, ?_⟩
    rw [semAt_ok r hrun (fun d h => by cases h), Oper.uponIn_enter]
    refine ⟨(fun h => by cases h), callsIn_FR.2 (hcall.mono fun e w' h => ?_)⟩
    have := fin k1 k2 h
    cases e <;> exact this
theorem aop_sop {o : Oper} {t : List AV} {σ : AH} {K : AEnd → AH → Prop} (h : aop P T o.op (aeval t) σ K) : sop P o t σ K := by
  unfold aop at h
  split at h
  · rename_i x ho
    exact sop_value (fun κ w a hr he => ⟨_, by unfold execOp; rw [ho]; rfl, he.eval x⟩) h
  · rename_i x ho
    exact sop_value (fun κ w a hr he => ⟨_, by unfold execOp; rw [ho]; rfl, he.eval x⟩) h
  · rename_i c x y ho
    unfold apick at h
    split at h
    case h_2 => exact h.elim
    rename_i b hb
    cases b with
    | true =>
      refine sop_value (fun κ w a hr he => ⟨_, ?_, he.eval x⟩) h
      have := he.eval c; rw [hb] at this; generalize hc : a.eval c = cv at this; cases this
      unfold execOp; rw [ho]; simp [hc, asBool]
    | false =>
      refine sop_value (fun κ w a hr he => ⟨_, ?_, he.eval y⟩) h
      have := he.eval c; rw [hb] at this; generalize hc : a.eval c = cv at this; cases this
      unfold execOp; rw [ho]; simp [hc, asBool]
  · rename_i e ho
    unfold aalloc at h
    split at h
    case h_2 => exact h.elim
    rename_i ti ht
    refine sop_step fun κ w a hr he => ?_
    obtain ⟨u, w', κ', σ', y, g1, g2, g3, g4⟩ := run_newVar (P := P) hr e (VR.ofV κ ti.zero) h
    refine ⟨u, w', κ', σ', y, ?_, g2, g3, g4⟩
    unfold execOp; rw [ho]; refine val_run ?_
    simp only [Instr.alloc, Sem.run_bind, run_zeroValue hT w ht, Result.andThen_ok]
    exact g1
  · rename_i e x ho
    refine sop_step fun κ w a hr he => ?_
    obtain ⟨u, w', κ', σ', y, g1, g2, g3, g4⟩ := run_newVar (P := P) hr e (he.eval x) h
    exact ⟨u, w', κ', σ', y, by unfold execOp; rw [ho]; exact val_run g1, g2, g3, g4⟩
  · rename_i e ps ho
    refine sop_og h fun v hv κ w a hr he => ?_
    obtain ⟨u, g1, g2⟩ := run_build hT (w := w) (qs := ps.map fun (i, x) => (i, a.eval x)) (by have := PR.map he ps.toList; simpa using this) hv
    exact ⟨u, by unfold execOp; rw [ho]; exact val_run g1, g2⟩
  · rename_i e n ps ho
    refine sop_step fun κ w a hr he => ?_
    obtain ⟨u, w', κ', σ', y, g1, g2, g3, g4⟩ := run_buildSlice hT (w := w) hr (qs := ps.map fun (i, x) => (i, a.eval x)) (by have := PR.map he ps.toList; simpa using this) h
    exact ⟨u, w', κ', σ', y, by unfold execOp; rw [ho]; exact val_run g1, g2, g3, g4⟩
  · rename_i e x ho
    refine sop_og h fun v hv κ w a hr he => ?_
    obtain ⟨b, o', g0, u, g1, g2⟩ := run_loadVar hT (w := w) hr (he.eval x) hv
    refine ⟨u, ?_, g2⟩
    unfold execOp; rw [ho]; refine val_run ?_
    simp only [Instr.loadAt, g0, Instr.sureAddr, Sem.run_bind, Sem.run_pure, Result.andThen_ok]; exact g1
  · rename_i e x y ho
    refine sop_skip fun κ w a hr he => ?_
    obtain ⟨b, o', g0, w', σ', g1, g2, g3⟩ := run_storeVar hT (w := w) hr (he.eval x) (he.eval y) h
    refine ⟨w', κ, σ', ?_, g3, g2⟩
    unfold execOp; rw [ho]; refine unit_run ?_
    simp only [Instr.storeAt, g0, Instr.sureAddr, Sem.run_bind, Sem.run_pure, Result.andThen_ok]; exact g1
  · rename_i x ho
    exact sop_og h fun v hv κ w a hr he => run_nilCheck ho (he.eval x) hv
  · rename_i op e x y e2 ho
    refine sop_step fun κ w a hr he => ?_
    obtain ⟨z, av, g1, g2, g3⟩ := run_bin hT (w := w) x y (he.eval x) (he.eval y) h
    exact ⟨z, w, κ, σ, av, by unfold execOp; rw [ho]; exact val_run g2, g1, .refl hr, g3⟩
  · rename_i op e x ho
    refine sop_og h fun v hv κ w a hr he => ?_
    obtain ⟨u, g1, g2⟩ := run_unary (P := P) (w := w) (he.eval x) hv
    exact ⟨u, by unfold execOp; rw [ho]; exact val_run g1, g2⟩
  · rename_i s d x ho
    refine sop_step fun κ w a hr he => ?_
    obtain ⟨u, w', κ', σ', y, g1, g2, g3, g4⟩ := run_conv hT (w := w) hr (he.eval x) h
    exact ⟨u, w', κ', σ', y, by unfold execOp; rw [ho]; exact val_run g1, g2, g3, g4⟩
  · rename_i e x ho
    refine sop_og h fun v hv κ w a hr he => ?_
    unfold aifc at hv
    split at hv
    case h_2 => cases hv
    rename_i ti ht
    have hU := run_underlying hT w ht
    split at hv
    · cases hv
    rename_i hni
    obtain rfl := Option.some.inj hv
    refine ⟨.iface e (a.eval x), ?_, .ifc (he.eval x)⟩
    unfold execOp; rw [ho]; refine val_run ?_
    simp only [Instr.makeInterface, Sem.run_bind, hU, Result.andThen_ok]
    cases hh : ti.under <;> first | rfl | exact absurd hh (hni _)
  · rename_i fn fs cs ho
    refine sop_value (fun κ w a hr he => ⟨.func fn (fs.map a.eval) (cs.map a.eval), by unfold execOp; rw [ho]; rfl, ?_⟩) h
    have h1 := VRs.map he fs.toList
    have h2 := VRs.map he cs.toList
    have := VR.clo (fn := fn) h1.1 h2.1 h1.2 h2.2
    have e1 : ∀ (l : Array Operand), (l.toList.map a.eval).toArray = l.map a.eval := fun l => by apply Array.ext'; simp
    rw [e1, e1] at this; exact this
  · rename_i e l c ho
    refine sop_step fun κ w a hr he => ?_
    obtain ⟨u, w', κ', σ', y, g1, g2, g3, g4⟩ := run_make hT (w := w) hr (he.eval l) (he.eval c) h
    exact ⟨u, w', κ', σ', y, by unfold execOp; rw [ho]; exact val_run g1, g2, g3, g4⟩
  · rename_i e x lo hi mx ho
    refine sop_og h fun v hv κ w a hr he => ?_
    obtain ⟨u, g1, g2⟩ := run_slice hT (w := w) hr (he.eval x) (optR he lo) (optR he hi) (optR he mx) hv
    exact ⟨u, by unfold execOp; rw [ho]; exact val_run g1, g2⟩
  · rename_i e x f ho
    refine sop_og h fun v hv κ w a hr he => ?_
    obtain ⟨u, g1, g2⟩ := run_fieldAt hT (w := w) (he.eval x) hv
    exact ⟨u, by unfold execOp; rw [ho]; exact val_run g1, g2⟩
  · rename_i e x f ho
    refine sop_og h fun v hv κ w a hr he => ?_
    obtain ⟨u, g1, g2⟩ := run_field hT (w := w) (he.eval x) hv
    exact ⟨u, by unfold execOp; rw [ho]; exact val_run g1, g2⟩
  · rename_i e x i ho
    refine sop_og h fun v hv κ w a hr he => ?_
    obtain ⟨u, g1, g2⟩ := run_indexAt hT (w := w) hr (he.eval x) (he.eval i) hv
    exact ⟨u, by unfold execOp; rw [ho]; exact val_run g1, g2⟩
  · rename_i e x i ho
    refine sop_og h fun v hv κ w a hr he => ?_
    obtain ⟨u, g1, g2⟩ := run_index hT (w := w) (he.eval x) (he.eval i) hv
    exact ⟨u, by unfold execOp; rw [ho]; exact val_run g1, g2⟩
  · rename_i x xt e ok ho
    refine sop_og h fun v hv κ w a hr he => ?_
    unfold atype at hv
    split at hv
    case h_2 => cases hv
    rename_i ti ht
    have hU := run_underlying hT w ht
    have hZ := run_zeroValue hT w ht
    have hz := VR.ofV κ ti.zero
    have htwo : ∀ (x : AV) (u : Value) (b : Bool), VR κ x u → VR κ (.tup [x, .val (.bool b)]) (.tuple #[u, .bool b]) := by
      intro x u b hx
      have hh := VRs.cons hx (VRs.one (VR.val (κ := κ) (.bool b)))
      exact .tup hh.1 hh.2
    have hx := he.eval x
    generalize aeval t x = ax at hx hv
    generalize hx2 : a.eval x = vx at hx
    split at hv
    · cases hv
    · rename_i t' v' hni
      cases hx with
      | @ifc _ _ u hu =>
        by_cases c : t' = e
        · rw [if_pos c] at hv
          obtain rfl := Option.some.inj hv
          refine ⟨if ok then .tuple #[u, .bool true] else u, ?_, by cases ok; exact hu; exact htwo _ _ _ hu⟩
          unfold execOp; rw [ho]; refine val_run ?_
          rw [hx2]
          simp only [Instr.typeAssert, Sem.run_bind, hU, Result.andThen_ok]
          cases hh : ti.under <;> first | (exact absurd hh (hni _)) | simp [c]
        · rw [if_neg c] at hv
          split at hv
          case isFalse => cases hv
          rename_i hok
          obtain rfl := Option.some.inj hv
          refine ⟨.tuple #[ti.zero, .bool false], ?_, htwo _ _ _ hz⟩
          unfold execOp; rw [ho]; refine val_run ?_
          rw [hx2]
          simp only [Instr.typeAssert, Sem.run_bind, hU, Result.andThen_ok]
          cases hh : ti.under <;> first | (exact absurd hh (hni _)) | simp [c, hok, hZ]
    · rename_i hni
      cases hx
      split at hv
      case isFalse => cases hv
      rename_i hok
      obtain rfl := Option.some.inj hv
      refine ⟨.tuple #[ti.zero, .bool false], ?_, htwo _ _ _ hz⟩
      unfold execOp; rw [ho]; refine val_run ?_
      rw [hx2]
      simp only [Instr.typeAssert, Sem.run_bind, hU, Result.andThen_ok]
      cases hh : ti.under <;> first | (exact absurd hh (hni _)) | simp [hok, hZ]
    · cases hv
  · rename_i x i ho
    refine sop_og h fun v hv κ w a hr he => ?_
    have := he.eval x
    generalize hx : aeval t x = ax at this hv
    generalize hx2 : a.eval x = vx at this
    cases this <;> first | (cases hv; done) | skip
    rename_i cs vs hl g
    have hi : i < cs.length := by
      rcases Nat.lt_or_ge i cs.length with c | c
      · exact c
      · simp [aext, List.getElem?_eq_none c] at hv
    have hv' : cs[i]? = some v := hv
    refine ⟨vs.getD i undef, ?_, ?_⟩
    · unfold execOp; rw [ho]; refine val_run ?_
      rw [hx2]
      simp [Instr.extract, List.getD, show i < vs.length by omega]
    · have := g i hi
      simpa [List.getD, hv'] using this
  · rename_i x ho
    unfold apanic at h
    split at h
    case h_2 => exact h.elim
    rename_i e v hx
    intro r m κ w a hr he next Qx k1 k2
    have hv := he.eval x
    rw [hx] at hv
    generalize hx2 : a.eval x = vx at hv
    refine ⟨fun _ _ => trivial, ?_⟩
    rw [Oper.semAt_eq r _ _ (fun c e => by rw [ho] at e; cases e)]
    cases hv with
    | @ifc _ _ u hu =>
      have : (execOp a.eval o).run P w = .halt (.panic (.iface e u)) w := by
        unfold execOp; rw [ho]
        simp [Instr.panic, hx2]
      rw [this, Oper.uponIn_panic]
      exact k2 κ _ _ σ w h (.refl hr) (.ifc hu)
  · rename_i c ho
    split at h
    · rename_i f hc
      exact sop_call ho hc h
    · rename_i b hc
      split at h
      · rename_i x hargs
        split at h
        case h_2 => exact h.elim
        rename_i ty hty
        refine sop_og h fun v hv κ w a hr he => ?_
        obtain ⟨u, g1, g2⟩ := run_len hT (w := w) (ts := c.argTypes) (rt := o.type) hty (he.eval x) hv
        refine ⟨u, ?_, g2⟩
        have e1 : c.args = #[x] := by apply Array.ext'; rw [hargs]
        unfold execOp; rw [ho]
        simp only [resolve, hc, invoke, Sem.run_bind, Sem.run_pure, Result.andThen_ok, builtin, e1, List.map_toArray, List.map_cons, List.map_nil, g1]
      · rename_i s x hargs
        refine sop_step fun κ w a hr he => ?_
        obtain ⟨u, w', κ', σ', y, g1, g2, g3, g4⟩ := run_append hT (w := w) (rt := o.type) hr (he.eval s) (he.eval x) h
        refine ⟨u, w', κ', σ', y, ?_, g2, g3, g4⟩
        have e1 : c.args = #[s, x] := by apply Array.ext'; rw [hargs]
        unfold execOp; rw [ho]
        simp only [resolve, hc, invoke, Sem.run_bind, Sem.run_pure, Result.andThen_ok, builtin, e1, List.map_toArray, List.map_cons, List.map_nil, g1]
      · rename_i x y hargs
        refine sop_og h fun v hv κ w a hr he => ?_
        have hx := he.eval x
        have hy := he.eval y
        generalize aeval t x = ax at hx hv
        generalize aeval t y = ay at hy hv
        generalize hx2 : a.eval x = vx at hx
        generalize hy2 : a.eval y = vy at hy
        unfold amm at hv
        split at hv
        case h_2 => cases hv
        obtain rfl := Option.some.inj hv
        cases hx; cases hy
        refine ⟨_, ?_, .val _⟩
        have e1 : c.args = #[x, y] := by apply Array.ext'; rw [hargs]
        unfold execOp; rw [ho]
        simp only [resolve, hc, invoke, Sem.run_bind, Sem.run_pure, Result.andThen_ok, builtin, e1, List.map_toArray, List.map_cons, List.map_nil, hx2, hy2]
        simp [Builtin.max_, Builtin.max2]
      · rename_i x y hargs
        refine sop_og h fun v hv κ w a hr he => ?_
        have hx := he.eval x
        have hy := he.eval y
        generalize aeval t x = ax at hx hv
        generalize aeval t y = ay at hy hv
        generalize hx2 : a.eval x = vx at hx
        generalize hy2 : a.eval y = vy at hy
        unfold amm at hv
        split at hv
        case h_2 => cases hv
        obtain rfl := Option.some.inj hv
        cases hx; cases hy
        refine ⟨_, ?_, .val _⟩
        have e1 : c.args = #[x, y] := by apply Array.ext'; rw [hargs]
        unfold execOp; rw [ho]
        simp only [resolve, hc, invoke, Sem.run_bind, Sem.run_pure, Result.andThen_ok, builtin, e1, List.map_toArray, List.map_cons, List.map_nil, hx2, hy2]
        simp [Builtin.min_, Builtin.min2]
      · exact h.elim
    · exact h.elim
  · exact h.elim
end
end Go.Proofs.Ytjfdgijgkbojnaa.E
