/- The engine, part 2: the operations, one by one: what each does to abstract values, and that the model's does so. -/
import Derived.Test.YtjfdgijgkbojnaaE1
import Derived.Calls
import Derived.CallsIn
import Derived.TacticsIn
import Derived.OrdersIn
import Derived.LoopIn
import Derived.RangeFuncIn
import Derived.RangeFuncRecord
import Derived.RangeFuncLeaves
import Derived.RangeFuncSeq
import Derived.RangeFuncNested
set_option linter.unusedSectionVars false
namespace Go.Proofs.Ytjfdgijgkbojnaa.E
open Go Go.RowKit
variable [Lam]

inductive AEnd where
  | ret (v : AV)
  | pan (v : AV)

def EdR (κ : Kap) : AEnd → Ending → Prop
  | .ret a, .returned v => VR κ a v
  | .pan a, .panicked ch => ∃ v, ch = [{ v := v, recovered := false }] ∧ VR κ a v
  | _, _ => False

def VRs (κ : Kap) (as : List AV) (vs : List Value) : Prop := as.length = vs.length ∧ ∀ i, i < as.length → VR κ (as.getD i .any) (vs.getD i undef)
theorem VRs.nil (κ : Kap) : VRs κ [] [] := ⟨rfl, fun i h => absurd h (Nat.not_lt_zero i)⟩
theorem VRs.cons {κ : Kap} {a : AV} {v : Value} {as : List AV} {vs : List Value} (h : VR κ a v) (k : VRs κ as vs) : VRs κ (a :: as) (v :: vs) := by
  refine ⟨by simp [k.1], fun i hi => ?_⟩
  cases i with
  | zero => exact h
  | succ i => exact k.2 i (by simpa using hi)
theorem VRs.append {κ : Kap} {as bs : List AV} {vs us : List Value} (h : VRs κ as vs) (k : VRs κ bs us) : VRs κ (as ++ bs) (vs ++ us) := by
  refine ⟨by simp [h.1, k.1], fun i hi => ?_⟩
  by_cases c : i < as.length
  · have c' : i < vs.length := h.1 ▸ c
    have := h.2 i c
    simpa [List.getD, List.getElem?_append, c, c'] using this
  · have c' : ¬ i < vs.length := h.1 ▸ c
    have := k.2 (i - as.length) (by simp at hi; omega)
    simpa [List.getD, List.getElem?_append, c, c', h.1] using this
theorem VRs.mono {κ κ' : Kap} (E : Ext κ κ') {as : List AV} {vs : List Value} (h : VRs κ as vs) : VRs κ' as vs := ⟨h.1, fun i hi => (h.2 i hi).mono E⟩
theorem VRs.uncons {κ : Kap} {a : AV} {as : List AV} {vs : List Value} (h : VRs κ (a :: as) vs) : ∃ v us, vs = v :: us ∧ VR κ a v ∧ VRs κ as us := by
  cases vs with
  | nil => exact absurd h.1 (by simp)
  | cons v us => exact ⟨v, us, rfl, h.2 0 (by simp), by have := h.1; simpa using this, fun i hi => h.2 (i + 1) (by simpa using hi)⟩
theorem VRs.unnil {κ : Kap} {vs : List Value} (h : VRs κ [] vs) : vs = [] := by
  cases vs with
  | nil => rfl
  | cons v us => exact absurd h.1 (by simp)

/-- A call, in abstract values: whatever world it is called in, it comes to what Q tells. -/
def acall (P : Program) (f : FuncId) (args : List AV) (σ : AH) (Q : AEnd → AH → Prop) : Prop :=
  ∃ fn, P.funcs[f]? = some fn ∧ fn.body.isNone = false ∧ (fn.name == "runtime.NumGoroutine") = false ∧
    ∀ κ w vs, Rel κ σ w → VRs κ args vs →
      Calls P f vs.toArray w fun e w' => ∃ κ' ae σ', Q ae σ' ∧ Stp κ σ w κ' σ' w' ∧ EdR κ' ae e
theorem acall.mono {P : Program} {f : FuncId} {args : List AV} {σ : AH} {Q Q' : AEnd → AH → Prop} (h : acall P f args σ Q) (k : ∀ e σ', Q e σ' → Q' e σ') : acall P f args σ Q' := by
  obtain ⟨fn, h1, h2, h3, h4⟩ := h
  exact ⟨fn, h1, h2, h3, fun κ w vs hr hv => (h4 κ w vs hr hv).mono fun e w' ⟨κ', ae, σ', a, b, c⟩ => ⟨κ', ae, σ', k _ _ a, b, c⟩⟩

/-- The environment of a frame. -/
structure EnvR (κ : Kap) (t : List AV) (a : Array Value) : Prop where
  size : t.length = a.size
  get : ∀ i, i < t.length → VR κ (t.getD i .any) (a.getD i undef)
theorem EnvR.mono {κ κ' : Kap} (E : Ext κ κ') {t : List AV} {a : Array Value} (h : EnvR κ t a) : EnvR κ' t a := ⟨h.size, fun i hi => (h.get i hi).mono E⟩
theorem EnvR.at {κ : Kap} {t : List AV} {a : Array Value} (h : EnvR κ t a) (i : Nat) : VR κ (t.getD i .any) (a.getD i undef) := by
  by_cases c : i < t.length
  · exact h.get i c
  · rw [show t.getD i .any = .any by simp [List.getD, List.getElem?_eq_none (Nat.le_of_not_lt c)]]
    exact .any _
theorem EnvR.set {κ : Kap} {t : List AV} {a : Array Value} (h : EnvR κ t a) (d : Nat) {x : AV} {v : Value} (hv : VR κ x v) : EnvR κ (t.set d x) (a.setIfInBounds d v) := by
  refine ⟨by simp [h.size], fun i hi => ?_⟩
  have hi' : i < t.length := by simpa using hi
  by_cases c : d = i
  · subst c
    have hs : d < a.size := h.size ▸ hi'
    simp only [List.getD, List.getElem?_set_self hi', Option.getD_some]
    simp only [Array.getD_eq_getD_getElem?, Array.getElem?_setIfInBounds_self_of_lt hs, Option.getD_some]
    exact hv
  · have := h.get i hi'
    simp only [List.getD, List.getElem?_set_ne c]
    simp only [Array.getD_eq_getD_getElem?, Array.getElem?_setIfInBounds_ne c]
    simpa [List.getD, Array.getD_eq_getD_getElem?] using this
def aput (t : List AV) (d : Option Tmp) (x : AV) : List AV := match d with | some d => t.set d x | none => t
theorem EnvR.put {κ : Kap} {t : List AV} {a : Act} (h : EnvR κ t a.tmps) (d : Option Tmp) {x : AV} {v : Value} (hv : VR κ x v) : EnvR κ (aput t d x) (a.put d v).tmps := by
  cases d with
  | none => exact h
  | some d => exact h.set d hv
theorem defers_put (a : Act) (d : Option Tmp) (v : Value) : (a.put d v).defers = a.defers := by cases d <;> rfl

/-- A value that stands in the code. -/
def ofV : Value → AV
  | .agg cs => .agg (cs.toList.map .val)
  | v => .val v
theorem VR.map_val (κ : Kap) (vs : List Value) (i : Nat) (h : i < vs.length) : VR κ ((vs.map AV.val).getD i .any) (vs.getD i undef) := by
  have : (vs.map AV.val).getD i .any = .val (vs.getD i undef) := by simp [List.getD, h]
  rw [this]; exact .val _
theorem VR.ofV (κ : Kap) (v : Value) : VR κ (ofV v) v := by
  cases v with
  | agg cs =>
    have : VR κ (.agg (cs.toList.map AV.val)) (.agg cs.toList.toArray) := .agg (by simp) (fun i hi => VR.map_val κ _ i (by simpa using hi))
    simpa [E.ofV] using this
  | _ => exact .val _
def aeval (t : List AV) : Operand → AV
  | .tmp i => t.getD i .any
  | .const v => ofV v
  | .global g => .val (.pointer (some ⟨g, 0, none⟩))
  | .func f => .clo (.func f) [] []
theorem EnvR.eval {κ : Kap} {t : List AV} {a : Act} (h : EnvR κ t a.tmps) (x : Operand) : VR κ (aeval t x) (a.eval x) := by
  cases x with
  | tmp i => exact h.at i
  | const v => exact .ofV κ v
  | global g => exact .val _
  | func f =>
    have : VR κ (.clo (.func f) [] []) (.func (.func f) ([] : List Value).toArray ([] : List Value).toArray) :=
      .clo rfl rfl (fun i hi => absurd hi (Nat.not_lt_zero i)) (fun i hi => absurd hi (Nat.not_lt_zero i))
    exact this

/-- The wide fence, in a round or not. -/
abbrev FR (r : Option Nat) : Fence := { Fence.wide with round := r }
theorem callsIn_FR {r : Option Nat} {n : Nat} {P : Program} {f : FuncId} {args : Array Value} {w : World} {R : Ending → World → Prop} : CallsIn (FR r) n P f args w R ↔ Calls P f args w R :=
  (callsIn_wide : CallsIn Fence.wide n P f args w R ↔ Calls P f args w R)
theorem exec_defer {P : Program} {o : Oper} {ρ : Operand → Value} {w : World} {c : Call} (ho : o.op = .defer c) : (∃ d w', (execOp ρ o).run P w = .ok (.defer d) w') ∨ ∃ s w', (execOp ρ o).run P w = .halt s w' := by
  unfold execOp
  rw [ho]
  simp only [Sem.run_bind]
  cases (resolve ρ c o.type).run P w with
  | ok d w' => exact .inl ⟨d, w', rfl⟩
  | halt s w' => exact .inr ⟨s, w', rfl⟩
theorem semAt_ok {P : Program} {o : Oper} {ρ : Operand → Value} {w w' : World} {x : Next} (r : Option Nat) (h : (execOp ρ o).run P w = .ok x w') (hx : ∀ d, x ≠ .defer d) : (o.semAt r ρ).run P w = .ok x w' := by
  rw [Oper.semAt_eq r ρ o (fun c ho => ?_)]; · exact h
  rcases exec_defer (P := P) (ρ := ρ) (w := w) ho with ⟨d, w2, e⟩ | ⟨s, w2, e⟩
  · rw [e] at h; cases h; exact hx d rfl
  · rw [e] at h; cases h
/-- An operation, in abstract values. -/
def sop (P : Program) (o : Oper) (t : List AV) (σ : AH) (K : AEnd → AH → Prop) : Prop :=
  ∀ r m κ w (a : Act), Rel κ σ w → EnvR κ t a.tmps → ∀ (next : Act → World → Prop) (Qx : Exit → Act → World → Prop),
    (∀ κ' x v σ' w', K (.ret x) σ' → Stp κ σ w κ' σ' w' → VR κ' x v → next (a.put o.dst v) w') →
    (∀ κ' x v σ' w', K (.pan x) σ' → Stp κ σ w κ' σ' w' → VR κ' x v → Qx (.panic [{ v := v, recovered := false }]) a w') →
    o.wpIn (FR r) m P a w next Qx
theorem sop.mono {P : Program} {o : Oper} {t : List AV} {σ : AH} {K K' : AEnd → AH → Prop} (h : sop P o t σ K) (k : ∀ e σ', K e σ' → K' e σ') : sop P o t σ K' :=
  fun r m κ w a hr he next Qx h1 h2 => h r m κ w a hr he next Qx (fun κ' x v σ' w' hk => h1 κ' x v σ' w' (k _ _ hk)) (fun κ' x v σ' w' hk => h2 κ' x v σ' w' (k _ _ hk))
/-- An operation that only reckons or reads. -/
theorem sop_value {P : Program} {o : Oper} {t : List AV} {σ : AH} {K : AEnd → AH → Prop} {x : AV}
    (h : ∀ κ w (a : Act), Rel κ σ w → EnvR κ t a.tmps → ∃ v, (execOp a.eval o).run P w = .ok (.value v) w ∧ VR κ x v) (hK : K (.ret x) σ) : sop P o t σ K := by
  intro r m κ w a hr he next Qx h1 _
  obtain ⟨v, e, hv⟩ := h κ w a hr he
  refine ⟨fun _ _ => trivial, ?_⟩
  rw [semAt_ok r e (fun d h => by cases h)]
  exact h1 κ x v σ w hK (.refl hr) hv
/-- One that turns the world. -/
theorem sop_step {P : Program} {o : Oper} {t : List AV} {σ : AH} {K : AEnd → AH → Prop}
    (h : ∀ κ w (a : Act), Rel κ σ w → EnvR κ t a.tmps → ∃ v w' κ' σ' x, (execOp a.eval o).run P w = .ok (.value v) w' ∧ K (.ret x) σ' ∧ Stp κ σ w κ' σ' w' ∧ VR κ' x v) : sop P o t σ K := by
  intro r m κ w a hr he next Qx h1 _
  obtain ⟨v, w', κ', σ', x, e, hK, hs, hv⟩ := h κ w a hr he
  refine ⟨fun _ _ => trivial, ?_⟩
  rw [semAt_ok r e (fun d h => by cases h)]
  exact h1 κ' x v σ' w' hK hs hv
/-- One that hands nothing back. -/
theorem sop_skip {P : Program} {o : Oper} {t : List AV} {σ : AH} {K : AEnd → AH → Prop}
    (h : ∀ κ w (a : Act), Rel κ σ w → EnvR κ t a.tmps → ∃ w' κ' σ', (execOp a.eval o).run P w = .ok .skip w' ∧ K (.ret .any) σ' ∧ Stp κ σ w κ' σ' w') : sop P o t σ K := by
  intro r m κ w a hr he next Qx h1 _
  obtain ⟨w', κ', σ', e, hK, hs⟩ := h κ w a hr he
  refine ⟨fun _ _ => trivial, ?_⟩
  rw [semAt_ok r e (fun d h => by cases h)]
  exact h1 κ' .any undef σ' w' hK hs (.any _)

/-- What the engine knows of a type. -/
structure TI where
  under : TypeDesc
  size : Nat
  bytes : Nat
  zero : Value
  cmp : Bool
abbrev Tab := TypeId → Option TI
structure TabOk (P : Program) (T : Tab) : Prop where
  mixed : P.follows .mixedOrders = true
  under : ∀ t ti, T t = some ti → P.underlying t = some ti.under
  info : ∀ t ti, T t = some ti → ∃ i, P.info? t = some i ∧ i.size = ti.size ∧ i.bytes = ti.bytes ∧ i.zero = some ti.zero
  zsz : ∀ t ti, T t = some ti → ti.zero.cells.size = ti.size
  cmp : ∀ t ti, T t = some ti → ti.cmp = true → P.stoodInHeld t = false ∧ P.eqGuardType P.depth t = false

def isAggD : TypeDesc → Bool
  | .struct _ | .array _ _ => true
  | _ => false

section runs
variable {P : Program} {T : Tab} (hT : TabOk P T) {t : TypeId} {ti : TI} (w : World)
include hT
theorem run_underlying (h : T t = some ti) : (Go.underlying t).run P w = .ok ti.under w := by
  simp [Go.underlying, hT.under t ti h]
theorem run_typeInfo (h : T t = some ti) : ∃ i, (Go.typeInfo t).run P w = .ok i w ∧ i.size = ti.size ∧ i.bytes = ti.bytes ∧ i.zero = some ti.zero := by
  obtain ⟨i, h1, h2⟩ := hT.info t ti h
  exact ⟨i, by simp [Go.typeInfo, h1], h2⟩
theorem run_sizeOf (h : T t = some ti) : (Go.sizeOf t).run P w = .ok ti.size w := by
  obtain ⟨i, h1, h2, h3⟩ := run_typeInfo hT w h
  simp [Go.sizeOf, h1, h2]
theorem run_zeroValue (h : T t = some ti) : (Go.zeroValue t).run P w = .ok ti.zero w := by
  obtain ⟨i, h1, h2, h3, h4⟩ := run_typeInfo hT w h
  simp [Go.zeroValue, h1, h4]
theorem run_isAgg (h : T t = some ti) : (Go.isAgg t).run P w = .ok (isAggD ti.under) w := by
  simp only [Go.isAgg, Sem.run_bind, run_underlying hT w h, Result.andThen_ok]
  cases ti.under <;> rfl
end runs

end Go.Proofs.Ytjfdgijgkbojnaa.E
