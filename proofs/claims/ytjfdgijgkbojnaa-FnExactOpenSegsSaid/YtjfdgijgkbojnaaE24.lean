/- The engine, part 24: what code comes to, as syntax. -/
import Derived.Test.YtjfdgijgkbojnaaER
set_option linter.unusedSectionVars false
namespace Go.Proofs.Ytjfdgijgkbojnaa.E
open Go Go.RowKit
variable [Lam]

/-- What stands in a slot, while code is read: something that was met (counted from the first), a constant, nothing. -/
inductive SV where
  | var (n : Nat)
  | cst (v : Value)
  | unit
  | any
  | fn (f : FuncId)
  | glo (g : Nat)
  deriving Inhabited
/-- The same in printed syntax: something that was met (counted from the last), or a value. -/
inductive SI where
  | var (i : Nat)
  | lit (a : AV)
  deriving Inhabited
def dv (ρ : List AV) : SV → AV
  | .var n => ρ.getD (ρ.length - 1 - n) .any
  | .cst v => ofV v
  | .unit => .tup []
  | .any => .any
  | .fn f => .clo (.func f) [] []
  | .glo g => .val (.pointer (some ⟨g, 0, none⟩))
def di (ρ : List AV) : SI → AV
  | .var i => ρ.getD i .any
  | .lit a => a
def SV.lt (d : Nat) : SV → Prop
  | .var n => n < d
  | _ => True
theorem dv_push {ρ : List AV} {s : SV} (v : AV) (h : s.lt ρ.length) : dv (v :: ρ) s = dv ρ s := by
  cases s with
  | var n =>
    have h : n < ρ.length := h
    simp only [dv, List.length_cons]
    rw [show ρ.length + 1 - 1 - n = (ρ.length - 1 - n) + 1 by omega]
    simp
  | _ => rfl
theorem SV.lt_mono {s : SV} {d e : Nat} (h : s.lt d) (hde : d ≤ e) : s.lt e := by
  cases s with
  | var n => exact Nat.lt_of_lt_of_le h hde
  | _ => trivial
theorem dv_top {ρ : List AV} (v : AV) : dv (v :: ρ) (.var ρ.length) = v := by simp [dv]

/-! ### equality of what is written -/
def eqBytes : List UInt8 → List UInt8 → Bool
  | [], [] => true
  | a :: x, b :: y => Nat.beq a.toNat b.toNat && eqBytes x y
  | _, _ => false
def eqKind (a b : IntKind) : Bool := decide (a = b)
def eqVal (v : Value) (a : AV) : Bool := match v, a with
  | .int k n, .val (.int k' n') => eqKind k k' && decide (n = n')
  | .bool b, .val (.bool b') => match b, b' with | true, true => true | false, false => true | _, _ => false
  | .string s, .val (.string s') => eqBytes s.data.toList s'.data.toList
  | .slice none 0 0, .val (.slice none 0 0) => true
  | .pointer none, .val (.pointer none) => true
  | .nilFunc, .val .nilFunc => true
  | .nilIface, .val .nilIface => true
  | .map none, .val (.map none) => true
  | _, _ => false
theorem eqBytes_ok : ∀ {a b : List UInt8}, eqBytes a b = true → a = b
  | [], [], _ => rfl
  | a :: x, b :: y, h => by
    simp only [eqBytes, Bool.and_eq_true] at h
    rw [eqBytes_ok h.2, UInt8.toNat_inj.mp (Nat.eq_of_beq_eq_true h.1)]
theorem eqVal_ok {v : Value} {a : AV} (h : eqVal v a = true) : a = .val v := by
  unfold eqVal at h
  split at h
  · simp only [Bool.and_eq_true, eqKind, decide_eq_true_eq] at h; rw [h.1, h.2]
  · split at h <;> first | rfl | cases h
  · rename_i s s'
    have := eqBytes_ok h
    have hs : s = s' := by
      obtain ⟨⟨l⟩⟩ := s; obtain ⟨⟨l'⟩⟩ := s'
      simp at this; rw [this]
    rw [hs]
  · rfl
  · rfl
  · rfl
  · rfl
  · rfl
  · cases h
def eqVals : List Value → List AV → Bool
  | [], [] => true
  | v :: x, a :: y => eqVal v a && eqVals x y
  | _, _ => false
theorem eqVals_ok : ∀ {l : List Value} {m : List AV}, eqVals l m = true → m = l.map .val
  | [], [], _ => rfl
  | v :: x, a :: y, h => by
    simp only [eqVals, Bool.and_eq_true] at h
    rw [eqVal_ok h.1, eqVals_ok h.2]; rfl
/-- A constant of the code. -/
def eqCst (v : Value) (a : AV) : Bool := match a with
  | .agg xs => match v with | .agg cs => eqVals cs.toList xs | _ => false
  | a => match v with | .agg _ => false | v => eqVal v a
theorem eqCst_ok {v : Value} {a : AV} (h : eqCst v a = true) : a = ofV v := by
  unfold eqCst at h
  split at h
  · split at h
    · rw [eqVals_ok h]; rfl
    · cases h
  · cases v <;> first | (cases h; done) | (rw [eqVal_ok h]; rfl)
def eqv (d : Nat) (s : SV) (x : SI) : Bool := match s, x with
  | .var n, .var i => Nat.beq (n + i + 1) d
  | .cst v, .lit a => eqCst v a
  | .unit, .lit (.tup []) => true
  | .any, .lit .any => true
  | .fn f, .lit (.clo (.func g) [] []) => Nat.beq f g
  | .glo g, .lit (.val (.pointer (some ⟨h, 0, none⟩))) => Nat.beq g h
  | _, _ => false
theorem eqv_ok {ρ : List AV} {s : SV} {x : SI} (h : eqv ρ.length s x = true) : di ρ x = dv ρ s := by
  unfold eqv at h
  split at h
  · rename_i n i
    have := Nat.eq_of_beq_eq_true h
    simp only [di, dv]
    rw [show ρ.length - 1 - n = i by omega]
  · simp only [di, dv]; exact eqCst_ok h
  · rfl
  · rfl
  · rw [Nat.eq_of_beq_eq_true h]; rfl
  · rw [Nat.eq_of_beq_eq_true h]; rfl
  · cases h
def eqvs (d : Nat) : List SV → List SI → Bool
  | [], [] => true
  | s :: a, x :: b => eqv d s x && eqvs d a b
  | _, _ => false
theorem eqvs_ok {ρ : List AV} : ∀ {a : List SV} {b : List SI}, eqvs ρ.length a b = true → b.map (di ρ) = a.map (dv ρ)
  | [], [], _ => rfl
  | s :: a, x :: b, h => by
    simp only [eqvs, Bool.and_eq_true] at h
    simp only [List.map_cons, eqv_ok h.1, eqvs_ok h.2]
end Go.Proofs.Ytjfdgijgkbojnaa.E
