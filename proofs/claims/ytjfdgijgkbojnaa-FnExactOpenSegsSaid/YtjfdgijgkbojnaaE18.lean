/- The engine, part 18: operations one after the other, with guards; what is looked up first. -/
import Derived.Test.YtjfdgijgkbojnaaE17
set_option linter.unusedSectionVars false
namespace Go.Proofs.Ytjfdgijgkbojnaa.E
open Go Go.RowKit
variable [Lam]

def gpick (x : AV) (a b c : Prop) : Prop := match x with
  | .val (.bool true) => a
  | .val (.bool false) => b
  | .tup [] => c
  | _ => False
/-- Hints: where slots are forgotten (at a place in the code; at an operation of a region), the order in which a region that draws is looked at. -/
structure Hint where
  masks : List (Nat × Nat)
  oms : List (Nat × List (Nat × Nat))
  perms : List (Nat × List Nat)
def fgm (ms : List (Nat × Nat)) (p : Nat) (t : List AV) : List AV := match lk p ms with
  | some m => forget m t
  | none => t
theorem EnvR.fgm {κ : Kap} {t : List AV} {a : Array Value} (h : EnvR κ t a) (ms : List (Nat × Nat)) (p : Nat) : EnvR κ (fgm ms p t) a := by
  unfold E.fgm
  split
  · exact .ofList (forget_ok _ _ _ h.toList)
  · exact h
def lkl (p : Nat) (l : List (Nat × List (Nat × Nat))) : List (Nat × Nat) := match lk p l with
  | some m => m
  | none => []
def guarded (ops : Array Oper) (j : Nat) : Bool := match ops[j]? with
  | some o => match o.guard with | some _ => true | none => false
  | none => false
/-- One operation, if its guard wants it; else its slot is nothing. -/
def bgd (ops : Array Oper) (o : Oper) (t : List AV) (run skip : List AV → Prop) : Prop := match o.guard with
  | none => run t
  | some (j, want) => match gslot ops j with
    | some s => gpick (t.getD s .any)
        (match want with | true => run (t.set s (.val (.bool true))) | false => skip (t.set s (.val (.bool true))))
        (match want with | true => skip (t.set s (.val (.bool false))) | false => run (t.set s (.val (.bool false))))
        (match guarded ops j with | true => skip (t.set s (.tup [])) | false => False)
    | none => False
/-- The same in values: nothing, where the guard does not want it. -/
def gval (b : AV) (want g : Bool) (x : Option AV) : Option AV := match b with
  | .val (.bool true) => (match want with | true => x | false => some (.tup []))
  | .val (.bool false) => (match want with | true => some (.tup []) | false => x)
  | .tup [] => (match g with | true => some (.tup []) | false => none)
  | _ => none
def gvo (ops : Array Oper) (o : Oper) (t : List AV) (x : Option AV) : Option AV := match o.guard with
  | none => x
  | some (j, want) => match gslot ops j with
    | some s => gval (t.getD s .any) want (guarded ops j) x
    | none => none
/-- What a guard comes to, in values. -/
theorem bgd_ok {κ : Kap} {ops : Array Oper} {o : Oper} {t : List AV} {a : Act} {run skip : List AV → Prop} (he : EnvR κ t a.tmps) (h : bgd ops o t run skip) :
    (Region.wanted o (yielded ops a.tmps) = true ∧ run t) ∨ (Region.wanted o (yielded ops a.tmps) = false ∧ skip t) := by
  unfold bgd at h
  split at h
  · rename_i hg; exact .inl ⟨by simp [Region.wanted, hg], h⟩
  · rename_i j want hg
    split at h
    case h_2 => exact h.elim
    rename_i s hs
    have hslot := he.at s
    have hy : yielded ops a.tmps j = match a.tmps.getD s undef with | .bool b => some b | _ => none := by
      unfold yielded
      have : (ops[j]?).bind (·.dst) = some s := hs
      rw [this]
      simp only [Option.bind_some]
      simp only [Array.getD_eq_getD_getElem?]
      cases hh : a.tmps[s]? with
      | none => rfl
      | some v => cases v <;> rfl
    unfold gpick at h
    split at h
    · rename_i hb
      rw [hb] at hslot; rw [set_self hb] at h
      generalize hv : a.tmps.getD s undef = sv at hslot hy
      cases hslot
      cases want
      · exact .inr ⟨by simp [Region.wanted, hg, hy], h⟩
      · exact .inl ⟨by simp [Region.wanted, hg, hy], h⟩
    · rename_i hb
      rw [hb] at hslot; rw [set_self hb] at h
      generalize hv : a.tmps.getD s undef = sv at hslot hy
      cases hslot
      cases want
      · exact .inl ⟨by simp [Region.wanted, hg, hy], h⟩
      · exact .inr ⟨by simp [Region.wanted, hg, hy], h⟩
    · rename_i hb
      rw [hb] at hslot; rw [set_self hb] at h
      generalize hv : a.tmps.getD s undef = sv at hslot hy
      cases hslot
      split at h
      · exact .inr ⟨by simp [Region.wanted, hg, hy], h⟩
      · exact h.elim
    · exact h.elim

end Go.Proofs.Ytjfdgijgkbojnaa.E
