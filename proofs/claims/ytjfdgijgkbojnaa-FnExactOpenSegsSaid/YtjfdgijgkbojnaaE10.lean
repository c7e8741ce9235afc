/- The engine, part 10: operators, conversions and the like. -/
import Derived.Test.YtjfdgijgkbojnaaE9
import Derived.Laws.StructEq
set_option linter.unusedSectionVars false
namespace Go.Proofs.Ytjfdgijgkbojnaa.E
open Go Go.RowKit
variable [Lam]

/-! ### == of structs -/
def aeqF (T : Tab) (r : TypeId → AV → AV → Option Bool) (xs ys : List AV) : List Field → Option Bool
  | [] => some true
  | f :: fs => match apart T f.type xs f.offset, apart T f.type ys f.offset with
    | some a, some b => match r f.type a b, aeqF T r xs ys fs with
      | some r, some q => if f.name ≠ "_" then some (r && q) else none
      | _, _ => none
    | _, _ => none
def aeq (T : Tab) : Nat → TypeId → AV → AV → Option Bool
  | 0, _, _, _ => none
  | d + 1, t, x, y => match T t with
    | some ti => match ti.under, x, y with
      | .bool, .val (.bool a), .val (.bool b) => some (a == b)
      | .int _, .val (.int k a), .val (.int k' b) => if k = k' then some (a == b) else none
      | .string, .val (.string a), .val (.string b) => some (a.toList == b.toList)
      | .struct fs, .agg xs, .agg ys => match ti.cmp with
        | true => aeqF T (aeq T d) xs ys fs.toList
        | false => none
      | _, _, _ => none
    | none => none
section
variable {P : Program} {T : Tab} (hT : TabOk P T)
include hT
theorem run_aeqF {κ : Kap} (w : World) (D : Nat) (r : TypeId → AV → AV → Option Bool) (hrec : ∀ (t : TypeId) (x y : AV) (v u : Value) (b : Bool), VR κ x v → VR κ y u → r t x y = some b → (Op.equalIn D t v u).run P w = .ok b w)
    (xs ys : List AV) (vs us : Array Value) (hx : VRs κ xs vs.toList) (hy : VRs κ ys us.toList) : ∀ (fs : List Field) (b : Bool), aeqF T r xs ys fs = some b → (Op.eqFields D vs us fs).run P w = .ok b w := by
  intro fs
  induction fs with
  | nil => intro b e; obtain rfl := Option.some.inj e; rfl
  | cons f fs ih =>
    intro b e
    simp only [aeqF] at e
    split at e
    case h_2 => cases e
    rename_i a a' ha ha'
    split at e
    case h_2 => cases e
    rename_i r1 q hr hq
    split at e
    case isFalse => cases e
    rename_i hn
    obtain rfl := Option.some.inj e
    obtain ⟨z, g1, g2⟩ := run_part hT (w := w) hx ha
    obtain ⟨z', g1', g2'⟩ := run_part hT (w := w) hy ha'
    have e1 := hrec f.type a a' z z' r1 g2 g2' hr
    have e2 := ih q hq
    simp only [Op.eqFields, hn, ne_eq, not_false_eq_true, if_true, Sem.run_bind, g1, g1', Result.andThen_ok, e1]
    cases r1
    · simp
    · simpa using e2
theorem run_aeq {κ : Kap} (w : World) (d : Nat) : ∀ (t : TypeId) (x y : AV) (v u : Value) (b : Bool) (D : Nat), d ≤ D → VR κ x v → VR κ y u → aeq T d t x y = some b → (Op.equalIn D t v u).run P w = .ok b w := by
  induction d with
  | zero => intro t x y v u b D _ _ _ e; cases e
  | succ d ih =>
    intro t x y v u b D hd hx hy e
    obtain ⟨D, rfl⟩ : ∃ D', D = D' + 1 := ⟨D - 1, by omega⟩
    simp only [aeq] at e
    split at e
    case h_2 => cases e
    rename_i ti ht
    have hU := hT.under t ti ht
    split at e
    case h_5 => cases e
    · rename_i a b' hu; rw [hu] at hU; cases hx; cases hy
      obtain rfl := Option.some.inj e
      exact run_equalIn_bool' w D t a b' hU
    · rename_i k0 k a k' b' hu; rw [hu] at hU; cases hx; cases hy
      split at e
      case isFalse => cases e
      rename_i hk; subst hk
      obtain rfl := Option.some.inj e
      exact run_equalIn_int w D t k k0 a b' hU
    · rename_i a b' hu; rw [hu] at hU; cases hx; cases hy
      obtain rfl := Option.some.inj e
      exact run_equalIn_string w D t a b' hU
    · rename_i fs xs ys hu; rw [hu] at hU
      split at e
      case h_2 => cases e
      rename_i hc
      have hc := hT.cmp t ti ht hc
      cases hx with
      | @agg _ vs hl h => cases hy with
        | @agg _ us hl2 h2 =>
          have hf : P.fieldsOf t = fs := by simp [Program.fieldsOf, hU]
          rw [run_equalIn_struct w D t vs.toArray us.toArray (by rw [hf]; exact hU) hc.1, hf]
          exact run_aeqF hT w D (aeq T d) (fun t x y v u b a1 a2 a3 => ih t x y v u b D (by omega) a1 a2 a3) xs ys vs.toArray us.toArray (by exact ⟨by simpa using hl, by simpa using h⟩) (by exact ⟨by simpa using hl2, by simpa using h2⟩) fs.toList b e

/-! ### operators -/
omit hT in
def binV (op : BinOp) : Value → Value → Option Value
  | .int k x, .int k' y => if k = k' then match op with
    | .add => some (.int k (k.wrap (x + y)))
    | .sub => some (.int k (k.wrap (x - y)))
    | .mul => some (.int k (k.wrap (x * y)))
    | .quo => if y = 0 then none else some (.int k (k.wrap (x.tdiv y)))
    | .rem => if y = 0 then none else some (.int k (x.tmod y))
    | .and => some (.int k (k.wrap (BitVec.ofInt k.bits x &&& BitVec.ofInt k.bits y).toNat))
    | .eql => some (.bool (x == y))
    | .neq => some (.bool (x != y))
    | .lss => some (.bool (x < y))
    | .leq => some (.bool (x ≤ y))
    | .gtr => some (.bool (x > y))
    | .geq => some (.bool (x ≥ y))
    | _ => none
    else none
  | .string a, .string b => match op with
    | .add => if a.size + b.size ≤ 4611686018427387904 then some (.string (a ++ b)) else none
    | .eql => some (.bool (a.toList == b.toList))
    | .neq => some (.bool (!(a.toList == b.toList)))
    | .lss => some (.bool (Op.bytesLess a.toList b.toList))
    | _ => none
  | _, _ => none
omit hT in
theorem run_binV {w : World} {op : BinOp} {t : TypeId} {a b c : Value} (e : binV op a b = some c) : (binOp op t a b).run P w = .ok c w := by
  unfold binV at e
  split at e
  case h_3 => cases e
  · split at e
    case isFalse => cases e
    rename_i hk; subst hk
    split at e
    case h_13 => cases e
    case h_4 =>
      split at e
      · cases e
      · rename_i h0; obtain rfl := Option.some.inj e; simp [binOp, Op.intDiv, h0]
    case h_5 =>
      split at e
      · cases e
      · rename_i h0; obtain rfl := Option.some.inj e; simp [binOp, Op.intDiv, h0]
    case h_6 => obtain rfl := Option.some.inj e; simp [binOp, Op.intBits]
    all_goals (obtain rfl := Option.some.inj e; simp [binOp, Op.intArith, Op.intCmp])
  · split at e
    case h_5 => cases e
    case h_1 =>
      split at e
      case isFalse => cases e
      rename_i a b _ h0
      obtain rfl := Option.some.inj e
      have hm : IntKind.i64.max = 9223372036854775807 := by decide
      have : ¬ (((a.size + b.size : Nat) : Int) > IntKind.i64.max) := by rw [hm]; omega
      simp only [binOp, Op.stringOp]
      rw [if_neg this]; rfl
    all_goals (obtain rfl := Option.some.inj e; simp [binOp, Op.stringOp])
end
end Go.Proofs.Ytjfdgijgkbojnaa.E
