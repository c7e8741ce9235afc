/- The engine, part 11: conversions, and the operations all together. -/
import Derived.Test.YtjfdgijgkbojnaaE10
set_option linter.unusedSectionVars false
namespace Go.Proofs.Ytjfdgijgkbojnaa.E
open Go Go.RowKit
variable [Lam]

def og (o : Option AV) (k : AV → Prop) : Prop := match o with | some v => k v | none => False
def apick (c : AV) (x y : Prop) : Prop := match c with
  | .val (.bool b) => match b with | true => x | false => y
  | _ => False
def anil : AV → Option AV
  | .ptr φ st i off => some (.ptr φ st i off)
  | .rop cs off => some (.rop cs off)
  | .clo (.func f) a b => some (.clo (.func f) a b)
  | _ => none
def aun (op : UnOp) (x : AV) : Option AV := match op, x with
  | .neg, .val (.int k n) => some (.val (.int k (k.wrap (0 - n))))
  | .not, .val (.bool b) => some (.val (.bool !b))
  | _, _ => none
def isNilV : AV → Bool
  | .val (.slice none 0 0) | .val (.pointer none) | .val .nilFunc | .val .nilIface => true
  | _ => false
/-- == and != : with nil, of structs, of others. -/
def aeql (T : Tab) (t : TypeId) (x y : AV) (k : Bool → Prop) : Prop :=
  match T t with
  | some ti => match ti.under, x, y with
    | .slice _, .own _ _ _ _, .val (.slice none 0 0) => k false
    | .slice _, .vw _ _ _ _, .val (.slice none 0 0) => k false
    | .slice _, .ro es, .val (.slice none 0 0) => ∀ b : Bool, (es ≠ [] → b = false) → k b
    | .slice _, .emp, .val (.slice none 0 0) => ∀ b : Bool, k b
    | .slice _, .val (.slice none 0 0), .val (.slice none 0 0) => k true
    | .pointer _, .ptr _ _ _ _, .val (.pointer none) => k false
    | .pointer _, .rop _ _, .val (.pointer none) => k false
    | .pointer _, .val (.pointer none), .val (.pointer none) => k true
    | .func _ _ _, .clo _ _ _, .val .nilFunc => k false
    | .func _ _ _, .val .nilFunc, .val .nilFunc => k true
    | .bool, .val (.bool a), .val (.bool b) => k (a == b)
    | .struct _, .agg xs, .agg ys => match ti.cmp, aeq T 8 t (.agg xs) (.agg ys) with
      | true, some b => k b
      | _, _ => False
    | _, _, _ => False
  | none => False
def abin (T : Tab) (op : BinOp) (t : TypeId) (x y : AV) (k : AV → Prop) : Prop :=
  match x, y with
  | .val (.int ka a), .val (.int kb b) => og ((binV op (.int ka a) (.int kb b)).map .val) k
  | .val (.string a), .val (.string b) => og ((binV op (.string a) (.string b)).map .val) k
  | x, y => match op with
    | .eql => aeql T t x y (fun b => k (.val (.bool b)))
    | .neq => aeql T t x y (fun b => k (.val (.bool !b)))
    | _ => False
def amm (mx : Bool) : AV → AV → Option AV
  | .val (.int k x), .val (.int _ y) => some (.val (.int k (if mx then (if y > x then y else x) else (if y < x then y else x))))
  | _, _ => none
def abytes : List (List AV) → Option (List UInt8)
  | [] => some []
  | [.val (.int .u8 n)] :: r => (abytes r).map (UInt8.ofNat n.toNat :: ·)
  | _ => none
def aconv (T : Tab) (src dst : TypeId) (x : AV) (σ : AH) (k : AV → AH → Prop) : Prop :=
  match T src, T dst with
  | some ts, some td => match ts.under, td.under, x with
    | _, .int kd, .val (.int _ n) => k (.val (.int kd (kd.wrap n))) σ
    | _, .string, .val (.string s) => k (.val (.string s)) σ
    | .slice e, .string, x => match T e, aelems σ x with
      | some te, some es => match te.under, abytes es with
        | .int .u8, some bs => te.size = 1 ∧ (∀ s, x ≠ .val (.string s)) ∧ k (.val (.string ⟨bs.toArray⟩)) σ
        | _, _ => False
      | _, _ => False
    | _, _, _ => False
  | _, _ => False

section
variable {P : Program} {T : Tab} (hT : TabOk P T)
include hT
omit hT in
theorem run_nilCheck {κ : Kap} {w : World} {ρ : Operand → Value} {o : Oper} {x : Operand} {a y : AV} (ho : o.op = .nilCheck x) (h : VR κ a (ρ x)) (e : anil a = some y) :
    ∃ u, (execOp ρ o).run P w = .ok (.value u) w ∧ VR κ y u := by
  unfold anil at e
  split at e <;> first | (cases e; done) | (obtain rfl := Option.some.inj e)
  all_goals (refine ⟨ρ x, ?_, h⟩; unfold execOp; rw [ho]; dsimp only; generalize ρ x = v at h; cases h; rfl)
omit hT in
theorem run_unary {κ : Kap} {w : World} {op : UnOp} {x y : AV} {v : Value} (h : VR κ x v) (e : aun op x = some y) : ∃ u, (Op.unary op v).run P w = .ok u w ∧ VR κ y u := by
  unfold aun at e
  split at e <;> first | (cases e; done) | (obtain rfl := Option.some.inj e)
  all_goals (cases h)
  · exact ⟨_, by simp [Op.unary, Op.intArith], .val _⟩
  · exact ⟨_, by simp [Op.unary], .val _⟩
omit hT in
/-- Values that == asks by their type. -/
def plainEq : Value → Value → Bool
  | .slice _ _ _, .slice _ _ _ => true
  | .pointer none, .pointer none => true
  | .pointer (some _), .pointer none => true
  | .func _ _ _, .nilFunc => true
  | .nilFunc, .nilFunc => true
  | .bool _, .bool _ => true
  | _, _ => false
omit hT in
theorem run_plainEq {w : World} {t : TypeId} {v u : Value} {b : Bool} (h : plainEq v u = true) (e : ∀ d, (Op.equalIn (d + 1) t v u).run P w = .ok b w) :
    (binOp .eql t v u).run P w = .ok (.bool b) w ∧ (binOp .neq t v u).run P w = .ok (.bool !b) w ∧ ∀ op ox oy, (eqGuard op t ox oy v u).run P w = .ok () w := by
  have e' : (Op.equal t v u).run P w = .ok b w := e 9999
  unfold plainEq at h
  split at h <;> first | (cases h; done) | skip
  all_goals
    refine ⟨?_, ?_, fun op ox oy => by cases op <;> rfl⟩
    all_goals
      first
        | (show (do pure (.bool (← Op.equal t _ _)) : Sem Value).run P w = _; rw [Sem.run_bind, e']; rfl)
        | (show (do pure (.bool (!(← Op.equal t _ _))) : Sem Value).run P w = _; rw [Sem.run_bind, e']; rfl)
theorem run_eql {κ : Kap} {w : World} {t : TypeId} {x y : AV} {v u : Value} {k : Bool → Prop} (hx : VR κ x v) (hy : VR κ y u) (e : aeql T t x y k) :
    ∃ b, k b ∧ (binOp .eql t v u).run P w = .ok (.bool b) w ∧ (binOp .neq t v u).run P w = .ok (.bool !b) w ∧ ∀ op ox oy, (eqGuard op t ox oy v u).run P w = .ok () w := by
  unfold aeql at e
  split at e
  case h_2 => exact e.elim
  rename_i ti ht
  have hU := hT.under t ti ht
  split at e
  case h_13 => exact e.elim
  all_goals (rename_i hu; rw [hu] at hU)
  · cases hx <;> cases hy <;> exact ⟨false, e, run_plainEq rfl fun d => by simp [Op.equalIn, Go.underlying, hU]⟩
  · cases hx <;> cases hy <;> exact ⟨false, e, run_plainEq rfl fun d => by simp [Op.equalIn, Go.underlying, hU]⟩
  · cases hy
    cases hx with
    | roEnd a =>
      cases a with
      | none => exact ⟨true, e true (fun h => absurd rfl h), run_plainEq rfl fun d => by simp [Op.equalIn, Go.underlying, hU]⟩
      | some a => exact ⟨false, e false (fun _ => rfl), run_plainEq rfl fun d => by simp [Op.equalIn, Go.underlying, hU]⟩
    | ro _ _ _ _ => exact ⟨false, e false (fun _ => rfl), run_plainEq rfl fun d => by simp [Op.equalIn, Go.underlying, hU]⟩
  · cases hy
    cases hx with
    | emp a =>
      cases a with
      | none => exact ⟨true, e true, run_plainEq rfl fun d => by simp [Op.equalIn, Go.underlying, hU]⟩
      | some a => exact ⟨false, e false, run_plainEq rfl fun d => by simp [Op.equalIn, Go.underlying, hU]⟩
  · cases hx; cases hy; exact ⟨true, e, run_plainEq rfl fun d => by simp [Op.equalIn, Go.underlying, hU]⟩
  · cases hx; cases hy; exact ⟨false, e, run_plainEq rfl fun d => by simp [Op.equalIn, Go.underlying, hU]⟩
  · cases hx; cases hy; exact ⟨false, e, run_plainEq rfl fun d => by simp [Op.equalIn, Go.underlying, hU]⟩
  · cases hx; cases hy; exact ⟨true, e, run_plainEq rfl fun d => by simp [Op.equalIn, Go.underlying, hU]⟩
  · cases hx; cases hy; exact ⟨false, e, run_plainEq rfl fun d => by simp [Op.equalIn, Go.underlying, hU]⟩
  · cases hx; cases hy; exact ⟨true, e, run_plainEq rfl fun d => by simp [Op.equalIn, Go.underlying, hU]⟩
  · rename_i a b
    cases hx; cases hy; exact ⟨a == b, e, run_plainEq rfl fun d => by simp [Op.equalIn, Go.underlying, hU]⟩
  · rename_i xs ys
    split at e
    case h_2 => exact e.elim
    rename_i b hc hb
    have hc := hT.cmp t ti ht hc
    cases hx with
    | @agg _ vs hl h => cases hy with
      | @agg _ us hl2 h2 =>
        have hE := run_aeq hT w 8 t (.agg xs) (.agg ys) (.agg vs.toArray) (.agg us.toArray) b 10000 (by omega) (.agg hl h) (.agg hl2 h2) hb
        exact ⟨b, e, by rw [run_eql_struct, hE]; rfl, by rw [run_neq_struct, hE]; rfl, fun op ox oy => run_eqGuard_agg w op t ox oy _ _ hc.2⟩
theorem run_bin {κ : Kap} {w : World} {op : BinOp} {t : TypeId} {x y : AV} {v u : Value} {k : AV → Prop} (ox oy : Operand) (hx : VR κ x v) (hy : VR κ y u) (e : abin T op t x y k) :
    ∃ z a, k a ∧ (do eqGuard op t ox oy v u; binOp op t v u : Sem Value).run P w = .ok z w ∧ VR κ a z := by
  have hg : ∀ (a b : Value), (∀ cs, a ≠ .agg cs) → a ≠ .nilIface → (eqGuard op t ox oy a b).run P w = .ok () w := by
    intro a b h1 h2
    cases op <;> first | rfl | (cases a <;> first | rfl | exact absurd rfl (h1 _) | exact absurd rfl h2)
  unfold abin at e
  split at e
  · cases hx; cases hy
    unfold og at e
    split at e
    case h_2 => exact e.elim
    rename_i v' hv'
    obtain ⟨c, hc, rfl⟩ := Option.map_eq_some_iff.mp hv'
    exact ⟨c, _, e, by rw [Sem.run_bind, hg _ _ (fun _ h => by cases h) (fun h => by cases h)]; exact run_binV hc, .val _⟩
  · cases hx; cases hy
    unfold og at e
    split at e
    case h_2 => exact e.elim
    rename_i v' hv'
    obtain ⟨c, hc, rfl⟩ := Option.map_eq_some_iff.mp hv'
    exact ⟨c, _, e, by rw [Sem.run_bind, hg _ _ (fun _ h => by cases h) (fun h => by cases h)]; exact run_binV hc, .val _⟩
  · split at e
    case h_3 => exact e.elim
    · obtain ⟨b, k1, e1, e2, e3⟩ := run_eql (P := P) hT (w := w) hx hy e
      exact ⟨_, _, k1, by rw [Sem.run_bind, e3]; exact e1, .val _⟩
    · obtain ⟨b, k1, e1, e2, e3⟩ := run_eql (P := P) hT (w := w) hx hy e
      exact ⟨_, _, k1, by rw [Sem.run_bind, e3]; exact e2, .val _⟩
end
end Go.Proofs.Ytjfdgijgkbojnaa.E
