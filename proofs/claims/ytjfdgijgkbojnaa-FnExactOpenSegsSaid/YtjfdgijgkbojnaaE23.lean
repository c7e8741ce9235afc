/- The engine, part 23: code, reckoned with hints; functions. -/
import Derived.Test.YtjfdgijgkbojnaaE22
set_option linter.unusedSectionVars false
namespace Go.Proofs.Ytjfdgijgkbojnaa.E
open Go Go.RowKit
variable [Lam]

structure Hints where
  joins : List (Nat × List Nat)
  perms : List (Nat × List Nat × List Nat)
  loops : List (Nat × List Nat)
/-- What is told of a loop's variables: those that live. -/
def Tup : List Nat → Type
  | [] => Unit
  | _ :: l => AV × Tup l
def compT (t : List AV) : (ls : List Nat) → Tup ls
  | [] => ()
  | i :: l => (t.getD i .any, compT t l)
def expT : (ls : List Nat) → List AV → Tup ls → List AV
  | [], t, _ => t
  | i :: l, t, x => expT l (t.set i x.1) x.2
def blank : List AV → List AV
  | [] => []
  | _ :: t => .any :: blank t
def sameLen : List AV → List AV → Bool
  | [], [] => true
  | _ :: a, _ :: b => sameLen a b
  | _, _ => false
def lkn (p : Nat) (l : List (Nat × List Nat)) : List Nat := match lk p l with
  | some m => m
  | none => []
theorem sameLen_eq : ∀ {a b : List AV}, sameLen a b = true → a.length = b.length
  | [], [], _ => rfl
  | _ :: a, _ :: b, h => by simp [sameLen_eq (a := a) (b := b) h]
theorem blank_length : ∀ (t : List AV), (blank t).length = t.length
  | [] => rfl
  | _ :: t => by simp [blank, blank_length t]
theorem blank_get : ∀ (t : List AV) (i : Nat), (blank t).getD i .any = .any
  | [], i => by simp [blank]
  | _ :: t, 0 => by simp [blank]
  | _ :: t, i + 1 => by have := blank_get t i; simpa [blank] using this
theorem expT_ok {κ : Kap} {t : List AV} {a : Array Value} (h : EnvR κ t a) : ∀ (ls : List Nat) (b : List AV), EnvR κ b a → EnvR κ (expT ls b (compT t ls)) a
  | [], _, hb => hb
  | i :: l, b, hb => by
    refine expT_ok h l (b.set i (t.getD i .any)) ⟨by simpa using hb.size, fun j hj => ?_⟩
    by_cases e : i = j
    · subst e
      have hj' : i < b.length := by simpa using hj
      rw [show (b.set i (t.getD i .any)).getD i .any = t.getD i .any by simp [List.getD, hj']]
      exact h.at i
    · rw [show (b.set i (t.getD i .any)).getD j .any = b.getD j .any by simp [List.getD, List.getElem?_set_ne e]]
      exact hb.at j
theorem blank_ok {κ : Kap} {t : List AV} {a : Array Value} (h : t.length = a.size) : EnvR κ (blank t) a :=
  ⟨by rw [blank_length]; exact h, fun i _ => by rw [blank_get]; exact .any _⟩
/-- Where ways meet. -/
def jn {X : Type} (r : X → AH → Prop) (f : (X → AH → Prop) → Prop) : Prop := f r
theorem swp_loopX {P : Program} {body : Code} {Q : QT} {X : Type} (emb : X → List AV) {x0 : X} {σ : AH} (h : lp (fun R x σ => swp P body (thn (fun t σ => ∃ x', (∀ κ a, EnvR κ t a → EnvR κ (emb x') a) ∧ R x' σ) Q) (emb x) σ) x0 σ) : swp P (.loop body) Q (emb x0) σ := by
  obtain ⟨I, μ, hI, hround⟩ := h
  intro r m n0 κ w a hr he hd
  let Inv : Act → World → Nat → Prop := fun a' w' n => ∃ κ' x' σ', I x' σ' ∧ Stp κ σ w κ' σ' w' ∧ EnvR κ' (emb x') a'.tmps ∧ DF r n0 a' w' ∧ μ x' σ' = n
  refine wpIn_loop (fun a' w' => ∃ n, Inv a' w' n) (fun a' w' => least (Inv a' w')) ⟨_, κ, x0, σ, hI, .refl hr, he, hd, rfl⟩ ?_
  intro a1 w1 hinv
  obtain ⟨κ1, x1, σ1, i1, i2, i3, i4, i5⟩ := least_mem hinv
  have := hround x1 σ1 i1 r m n0 κ1 w1 a1 i2.rel i3 i4
  refine Code.wpIn_mono ?_ this
  rintro e a' w' ⟨κ', z, t', σ', h1, h2, h3, h4, h5⟩
  cases e <;> cases z <;> try exact h5.elim
  · obtain ⟨x', hx, σ'', s1, s2, s3⟩ := h1
    have hst := (i2.trans h2).trans (Stp.sub h2.rel s1)
    have hin : Inv a' w' (μ x' σ'') := ⟨κ', x', σ'', s2, hst, hx _ _ h3, h4, rfl⟩
    refine ⟨⟨_, hin⟩, ?_⟩
    have := least_le hin
    show least (Inv a' w') < least (Inv a1 w1)
    omega
  all_goals exact ⟨κ', _, t', σ', h1, i2.trans h2, h3, h4, h5⟩
theorem expT_length : ∀ (ls : List Nat) (b : List AV) (x : Tup ls), (expT ls b x).length = b.length
  | [], _, _ => rfl
  | i :: l, b, x => by
    show (expT l (b.set i x.1) x.2).length = _
    rw [expT_length l]; simp
theorem swp_loopT {P : Program} {body : Code} {Q : QT} {t : List AV} (ls : List Nat) {σ : AH} (h : lp (X := Tup ls) (fun R x σ => swp P body (thn (fun t' σ => match sameLen t' t with | true => R (compT t' ls) σ | false => False) Q) (expT ls (blank t) x) σ) (compT t ls) σ) : swp P (.loop body) Q t σ := by
  have h2 : lp (X := Tup ls) (fun R x σ => swp P body (thn (fun t' σ => ∃ x', (∀ κ a, EnvR κ t' a → EnvR κ (expT ls (blank t) x') a) ∧ R x' σ) Q) (expT ls (blank t) x) σ) (compT t ls) σ := by
    refine lp_mono (fun R x σ hb => hb.mono (thn_mono (fun t' σ hk => ?_) (fun _ _ _ h => h))) h
    split at hk
    · rename_i hl
      refine ⟨_, fun κ a he => expT_ok he ls _ ⟨?_, fun i _ => ?_⟩, hk⟩
      · rw [blank_length, ← sameLen_eq hl]; exact he.size
      · rw [blank_get]; exact .any _
    · exact hk.elim
  have key := swp_loopX (P := P) (body := body) (Q := Q) (fun x => expT ls (blank t) x) h2
  intro r m n0 κ w a hr he hd
  exact key r m n0 κ w a hr (expT_ok he ls _ (blank_ok he.size)) hd
/-! ### results -/
def bload (T : Tab) (t : TypeId) (p : AV) (σ : AH) : Option AV := match T t with
  | some ti => match isAggD ti.under, ti.size with
    | true, n => lodA n p σ
    | false, 1 => lod p σ
    | _, _ => none
  | none => none
theorem bload_ok {T : Tab} {t : TypeId} {p : AV} {σ : AH} (v : AV) (h : bload T t p σ = some v) : aload T t p σ = some v := by
  unfold bload at h
  split at h
  · rename_i ti ht
    split at h
    · rename_i ha; exact lodA_aload ht ha v h
    · rename_i ha hs; exact lod_aload ht ha hs v h
    · cases h
  · cases h
def bone (T : Tab) (t : List AV) (σ : AH) (k : AV → Prop) : ResultVar → Prop
  | .tmp s => k (t.getD s .any)
  | .cell s ty => og (bload T ty (t.getD s .any) σ) k
def bmany (T : Tab) (t : List AV) (σ : AH) : List ResultVar → (List AV → Prop) → Prop
  | [], k => k []
  | r :: rs, k => bone T t σ (fun v => bmany T t σ rs fun vs => k (v :: vs)) r
def bres (T : Tab) (rs : List ResultVar) (t : List AV) (σ : AH) (k : AV → Prop) : Prop := match rs with
  | [r] => bone T t σ k r
  | rs => bmany T t σ rs fun vs => k (.tup vs)
theorem bone_ok {T : Tab} {t : List AV} {σ : AH} {k : AV → Prop} {r : ResultVar} (h : bone T t σ k r) : ∃ v, aone T t σ r = some v ∧ k v := by
  cases r with
  | tmp s => exact ⟨_, rfl, h⟩
  | cell s ty => obtain ⟨v, h1, h2⟩ := og_some h; exact ⟨v, bload_ok v h1, h2⟩
theorem bmany_ok {T : Tab} {t : List AV} {σ : AH} (rs : List ResultVar) : ∀ {k : List AV → Prop}, bmany T t σ rs k → ∃ vs, amany T t σ rs = some vs ∧ k vs := by
  induction rs with
  | nil => intro k h; exact ⟨[], rfl, h⟩
  | cons r rs ih =>
    intro k h
    obtain ⟨v, h1, h2⟩ := bone_ok h
    obtain ⟨vs, h3, h4⟩ := ih h2
    exact ⟨v :: vs, by simp only [amany, h1, h3], h4⟩
theorem bres_ok {T : Tab} {rs : List ResultVar} {t : List AV} {σ : AH} {k : AV → Prop} (h : bres T rs t σ k) : og (ares T rs t σ) k := by
  unfold bres at h
  split at h
  · obtain ⟨v, h1, h2⟩ := bone_ok h
    unfold ares; simp only [h1]; exact h2
  · rename_i hne
    obtain ⟨vs, h1, h2⟩ := bmany_ok _ h
    unfold ares
    split
    · exact absurd rfl (hne _)
    · simp only [h1]; exact h2
def bqq (T : Tab) (rs : List ResultVar) (R : AEnd → AH → Prop) : QT := fun x t σ => match x with
  | .normal => bres T rs t σ fun v => aret v σ R
  | .ret => bres T rs t σ fun v => aret v σ R
  | .pan v => apan v σ R
  | .exit _ => False
def pad (n : Nat) (args : List AV) : List AV := args ++ List.replicate (n - args.length) (.tup [])
/-! ### the table of types -/
def tab (P : Program) : Tab := fun t => match P.info? t, P.underlying t with
  | some i, some u => match i.zero with
    | some z => match Nat.beq z.cells.size i.size with
      | true => some ⟨u, i.size, i.bytes, z, !P.stoodInHeld t && !P.eqGuardType P.depth t⟩
      | false => none
    | none => none
  | _, _ => none
theorem tab_ok (P : Program) (hm : P.follows .mixedOrders = true) : TabOk P (tab P) := by
  have key : ∀ t ti, tab P t = some ti → ∃ i, P.info? t = some i ∧ P.underlying t = some ti.under ∧ i.size = ti.size ∧ i.bytes = ti.bytes ∧ i.zero = some ti.zero ∧ ti.zero.cells.size = ti.size ∧ (ti.cmp = true → P.stoodInHeld t = false ∧ P.eqGuardType P.depth t = false) := by
    intro t ti h
    unfold tab at h
    split at h
    case h_2 => cases h
    rename_i i u h1 h2
    split at h
    case h_2 => cases h
    rename_i z hz
    split at h
    case h_2 => cases h
    rename_i hb
    obtain rfl := Option.some.inj h
    exact ⟨i, h1, h2, rfl, rfl, hz, Nat.eq_of_beq_eq_true hb, by simp⟩
  refine ⟨hm, fun t ti h => ?_, fun t ti h => ?_, fun t ti h => ?_, fun t ti h => ?_⟩ <;> obtain ⟨i, h1, h2, h3, h4, h5, h6, h7⟩ := key t ti h
  · exact h2
  · exact ⟨i, h1, h3, h4, h5⟩
  · exact h6
  · exact h7
end Go.Proofs.Ytjfdgijgkbojnaa.E
