/- The engine, part 14: code. -/
import Derived.Test.YtjfdgijgkbojnaaE13
import Derived.Tactics
import Derived.TacticsIn
set_option linter.unusedSectionVars false
namespace Go.Proofs.Ytjfdgijgkbojnaa.E
open Go Go.RowKit
variable [Lam]

inductive AX where
  | normal
  | exit (id : Nat)
  | ret
  | pan (v : AV)
def ExR (κ : Kap) : AX → Exit → Prop
  | .normal, .normal => True
  | .exit i, .exit j => i = j
  | .ret, .ret => True
  | .pan a, .panic ch => ∃ v, ch = [{ v := v, recovered := false }] ∧ VR κ a v
  | _, _ => False
abbrev QT := AX → List AV → AH → Prop
/-- What an activation has put off: marks of ranges over functions alone, each of a block of its own. -/
structure DF (r : Option Nat) (n0 : Nat) (a : Act) (w : World) : Prop where
  le : n0 ≤ w.heap.size
  mark : ∀ d, d ∈ a.defers → ∃ k, d = { target := .collected k, args := #[] } ∧ n0 ≤ k ∧ w.heap[k]? = some (.deferred (some []))
  apart : a.defers.Pairwise (· ≠ ·)
  ro : ∀ l, r = some l → ∃ c, w.heap[l]? = some (.loop c)
theorem DF.stp {r : Option Nat} {n0 : Nat} {a a' : Act} {κ κ' : Kap} {σ σ' : AH} {w w' : World} (h : DF r n0 a w) (hr : Rel κ σ w) (hs : Stp κ σ w κ' σ' w') (e : a'.defers = a.defers) : DF r n0 a' w' := by
  refine ⟨Nat.le_trans h.le hs.fra.size, fun d hd => ?_, by rw [e]; exact h.apart, fun l hl => ?_⟩
  rotate_left
  · obtain ⟨c, hc⟩ := h.ro l hl
    refine ⟨c, ?_⟩
    have hlt := (Array.getElem?_eq_some_iff.1 hc).1
    rw [(hs.fra.blk l hlt ?_).1]; · exact hc
    rintro φ F r hF hρ rfl
    obtain ⟨r', g1, _, g3⟩ := hr.has φ F hF
    rw [hρ] at g1; obtain rfl := Option.some.inj g1
    obtain ⟨c, e, fz, hh, _⟩ := g3.row
    rw [hc] at hh; cases hh
  obtain ⟨k, h1, h2, h3⟩ := h.mark d (e ▸ hd)
  refine ⟨k, h1, h2, ?_⟩
  have hlt := (Array.getElem?_eq_some_iff.1 h3).1
  rw [(hs.fra.blk k hlt ?_).1]; · exact h3
  rintro φ F r hF hρ rfl
  obtain ⟨r', g1, _, g3⟩ := hr.has φ F hF
  rw [hρ] at g1; obtain rfl := Option.some.inj g1
  obtain ⟨c, e, fz, hh, _⟩ := g3.row
  rw [h3] at hh; cases hh
def PostR (κ : Kap) (σ : AH) (w : World) (r : Option Nat) (n0 : Nat) (Q : QT) : Exit → Act → World → Prop := fun e a w' =>
  ∃ κ' x t' σ', Q x t' σ' ∧ Stp κ σ w κ' σ' w' ∧ EnvR κ' t' a.tmps ∧ DF r n0 a w' ∧ ExR κ' x e
theorem PostR.mono {r : Option Nat} {n0 : Nat} {κ κ' : Kap} {σ σ' : AH} {w w' : World} {Q Q' : QT} (hs : Stp κ σ w κ' σ' w') (hq : ∀ x t s, Q x t s → Q' x t s) {e : Exit} {a : Act} {w'' : World} (h : PostR κ' σ' w' r n0 Q e a w'') : PostR κ σ w r n0 Q' e a w'' := by
  obtain ⟨κ2, x, t', σ2, h1, h2, h3, h4, h5⟩ := h
  exact ⟨κ2, x, t', σ2, hq _ _ _ h1, hs.trans h2, h3, h4, h5⟩
def swp (P : Program) (c : Code) (Q : QT) (t : List AV) (σ : AH) : Prop :=
  ∀ r m n0 κ w (a : Act), Rel κ σ w → EnvR κ t a.tmps → DF r n0 a w → c.wpIn (FR r) m P (PostR κ σ w r n0 Q) a w

def thn (n : List AV → AH → Prop) (Q : QT) : QT := fun x t σ => match x with
  | .normal => n t σ
  | x => Q x t σ
def inb (id : Nat) (Q : QT) : QT := fun x t σ => match x with
  | .exit j => match Nat.beq j id with | true => Q .normal t σ | false => Q (.exit j) t σ
  | x => Q x t σ
/-- Rounds, by what holds of them and a measure. -/
def lp {X : Type} (F : (X → AH → Prop) → X → AH → Prop) (x : X) (σ : AH) : Prop :=
  ∃ (I : X → AH → Prop) (μ : X → AH → Nat), I x σ ∧ ∀ x σ, I x σ → F (fun x' σ' => ∃ σ'', AH.Sub σ'' σ' ∧ I x' σ'' ∧ μ x' σ'' < μ x σ) x σ
/-- The rounds of a loop, told of fewer variables. -/
theorem lp_eq {X : Type} {F : (List AV → AH → Prop) → List AV → AH → Prop} {F' : (X → AH → Prop) → X → AH → Prop} (emb : X → List AV) (un : List AV → X) (hun : ∀ x, un (emb x) = x)
    (h : ∀ R x σ, F R (emb x) σ = F' (fun x' σ' => R (emb x') σ') x σ) (x : X) (σ : AH) : lp F (emb x) σ = lp F' x σ := by
  apply propext
  constructor
  · rintro ⟨I, μ, hI, hr⟩
    refine ⟨fun x σ => I (emb x) σ, fun x σ => μ (emb x) σ, hI, fun x σ hx => ?_⟩
    have := hr (emb x) σ hx
    rw [h] at this; exact this
  · rintro ⟨I, μ, hI, hr⟩
    refine ⟨fun t σ => t = emb (un t) ∧ I (un t) σ, fun t σ => μ (un t) σ, ⟨by rw [hun], by rw [hun]; exact hI⟩, fun t σ ht => ?_⟩
    obtain ⟨e, hx⟩ := ht
    have := hr (un t) σ hx
    rw [e, h]
    simp only [hun, true_and]
    exact this

section rules
variable {P : Program} {Q : QT} {t : List AV} {σ : AH}
theorem swp.mono {c : Code} {Q' : QT} (h : swp P c Q t σ) (hq : ∀ x t s, Q x t s → Q' x t s) : swp P c Q' t σ :=
  fun r m n0 κ w a hr he hd => Code.wpIn_mono (fun _ _ _ hp => PostR.mono (.refl hr) hq hp) (h r m n0 κ w a hr he hd)
theorem swp_skip (h : Q .normal t σ) : swp P .skip Q t σ :=
  fun _ _ _ κ _ _ hr he hd => wpIn_skip ⟨κ, .normal, t, σ, h, .refl hr, he, hd, trivial⟩
theorem swp_ret (h : Q .ret t σ) : swp P .ret Q t σ :=
  fun _ _ _ κ _ _ hr he hd => wpIn_ret ⟨κ, .ret, t, σ, h, .refl hr, he, hd, trivial⟩
theorem swp_exit {id : Nat} (h : Q (.exit id) t σ) : swp P (.exit id) Q t σ :=
  fun _ _ _ κ _ _ hr he hd => wpIn_exit ⟨κ, .exit id, t, σ, h, .refl hr, he, hd, rfl⟩
theorem swp_seq {x y : Code} (h : swp P x (thn (fun t σ => swp P y Q t σ) Q) t σ) : swp P (.seq x y) Q t σ := by
  intro r m n0 κ w a hr he hd
  refine wpIn_seq (Code.wpIn_mono ?_ (h r m n0 κ w a hr he hd))
  rintro e a' w' ⟨κ', z, t', σ', h1, h2, h3, h4, h5⟩
  cases e <;> cases z <;> try exact h5.elim
  · exact Code.wpIn_mono (fun _ _ _ hp => PostR.mono h2 (fun _ _ _ h => h) hp) (h1 r m n0 κ' w' a' h2.rel h3 h4)
  all_goals exact ⟨κ', _, t', σ', h1, h2, h3, h4, h5⟩
theorem swp_cond {c : Operand} {x y : Code} (h : apick (aeval t c) (swp P x Q t σ) (swp P y Q t σ)) : swp P (.cond c x y) Q t σ := by
  intro r m n0 κ w a hr he hd
  unfold apick at h
  split at h
  case h_2 => exact h.elim
  rename_i b hb
  have hv := he.eval c
  rw [hb] at hv
  generalize hc : a.eval c = cv at hv
  cases hv
  refine wpIn_cond hc ?_
  cases b
  · exact h r m n0 κ w a hr he hd
  · exact h r m n0 κ w a hr he hd
theorem swp_block {id : Nat} {c : Code} (h : swp P c (inb id Q) t σ) : swp P (.block id c) Q t σ := by
  intro r m n0 κ w a hr he hd
  refine wpIn_block (Code.wpIn_mono ?_ (h r m n0 κ w a hr he hd))
  rintro e a' w' ⟨κ', z, t', σ', h1, h2, h3, h4, h5⟩
  cases e <;> cases z <;> try exact h5.elim
  · exact ⟨κ', _, t', σ', h1, h2, h3, h4, h5⟩
  · rename_i i j
    obtain rfl : j = i := h5
    by_cases c : j = id
    · have hb : Nat.beq j id = true := by rw [c]; exact Nat.beq_refl id
      simp only [Exit.inBlock, c, if_true]
      simp only [inb, hb] at h1
      exact ⟨κ', .normal, t', σ', h1, h2, h3, h4, trivial⟩
    · have hb : Nat.beq j id = false := by
        cases hh : Nat.beq j id with
        | false => rfl
        | true => exact absurd (Nat.eq_of_beq_eq_true hh) c
      simp only [Exit.inBlock, c, if_false]
      simp only [inb, hb] at h1
      exact ⟨κ', .exit j, t', σ', h1, h2, h3, h4, rfl⟩
  all_goals exact ⟨κ', _, t', σ', h1, h2, h3, h4, h5⟩

theorem exists_min {S : Nat → Prop} (h : ∃ n, S n) : ∃ m, S m ∧ ∀ k, S k → m ≤ k := by
  obtain ⟨n, hn⟩ := h
  induction n using Nat.strongRecOn with
  | _ n ih =>
    by_cases c : ∃ k, k < n ∧ S k
    · obtain ⟨k, hk, hs⟩ := c; exact ih k hk hs
    · refine ⟨n, hn, fun k hs => ?_⟩
      rcases Nat.lt_or_ge k n with h | h
      · exact absurd ⟨k, h, hs⟩ c
      · exact h
open Classical in
noncomputable def least (S : Nat → Prop) : Nat := if h : ∃ n, S n then Classical.choose (exists_min h) else 0
theorem least_mem {S : Nat → Prop} (h : ∃ n, S n) : S (least S) := by
  unfold least; rw [dif_pos h]; exact (Classical.choose_spec (exists_min h)).1
theorem least_le {S : Nat → Prop} {n : Nat} (h : S n) : least S ≤ n := by
  unfold least; rw [dif_pos ⟨n, h⟩]; exact (Classical.choose_spec (exists_min ⟨n, h⟩)).2 n h
theorem swp_loop {body : Code} (h : lp (fun R t σ => swp P body (thn R Q) t σ) t σ) : swp P (.loop body) Q t σ := by
  obtain ⟨I, μ, hI, hround⟩ := h
  intro r m n0 κ w a hr he hd
  let Inv : Act → World → Nat → Prop := fun a' w' n => ∃ κ' t' σ', I t' σ' ∧ Stp κ σ w κ' σ' w' ∧ EnvR κ' t' a'.tmps ∧ DF r n0 a' w' ∧ μ t' σ' = n
  refine wpIn_loop (fun a' w' => ∃ n, Inv a' w' n) (fun a' w' => least (Inv a' w')) ⟨_, κ, t, σ, hI, .refl hr, he, hd, rfl⟩ ?_
  intro a1 w1 hinv
  obtain ⟨κ1, t1, σ1, i1, i2, i3, i4, i5⟩ := least_mem hinv
  have := hround t1 σ1 i1 r m n0 κ1 w1 a1 i2.rel i3 i4
  refine Code.wpIn_mono ?_ this
  rintro e a' w' ⟨κ', z, t', σ', h1, h2, h3, h4, h5⟩
  cases e <;> cases z <;> try exact h5.elim
  · obtain ⟨σ'', s1, s2, s3⟩ := h1
    have hst := (i2.trans h2).trans (Stp.sub h2.rel s1)
    have hin : Inv a' w' (μ t' σ'') := ⟨κ', t', σ'', s2, hst, h3, h4, rfl⟩
    refine ⟨⟨_, hin⟩, ?_⟩
    have := least_le hin
    show least (Inv a' w') < least (Inv a1 w1)
    omega
  all_goals exact ⟨κ', _, t', σ', h1, i2.trans h2, h3, h4, h5⟩
end rules

/-! ### regions -/
def onr (k : AV → AH → Prop) (p : AV → AH → Prop) : AEnd → AH → Prop := fun e σ => match e with
  | .ret v => k v σ
  | .pan v => p v σ
def gslot (ops : Array Oper) (j : Nat) : Option Nat := (ops[j]?).bind (·.dst)
theorem set_self {t : List AV} {s : Nat} {x : AV} (h : t.getD s .any = x) : t.set s x = t := by
  apply List.ext_getElem?
  intro i
  rw [List.getElem?_set]
  split
  · rename_i e
    subst e
    split
    · rename_i hl; rw [← h]; simp [List.getD, hl]
    · rename_i hl; rw [List.getElem?_eq_none (by omega)]
  · rfl
theorem undefR (κ : Kap) : VR κ (.tup []) undef := by
  have : VR κ (.tup []) (.tuple ([] : List Value).toArray) := .tup rfl (fun i hi => absurd hi (Nat.not_lt_zero i))
  exact this
end Go.Proofs.Ytjfdgijgkbojnaa.E
