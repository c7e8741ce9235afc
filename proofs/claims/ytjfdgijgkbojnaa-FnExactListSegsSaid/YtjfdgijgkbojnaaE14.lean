/- The engine, part 14: code. -/
import Derived.Test.YtjfdgijgkbojnaaE13
import Derived.Tactics
namespace Go.Proofs.Ytjfdgijgkbojnaa.E
open Go Go.RowKit

inductive AX where
  | normal
  | exit (id : Nat)
  | ret
  | pan (v : AV)
def ExR (κ : Kap) : AX → Exit → Prop
  | .normal, .normal => True
  | .exit i, .exit j => i = j
  | .ret, .ret => True
  | .pan a, .panic ch => ∃ v, ch = [{ v := v, recovered := false }] ∧ VR κ a v
  | _, _ => False
abbrev QT := AX → List AV → AH → Prop
def PostR (κ : Kap) (σ : AH) (w : World) (Q : QT) : Exit → Act → World → Prop := fun e a w' =>
  ∃ κ' x t' σ', Q x t' σ' ∧ Stp κ σ w κ' σ' w' ∧ EnvR κ' t' a.tmps ∧ a.defers = [] ∧ ExR κ' x e
theorem PostR.mono {κ κ' : Kap} {σ σ' : AH} {w w' : World} {Q Q' : QT} (hs : Stp κ σ w κ' σ' w') (hq : ∀ x t s, Q x t s → Q' x t s) {e : Exit} {a : Act} {w'' : World} (h : PostR κ' σ' w' Q e a w'') : PostR κ σ w Q' e a w'' := by
  obtain ⟨κ2, x, t', σ2, h1, h2, h3, h4, h5⟩ := h
  exact ⟨κ2, x, t', σ2, hq _ _ _ h1, hs.trans h2, h3, h4, h5⟩
def swp (P : Program) (c : Code) (Q : QT) (t : List AV) (σ : AH) : Prop :=
  ∀ κ w (a : Act), Rel κ σ w → EnvR κ t a.tmps → a.defers = [] → c.wp P (PostR κ σ w Q) a w

def thn (n : List AV → AH → Prop) (Q : QT) : QT := fun x t σ => match x with
  | .normal => n t σ
  | x => Q x t σ
def inb (id : Nat) (Q : QT) : QT := fun x t σ => match x with
  | .exit j => match Nat.beq j id with | true => Q .normal t σ | false => Q (.exit j) t σ
  | x => Q x t σ
/-- Rounds, by what holds of them and a measure. -/
def lp {X : Type} (F : (X → AH → Prop) → X → AH → Prop) (x : X) (σ : AH) : Prop :=
  ∃ (I : X → AH → Prop) (μ : X → AH → Nat), I x σ ∧ ∀ x σ, I x σ → F (fun x' σ' => ∃ σ'', AH.Sub σ'' σ' ∧ I x' σ'' ∧ μ x' σ'' < μ x σ) x σ
/-- The rounds of a loop, told of fewer variables. -/
theorem lp_eq {X : Type} {F : (List AV → AH → Prop) → List AV → AH → Prop} {F' : (X → AH → Prop) → X → AH → Prop} (emb : X → List AV) (un : List AV → X) (hun : ∀ x, un (emb x) = x)
    (h : ∀ R x σ, F R (emb x) σ = F' (fun x' σ' => R (emb x') σ') x σ) (x : X) (σ : AH) : lp F (emb x) σ = lp F' x σ := by
  apply propext
  constructor
  · rintro ⟨I, μ, hI, hr⟩
    refine ⟨fun x σ => I (emb x) σ, fun x σ => μ (emb x) σ, hI, fun x σ hx => ?_⟩
    have := hr (emb x) σ hx
    rw [h] at this; exact this
  · rintro ⟨I, μ, hI, hr⟩
    refine ⟨fun t σ => t = emb (un t) ∧ I (un t) σ, fun t σ => μ (un t) σ, ⟨by rw [hun], by rw [hun]; exact hI⟩, fun t σ ht => ?_⟩
    obtain ⟨e, hx⟩ := ht
    have := hr (un t) σ hx
    rw [e, h]
    simp only [hun, true_and]
    exact this

section rules
variable {P : Program} {Q : QT} {t : List AV} {σ : AH}
theorem swp.mono {c : Code} {Q' : QT} (h : swp P c Q t σ) (hq : ∀ x t s, Q x t s → Q' x t s) : swp P c Q' t σ :=
  fun κ w a hr he hd => Code.wp_mono (fun _ _ _ hp => PostR.mono (.refl hr) hq hp) (h κ w a hr he hd)
theorem swp_skip (h : Q .normal t σ) : swp P .skip Q t σ :=
  fun κ _ _ hr he hd => wp_skip ⟨κ, .normal, t, σ, h, .refl hr, he, hd, trivial⟩
theorem swp_ret (h : Q .ret t σ) : swp P .ret Q t σ :=
  fun κ _ _ hr he hd => wp_ret ⟨κ, .ret, t, σ, h, .refl hr, he, hd, trivial⟩
theorem swp_exit {id : Nat} (h : Q (.exit id) t σ) : swp P (.exit id) Q t σ :=
  fun κ _ _ hr he hd => wp_exit ⟨κ, .exit id, t, σ, h, .refl hr, he, hd, rfl⟩
theorem swp_seq {x y : Code} (h : swp P x (thn (fun t σ => swp P y Q t σ) Q) t σ) : swp P (.seq x y) Q t σ := by
  intro κ w a hr he hd
  refine wp_seq (Code.wp_mono ?_ (h κ w a hr he hd))
  rintro e a' w' ⟨κ', z, t', σ', h1, h2, h3, h4, h5⟩
  cases e <;> cases z <;> try exact h5.elim
  · exact Code.wp_mono (fun _ _ _ hp => PostR.mono h2 (fun _ _ _ h => h) hp) (h1 κ' w' a' h2.rel h3 h4)
  all_goals exact ⟨κ', _, t', σ', h1, h2, h3, h4, h5⟩
theorem swp_cond {c : Operand} {x y : Code} (h : apick (aeval t c) (swp P x Q t σ) (swp P y Q t σ)) : swp P (.cond c x y) Q t σ := by
  intro κ w a hr he hd
  unfold apick at h
  split at h
  case h_2 => exact h.elim
  rename_i b hb
  have hv := he.eval c
  rw [hb] at hv
  generalize hc : a.eval c = cv at hv
  cases hv
  refine wp_cond hc ?_
  cases b
  · exact h κ w a hr he hd
  · exact h κ w a hr he hd
theorem swp_block {id : Nat} {c : Code} (h : swp P c (inb id Q) t σ) : swp P (.block id c) Q t σ := by
  intro κ w a hr he hd
  refine wp_block (Code.wp_mono ?_ (h κ w a hr he hd))
  rintro e a' w' ⟨κ', z, t', σ', h1, h2, h3, h4, h5⟩
  cases e <;> cases z <;> try exact h5.elim
  · exact ⟨κ', _, t', σ', h1, h2, h3, h4, h5⟩
  · rename_i i j
    obtain rfl : j = i := h5
    by_cases c : j = id
    · have hb : Nat.beq j id = true := by rw [c]; exact Nat.beq_refl id
      simp only [Exit.inBlock, c, if_true]
      simp only [inb, hb] at h1
      exact ⟨κ', .normal, t', σ', h1, h2, h3, h4, trivial⟩
    · have hb : Nat.beq j id = false := by
        cases hh : Nat.beq j id with
        | false => rfl
        | true => exact absurd (Nat.eq_of_beq_eq_true hh) c
      simp only [Exit.inBlock, c, if_false]
      simp only [inb, hb] at h1
      exact ⟨κ', .exit j, t', σ', h1, h2, h3, h4, rfl⟩
  all_goals exact ⟨κ', _, t', σ', h1, h2, h3, h4, h5⟩

theorem exists_min {S : Nat → Prop} (h : ∃ n, S n) : ∃ m, S m ∧ ∀ k, S k → m ≤ k := by
  obtain ⟨n, hn⟩ := h
  induction n using Nat.strongRecOn with
  | _ n ih =>
    by_cases c : ∃ k, k < n ∧ S k
    · obtain ⟨k, hk, hs⟩ := c; exact ih k hk hs
    · refine ⟨n, hn, fun k hs => ?_⟩
      rcases Nat.lt_or_ge k n with h | h
      · exact absurd ⟨k, h, hs⟩ c
      · exact h
open Classical in
noncomputable def least (S : Nat → Prop) : Nat := if h : ∃ n, S n then Classical.choose (exists_min h) else 0
theorem least_mem {S : Nat → Prop} (h : ∃ n, S n) : S (least S) := by
  unfold least; rw [dif_pos h]; exact (Classical.choose_spec (exists_min h)).1
theorem least_le {S : Nat → Prop} {n : Nat} (h : S n) : least S ≤ n := by
  unfold least; rw [dif_pos ⟨n, h⟩]; exact (Classical.choose_spec (exists_min ⟨n, h⟩)).2 n h
theorem swp_loop {body : Code} (h : lp (fun R t σ => swp P body (thn R Q) t σ) t σ) : swp P (.loop body) Q t σ := by
  obtain ⟨I, μ, hI, hround⟩ := h
  intro κ w a hr he hd
  let Inv : Act → World → Nat → Prop := fun a' w' n => ∃ κ' t' σ', I t' σ' ∧ Stp κ σ w κ' σ' w' ∧ EnvR κ' t' a'.tmps ∧ a'.defers = [] ∧ μ t' σ' = n
  refine wp_loop (fun a' w' => ∃ n, Inv a' w' n) (fun a' w' => least (Inv a' w')) ⟨_, κ, t, σ, hI, .refl hr, he, hd, rfl⟩ ?_
  intro a1 w1 hinv
  obtain ⟨κ1, t1, σ1, i1, i2, i3, i4, i5⟩ := least_mem hinv
  have := hround t1 σ1 i1 κ1 w1 a1 i2.rel i3 i4
  refine Code.wp_mono ?_ this
  rintro e a' w' ⟨κ', z, t', σ', h1, h2, h3, h4, h5⟩
  cases e <;> cases z <;> try exact h5.elim
  · obtain ⟨σ'', s1, s2, s3⟩ := h1
    have hst := (i2.trans h2).trans (Stp.sub h2.rel s1)
    have hin : Inv a' w' (μ t' σ'') := ⟨κ', t', σ'', s2, hst, h3, h4, rfl⟩
    refine ⟨⟨_, hin⟩, ?_⟩
    have := least_le hin
    show least (Inv a' w') < least (Inv a1 w1)
    omega
  all_goals exact ⟨κ', _, t', σ', h1, i2.trans h2, h3, h4, h5⟩
end rules

/-! ### regions -/
def onr (k : AV → AH → Prop) (p : AV → AH → Prop) : AEnd → AH → Prop := fun e σ => match e with
  | .ret v => k v σ
  | .pan v => p v σ
def gslot (ops : Array Oper) (j : Nat) : Option Nat := (ops[j]?).bind (·.dst)
def aops (P : Program) (T : Tab) (ops : Array Oper) : List Oper → List AV → AH → (List AV → AH → Prop) → (AV → List AV → AH → Prop) → Prop
  | [], t, σ, K, _ => K t σ
  | o :: rest, t, σ, K, Kp => match o.guard with
    | none => aop P T o.op (aeval t) σ (onr (fun v σ' => aops P T ops rest (aput t o.dst v) σ' K Kp) (fun v σ' => Kp v t σ'))
    | some (j, want) => match gslot ops j with
      | some s => match t.getD s .any with
        | .val (.bool b) => match b, want with
          | true, true => let t1 := t.set s (.val (.bool true)); aop P T o.op (aeval t1) σ (onr (fun v σ' => aops P T ops rest (aput t1 o.dst v) σ' K Kp) (fun v σ' => Kp v t1 σ'))
          | false, false => let t1 := t.set s (.val (.bool false)); aop P T o.op (aeval t1) σ (onr (fun v σ' => aops P T ops rest (aput t1 o.dst v) σ' K Kp) (fun v σ' => Kp v t1 σ'))
          | true, false => aops P T ops rest (aput (t.set s (.val (.bool true))) o.dst (.tup [])) σ K Kp
          | false, true => aops P T ops rest (aput (t.set s (.val (.bool false))) o.dst (.tup [])) σ K Kp
        | .tup [] => aops P T ops rest (aput t o.dst (.tup [])) σ K Kp
        | _ => False
      | none => False
theorem set_self {t : List AV} {s : Nat} {x : AV} (h : t.getD s .any = x) : t.set s x = t := by
  apply List.ext_getElem?
  intro i
  rw [List.getElem?_set]
  split
  · rename_i e
    subst e
    split
    · rename_i hl; rw [← h]; simp [List.getD, hl]
    · rename_i hl; rw [List.getElem?_eq_none (by omega)]
  · rfl
theorem undefR (κ : Kap) : VR κ (.tup []) undef := by
  have : VR κ (.tup []) (.tuple ([] : List Value).toArray) := .tup rfl (fun i hi => absurd hi (Nat.not_lt_zero i))
  exact this
theorem aops_ok {P : Program} {T : Tab} (hT : TabOk P T) {ops : Array Oper} (rest : List Oper) : ∀ (t : List AV) (σ : AH) (K : List AV → AH → Prop) (Kp : AV → List AV → AH → Prop), aops P T ops rest t σ K Kp →
    ∀ κ w (a : Act), Rel κ σ w → EnvR κ t a.tmps → a.defers = [] → ∀ (Q : Exit → Act → World → Prop),
      (∀ κ' t' σ' (a' : Act) w', K t' σ' → Stp κ σ w κ' σ' w' → EnvR κ' t' a'.tmps → a'.defers = [] → Q .normal a' w') →
      (∀ κ' v u t' σ' (a' : Act) w', Kp v t' σ' → Stp κ σ w κ' σ' w' → VR κ' v u → EnvR κ' t' a'.tmps → a'.defers = [] → Q (.panic [{ v := u, recovered := false }]) a' w') →
      wpList P ops Q rest a w := by
  induction rest with
  | nil =>
    intro t σ K Kp h κ w a hr he hd Q h1 _
    exact h1 κ t σ a w h (.refl hr) he hd
  | cons o rest ih =>
    intro t σ K Kp h κ w a hr he hd Q h1 h2
    have run : ∀ t, EnvR κ t a.tmps → aop P T o.op (aeval t) σ (onr (fun v σ' => aops P T ops rest (aput t o.dst v) σ' K Kp) (fun v σ' => Kp v t σ')) →
        o.wp P a w (wpList P ops Q rest) Q := by
      intro t he hop
      refine aop_sop hT hop κ w a hr he _ _ ?_ ?_
      · intro κ' x v σ' w' hk hs hv
        refine ih (aput t o.dst x) σ' K Kp hk κ' w' (a.put o.dst v) hs.rel ((he.mono hs.ext).put o.dst hv) (by rw [defers_put, hd]) Q ?_ ?_
        · intro κ2 t2 σ2 a2 w2 g1 g2 g3 g4; exact h1 κ2 t2 σ2 a2 w2 g1 (hs.trans g2) g3 g4
        · intro κ2 v2 u2 t2 σ2 a2 w2 g1 g2 g3 g4 g5; exact h2 κ2 v2 u2 t2 σ2 a2 w2 g1 (hs.trans g2) g3 g4 g5
      · intro κ' x v σ' w' hk hs hv
        exact h2 κ' x v t σ' a w' hk hs hv (he.mono hs.ext) hd
    have skip : ∀ t, EnvR κ t a.tmps → aops P T ops rest (aput t o.dst (.tup [])) σ K Kp → wpList P ops Q rest (a.put o.dst undef) w := by
      intro t he hop
      exact ih (aput t o.dst (.tup [])) σ K Kp hop κ w (a.put o.dst undef) hr (he.put o.dst (undefR κ)) (by rw [defers_put, hd]) Q h1 h2
    unfold wpList
    simp only [aops] at h
    split at h
    · rename_i hg
      rw [if_pos (by simp [Region.wanted, hg])]
      exact .inl (run t he h)
    · rename_i j want hg
      split at h
      case h_2 => exact h.elim
      rename_i s hs
      have hslot := he.at s
      have hy : yielded ops a.tmps j = match a.tmps.getD s undef with | .bool b => some b | _ => none := by
        unfold yielded
        have : (ops[j]?).bind (·.dst) = some s := hs
        rw [this]
        simp only [Option.bind_some]
        simp only [Array.getD_eq_getD_getElem?]
        cases hh : a.tmps[s]? with
        | none => rfl
        | some v => cases v <;> rfl
      split at h
      · rename_i b hb
        rw [hb] at hslot
        generalize hv : a.tmps.getD s undef = sv at hslot hy
        cases hslot
        have hset : t.set s (.val (.bool b)) = t := set_self hb
        have hw : Region.wanted o (yielded ops a.tmps) = (b == want) := by
          simp only [Region.wanted, hg, hy]; cases b <;> cases want <;> rfl
        split at h
        · rw [hset] at h; rw [if_pos (by rw [hw]; rfl)]; exact .inl (run t he h)
        · rw [hset] at h; rw [if_pos (by rw [hw]; rfl)]; exact .inl (run t he h)
        · rw [hset] at h; rw [if_neg (by rw [hw]; decide)]; exact skip t he h
        · rw [hset] at h; rw [if_neg (by rw [hw]; decide)]; exact skip t he h
      · rename_i hb
        rw [hb] at hslot
        generalize hv : a.tmps.getD s undef = sv at hslot hy
        cases hslot
        rw [if_neg (by simp [Region.wanted, hg, hy])]
        exact skip t he h
      · exact h.elim
end Go.Proofs.Ytjfdgijgkbojnaa.E
