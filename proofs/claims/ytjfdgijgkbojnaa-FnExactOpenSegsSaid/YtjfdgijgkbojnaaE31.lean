/- The engine, part 31: code checked against syntax. -/
import Derived.Test.YtjfdgijgkbojnaaE30
set_option linter.unusedSectionVars false
namespace Go.Proofs.Ytjfdgijgkbojnaa.E
open Go Go.RowKit
variable [Lam]

inductive AX0 where
  | normal
  | exit (id : Nat)
  | ret
def AX0.up : AX0 → AX
  | .normal => .normal
  | .exit id => .exit id
  | .ret => .ret
abbrev KS := AX0 → List SV → Nat → Nat → Sx → Bool
def blankS : List SV → List SV
  | [] => []
  | _ :: t => .any :: blankS t
def expS : List Nat → List SV → List SV
  | [], b => b
  | i :: l, b => expS l (b.set i (.var l.length))
def sameLenS : List SV → List SV → Bool
  | [], [] => true
  | _ :: a, _ :: b => sameLenS a b
  | _, _ => false
/-- A jump to where ways meet, or to a round's beginning. -/
def jumpOk (ls : List Nat) (m : Nat) (t t' : List SV) (d' m' : Nat) (x' : Sx) : Bool := match x' with
  | .jump j xs => Nat.beq (j + m + 1) m' && sameLenS t' t && eqvs d' (ls.map fun i => t'.getD i .any) xs
  | _ => false
def onN (n : List SV → Nat → Nat → Sx → Bool) (K : KS) : KS := fun ax t d m x => match ax with
  | .normal => n t d m x
  | ax => K ax t d m x
def onB (id : Nat) (K : KS) : KS := fun ax t d m x => match ax with
  | .exit j => match Nat.beq j id with | true => K .normal t d m x | false => K (.exit j) t d m x
  | ax => K ax t d m x
def isJn (p : Nat) (x : Sx) : Option (List Nat × Sx × Sx) := match x with
  | .jn q ls r k => match Nat.beq q p with | true => some (ls, r, k) | false => none
  | _ => none
/-- The end of a round of a range over a function. -/
def endOk (m : Nat) (x : Sx) : Bool := match x with
  | .jump j _ => Nat.beq (j + 1) m
  | _ => false
def okC (T : Tab) : Nat → Code → List SV → Nat → Nat → KS → Sx → Bool
  | _, .skip, t, d, m, K, x => K .normal t d m x
  | _, .ret, t, d, m, K, x => K .ret t d m x
  | _, .exit id, t, d, m, K, x => K (.exit id) t d m x
  | _, .region _ ops draw, t, d, m, K, x => match draw with
    | false => okOps T ops (fun t d x => K .normal t d m x) ops.toList t d x
    | true => match x with
      | .ord C ancs k => chk T ops ancs C && okCw T ops ancs (fun t d x => K .normal t d m x) C [] t d k
      | _ => false
  | p, .seq a b, t, d, m, K, x => match isJn (2 * p + 1) x with
    | some (ls, r, k) => okC T (2 * p) a t d (m + 1) (onN (fun t' d' m' x' => jumpOk ls m t t' d' m' x') K) k && okC T (2 * p + 1) b (expS ls (blankS t)) ls.length m K r
    | none => okC T (2 * p) a t d m (onN (fun t d m x => okC T (2 * p + 1) b t d m K x) K) x
  | p, .cond c a b, t, d, m, K, x => match evS t c with
    | .cst (.bool true) => okC T (2 * p) a t d m K x
    | .cst (.bool false) => okC T (2 * p + 1) b t d m K x
    | s => match x with
      | .apick s' xa xb => eqv d s s' && okC T (2 * p) a t d m K xa && okC T (2 * p + 1) b t d m K xb
      | _ => false
  | p, .block id body, t, d, m, K, x => okC T (2 * p) body t d m (onB id K) x
  | p, .loop body, t, d, m, K, x => match x with
    | .lp ls xb xs => eqvs d (ls.map fun i => t.getD i .any) xs && okC T (2 * p) body (expS ls (blankS t)) ls.length (m + 1) (onN (fun t' d' m' x' => jumpOk ls m t t' d' m' x') K) xb
    | _ => false
  | p, .rangeFunc g ps as body, t, d, m, K, x => match ps.toList, x with
    | [q], .rng s xb k => eqv d (evS t g) s && okC T (2 * p) as (t.set q (.var d)) (d + 1) 1 (onN (fun t' d' m' x' => okC T (2 * p + 1) body t' d' m' (onN (fun _ _ m2 x2 => endOk m2 x2) fun _ _ _ _ _ => false) x') fun _ _ _ _ _ => false) xb && K .normal t d m k
    | _, _ => false
  | _, _, _, _, _, _, _ => false

theorem tupL_length : ∀ (ls : List Nat) (x : Tup ls), (tupL ls x).length = ls.length
  | [], _ => rfl
  | _ :: l, x => by simp [tupL, tupL_length l x.2]
theorem expS_map : ∀ (l : List Nat) (pre : List AV) (x : Tup l) (b : List SV), (expS l b).map (dv (pre ++ tupL l x)) = expT l (b.map (dv (pre ++ tupL l x))) x
  | [], _, _, _ => rfl
  | i :: l, pre, x, b => by
    have e : pre ++ tupL (i :: l) x = (pre ++ [x.1]) ++ tupL l x.2 := by simp [tupL]
    rw [e]
    show (expS l (b.set i (.var l.length))).map _ = expT l ((b.map _).set i x.1) x.2
    rw [expS_map l (pre ++ [x.1]) x.2, List.map_set]
    congr 2
    simp only [dv, List.length_append, tupL_length, List.length_cons, List.length_nil]
    rw [show pre.length + (0 + 1) + l.length - 1 - l.length = pre.length by omega]
    simp [List.getD]
theorem blankS_map (ρ : List AV) : ∀ (t : List SV), (blankS t).map (dv ρ) = blank (t.map (dv ρ))
  | [] => rfl
  | _ :: t => by simp only [blankS, List.map_cons, blank, blankS_map ρ t]; rfl
theorem blankS_wf (d : Nat) : ∀ (t : List SV), WF d (blankS t)
  | [] => fun _ h => by cases h
  | _ :: t => fun s h => by
    rcases List.mem_cons.mp h with rfl | h
    · trivial
    · exact blankS_wf d t s h
theorem expS_wf {d : Nat} : ∀ (l : List Nat) (b : List SV), WF d b → l.length ≤ d → WF d (expS l b)
  | [], _, h, _ => h
  | i :: l, b, h, hl => expS_wf l _ (h.set i (show l.length < d by simp at hl; omega)) (by simp at hl; omega)
theorem lTup_map (A : List AV) : ∀ (ls : List Nat), lTup ls (ls.map fun i => A.getD i .any) = compT A ls
  | [] => rfl
  | i :: l => by
    show (_, lTup l _) = (_, compT A l)
    rw [← lTup_map A l]; rfl
theorem sameLenS_eq : ∀ {a b : List SV}, sameLenS a b = true → a.length = b.length
  | [], [], _ => rfl
  | _ :: a, _ :: b, h => by simp [sameLenS_eq (a := a) (b := b) h]
theorem sameLen_of : ∀ {a b : List AV}, a.length = b.length → sameLen a b = true
  | [], [], _ => rfl
  | _ :: a, _ :: b, h => by simp only [sameLen]; exact sameLen_of (by simpa using h)

section
variable {P : Program} {T : Tab} {R : AEnd → AH → Prop}
/-- What a jump does. -/
theorem jump_ok {ls : List Nat} {t t' : List SV} {ρ' : List AV} {ks ks' pre : List Kont} {kont : Kont} {x' : Sx} {σ : AH} (h : jumpOk ls ks.length t t' ρ'.length ks'.length x' = true) (hks : ks' = pre ++ kont :: ks) (hd : den P T R x' ρ' ks' σ) :
    t'.length = t.length ∧ kont (ls.map fun i => (t'.map (dv ρ')).getD i .any) σ := by
  unfold jumpOk at h
  split at h
  case h_2 => cases h
  rename_i j xs
  simp only [Bool.and_eq_true] at h
  obtain ⟨⟨h1, h2⟩, h3⟩ := h
  refine ⟨sameLenS_eq h2, ?_⟩
  have hj := Nat.eq_of_beq_eq_true h1
  simp only [den] at hd
  subst hks
  have : j = pre.length := by simp at hj; omega
  subst this
  rw [show (pre ++ kont :: ks).getD pre.length (fun _ _ => False) = kont by simp [List.getD]] at hd
  rw [eqvs_ok h3, List.map_map] at hd
  rw [show (ls.map fun i => (t'.map (dv ρ')).getD i .any) = ls.map (dv ρ' ∘ fun i => t'.getD i .any) from List.map_congr_left fun i _ => map_getD ρ' t' i]
  exact hd
theorem okC_ok (hT : TabOk P T) (c : Code) : ∀ (R : AEnd → AH → Prop) (p : Nat) (t : List SV) (ρ : List AV) (K : KS) (x : Sx) (Q : QT) (ks : List Kont) (σ : AH), okC T p c t ρ.length ks.length K x = true → WF ρ.length t → den P T R x ρ ks σ →
    (∀ ax t' ρ' ks' x' σ', (∃ pre, ks' = pre ++ ks) → K ax t' ρ'.length ks'.length x' = true → WF ρ'.length t' → den P T R x' ρ' ks' σ' → Q ax.up (t'.map (dv ρ')) σ') → (∀ v a σ, apan v σ R → Q (.pan v) a σ) →
    swp P c Q (t.map (dv ρ)) σ := by
  induction c with
  | skip => intro R p t ρ K x Q ks σ h hw hd hK hP; exact swp_skip (hK .normal t ρ ks x σ ⟨[], rfl⟩ h hw hd)
  | ret => intro R p t ρ K x Q ks σ h hw hd hK hP; exact swp_ret (hK .ret t ρ ks x σ ⟨[], rfl⟩ h hw hd)
  | exit id => intro R p t ρ K x Q ks σ h hw hd hK hP; exact swp_exit (hK (.exit id) t ρ ks x σ ⟨[], rfl⟩ h hw hd)
  | region id ops draw =>
    intro R p t ρ K x Q ks σ h hw hd hK hP
    have hKb : ∀ a σ, Goes P T R ks (fun t d x => K .normal t d ks.length x) a σ → Q .normal a σ := by
      rintro a σ ⟨ρ', t', x', g1, g2, rfl, g3⟩
      exact hK .normal t' ρ' ks x' σ ⟨[], rfl⟩ g1 g2 g3
    cases draw with
    | false =>
      have hb := okOps_ok (Kp := fun v a σ => Q (.pan v) a σ) hKb hP ops.toList 0 _ σ ⟨ρ, t, x, h, hw, rfl, hd⟩
      intro r m n0 κ w a hr he hde
      refine wpIn_region_list (bops_ok hT [] ops.toList 0 _ σ _ _ hb a.defers r m κ w a hr he rfl _ ?_ ?_)
      · intro κ' t' σ' a' w' hk hs he' hd'; exact ⟨κ', .normal, t', σ', hk, hs, he', hde.stp hr hs hd', trivial⟩
      · intro κ' v u t' σ' a' w' hk hs hv he' hd'; exact ⟨κ', .pan v, t', σ', hk, hs, he', hde.stp hr hs hd', u, rfl, hv⟩
    | true =>
      simp only [okC] at h
      split at h
      case h_2 => cases h
      simp only [Bool.and_eq_true] at h
      have hb := okCw_ok (Kp := fun v σ => ∀ a, Q (.pan v) a σ) hKb (fun v σ g a => hP v a σ g) _ [] _ σ ⟨ρ, t, _, h.2, hw, rfl, hd⟩
      intro r m n0 κ w a hr he hde
      refine cw_ok hT h.1 hr he rfl ?_ ?_ hb
      · intro κ' t' σ' a' w' hk hs he' hd'; exact ⟨κ', .normal, t', σ', hk, hs, he', hde.stp hr hs hd', trivial⟩
      · intro κ' v u t' σ' a' w' hk hs hv he' hd'; exact ⟨κ', .pan v, t', σ', hk t', hs, he', hde.stp hr hs hd', u, rfl, hv⟩
  | seq a b iha ihb =>
    intro R p t ρ K x Q ks σ h hw hd hK hP
    simp only [okC] at h
    split at h
    · rename_i ls r k hj
      unfold isJn at hj
      split at hj
      case h_2 => cases hj
      split at hj
      case h_2 => cases hj
      cases hj
      simp only [Bool.and_eq_true] at h
      obtain ⟨h1, h2⟩ := h
      simp only [den, jn] at hd
      refine swp_seq (iha R (2 * p) t ρ _ k _ (_ :: ks) σ h1 hw hd ?_ (fun v a σ g => hP v a σ g))
      rintro ax t' ρ' ks' x' σ' ⟨pre, hpre⟩ g1 g2 g3
      cases ax with
      | normal =>
        obtain ⟨l1, l2⟩ := jump_ok g1 hpre g3
        simp only [lTup_map] at l2
        have hb := ihb R (2 * p + 1) (expS ls (blankS t)) (tupL ls (compT (t'.map (dv ρ')) ls)) K r Q ks σ' (by rw [tupL_length]; exact h2) (by rw [tupL_length]; exact expS_wf ls _ (blankS_wf _ t) (Nat.le_refl _)) l2 hK hP
        have e := expS_map ls [] (compT (t'.map (dv ρ')) ls) (blankS t)
        simp only [List.nil_append] at e
        rw [e, blankS_map] at hb
        intro r m n0 κ w a hr he hde
        refine hb r m n0 κ w a hr (expT_ok he ls _ (blank_ok ?_)) hde
        have := he.size
        simp only [List.length_map] at this ⊢; omega
      | exit id => exact hK (.exit id) t' ρ' ks' x' σ' ⟨pre ++ [_], by rw [hpre, List.append_assoc]; rfl⟩ g1 g2 g3
      | ret => exact hK .ret t' ρ' ks' x' σ' ⟨pre ++ [_], by rw [hpre, List.append_assoc]; rfl⟩ g1 g2 g3
    · refine swp_seq (iha R (2 * p) t ρ _ x _ ks σ h hw hd ?_ (fun v a σ g => hP v a σ g))
      rintro ax t' ρ' ks' x' σ' ⟨pre, hpre⟩ g1 g2 g3
      cases ax with
      | normal =>
        refine ihb R (2 * p + 1) t' ρ' K x' Q ks' σ' g1 g2 g3 ?_ hP
        rintro ax t2 ρ2 ks2 x2 σ2 ⟨pre2, hpre2⟩ q1 q2 q3
        exact hK ax t2 ρ2 ks2 x2 σ2 ⟨pre2 ++ pre, by rw [hpre2, hpre, List.append_assoc]⟩ q1 q2 q3
      | exit id => exact hK (.exit id) t' ρ' ks' x' σ' ⟨pre, hpre⟩ g1 g2 g3
      | ret => exact hK .ret t' ρ' ks' x' σ' ⟨pre, hpre⟩ g1 g2 g3
  | cond c a b iha ihb =>
    intro R p t ρ K x Q ks σ h hw hd hK hP
    refine swp_cond ?_
    rw [aeval_map]
    simp only [okC] at h
    split at h
    · rename_i e; rw [e]; exact iha R _ t ρ K x Q ks σ h hw hd hK hP
    · rename_i e; rw [e]; exact ihb R _ t ρ K x Q ks σ h hw hd hK hP
    · split at h
      case h_2 => cases h
      simp only [Bool.and_eq_true] at h
      obtain ⟨⟨h1, h2⟩, h3⟩ := h
      rw [← eqv_ok h1]
      simp only [den] at hd
      unfold apick at hd ⊢
      split at hd
      case h_2 => exact hd.elim
      rename_i b' hb
      cases b'
      · exact ihb R _ t ρ K _ Q ks σ h3 hw hd hK hP
      · exact iha R _ t ρ K _ Q ks σ h2 hw hd hK hP
  | block id body ih =>
    intro R p t ρ K x Q ks σ h hw hd hK hP
    refine swp_block (ih R (2 * p) t ρ _ x _ ks σ h hw hd ?_ (fun v a σ g => hP v a σ g))
    intro ax t' ρ' ks' x' σ' hpre g1 g2 g3
    cases ax with
    | normal => exact hK .normal t' ρ' ks' x' σ' hpre g1 g2 g3
    | ret => exact hK .ret t' ρ' ks' x' σ' hpre g1 g2 g3
    | exit j =>
      simp only [onB] at g1
      show inb id Q (.exit j) _ _
      simp only [inb]
      split at g1
      · rename_i e; rw [e]; exact hK .normal t' ρ' ks' x' σ' hpre g1 g2 g3
      · rename_i e; rw [e]; exact hK (.exit j) t' ρ' ks' x' σ' hpre g1 g2 g3
  | loop body ih =>
    intro R p t ρ K x Q ks σ h hw hd hK hP
    simp only [okC] at h
    split at h
    case h_2 => cases h
    rename_i ls xb xs
    simp only [Bool.and_eq_true] at h
    obtain ⟨h1, h2⟩ := h
    simp only [den] at hd
    have hinit : lTup ls (xs.map (di ρ)) = compT (t.map (dv ρ)) ls := by
      rw [eqvs_ok h1, List.map_map, ← lTup_map]
      congr 1
      exact List.map_congr_left fun i _ => (map_getD ρ t i).symm
    rw [hinit] at hd
    refine swp_loopT ls (lp_mono (fun RR X σ hb => ?_) hd)
    have e := expS_map ls [] X (blankS t)
    simp only [List.nil_append] at e
    have hlen : (blank (t.map (dv ρ))) = blank (t.map (dv (tupL ls X))) := by
      have : ∀ (u : List SV) (f g : SV → AV), blank (u.map f) = blank (u.map g) := by
        intro u f g
        induction u with
        | nil => rfl
        | cons s u ihu => simp only [List.map_cons, blank, ihu]
      exact this _ _ _
    rw [hlen, ← blankS_map, ← e]
    refine ih R (2 * p) (expS ls (blankS t)) (tupL ls X) _ xb _ (_ :: ks) σ (by rw [tupL_length]; exact h2) (by rw [tupL_length]; exact expS_wf ls _ (blankS_wf _ t) (Nat.le_refl _)) hb ?_ (fun v a σ g => hP v a σ g)
    rintro ax t' ρ' ks' x' σ' ⟨pre, hpre⟩ g1 g2 g3
    cases ax with
    | normal =>
      obtain ⟨l1, l2⟩ := jump_ok g1 hpre g3
      simp only [lTup_map] at l2
      show (match sameLen _ _ with | true => _ | false => False)
      rw [sameLen_of (by simpa using l1)]
      exact l2
    | exit id => exact hK (.exit id) t' ρ' ks' x' σ' ⟨pre ++ [_], by rw [hpre, List.append_assoc]; rfl⟩ g1 g2 g3
    | ret => exact hK .ret t' ρ' ks' x' σ' ⟨pre ++ [_], by rw [hpre, List.append_assoc]; rfl⟩ g1 g2 g3
  | rangeFunc g ps as body iha ihb =>
    intro R p t ρ K x Q ks σ h hw hd hK hP
    simp only [okC] at h
    split at h
    case h_2 => cases h
    rename_i q s xb k hq
    obtain rfl : ps = #[q] := by rw [← Array.toList_inj, hq]
    simp only [Bool.and_eq_true] at h
    obtain ⟨⟨h1, h2⟩, h3⟩ := h
    simp only [den] at hd
    rw [eqv_ok h1, ← aeval_map] at hd
    refine swp_range (arange_mono hd ?_) (fun σ' g => hK .normal t ρ ks _ σ' ⟨[], rfl⟩ h3 hw g) (fun v σ' g => hP v _ σ' g)
    intro x σ1 N hb
    have e : (t.map (dv ρ)).set q x = (t.set q (.var ρ.length)).map (dv (x :: ρ)) := by
      rw [List.map_set, dv_top]
      congr 1
      exact List.map_congr_left fun u hu => (dv_push x (hw u hu)).symm
    rw [e]
    have hw2 : WF (x :: ρ).length (t.set q (.var ρ.length)) := (hw.mono (Nat.le_succ _)).set q (Nat.lt_succ_self _)
    refine iha (fun _ _ => False) (2 * p) _ (x :: ρ) _ xb _ [fun _ σ => N σ] σ1 h2 hw2 hb ?_ (fun v a σ g => by obtain ⟨_, _, _, g⟩ := g; exact g)
    intro ax t' ρ' ks' x' σ' hpre g1 g2 g3
    cases ax with
    | normal =>
      refine ihb (fun _ _ => False) (2 * p + 1) t' ρ' _ x' _ ks' σ' g1 g2 g3 ?_ (fun v a σ g => by obtain ⟨_, _, _, g⟩ := g; exact g)
      intro ax t2 ρ2 ks2 x2 σ2 hpre2 q1 q2 q3
      cases ax with
      | normal =>
        obtain ⟨pre, rfl⟩ := hpre
        obtain ⟨pre2, rfl⟩ := hpre2
        simp only [onN, endOk] at q1
        split at q1
        case h_2 => cases q1
        rename_i j xs
        have hj := Nat.eq_of_beq_eq_true q1
        simp only [den] at q3
        have : j = (pre2 ++ pre).length := by simp at hj ⊢; omega
        subst this
        have e3 : (pre2 ++ (pre ++ [fun (_ : List AV) σ => N σ])).getD (pre2 ++ pre).length (fun _ _ => False) = (fun _ σ => N σ) := by
          rw [← List.append_assoc]; simp [List.getD]
        rw [e3] at q3
        exact q3
      | exit id => cases q1
      | ret => cases q1
    | exit id => cases g1
    | ret => cases g1
  | _ => intro R p t ρ K x Q ks σ h; simp [okC] at h
end
end Go.Proofs.Ytjfdgijgkbojnaa.E
