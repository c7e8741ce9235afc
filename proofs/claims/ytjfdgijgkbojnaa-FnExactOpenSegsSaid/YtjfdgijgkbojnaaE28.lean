/- The engine, part 28: operations with guards, one after the other, checked against syntax. -/
import Derived.Test.YtjfdgijgkbojnaaE27
set_option linter.unusedSectionVars false
namespace Go.Proofs.Ytjfdgijgkbojnaa.E
open Go Go.RowKit
variable [Lam]

def okSilV (T : Tab) (o : Oper) (t : List SV) (d : Nat) (x : Sx) (K : List SV → Nat → Sx → Bool) : Bool := match symE T o.op (evS t) with
  | some (.ret s) => K (sput t o.dst s) d x
  | some e => match x with
    | .og e' k => eqE d e e' && K (sput t o.dst (.var d)) (d + 1) k
    | _ => false
  | none => false
def okSilB (T : Tab) (o : Oper) (t : List SV) (d : Nat) (x : Sx) (K : List SV → Nat → Sx → Bool) : Bool := okSilV T o t d x K || match x with
  | .cmp op ty a b k => (match o.op with
    | .binOp op' ty' a' b' _ => decide (op' = op) && Nat.beq ty' ty && !isInt T ty' && !isStr T ty' && eqv d (evS t a') a && eqv d (evS t b') b
    | _ => false) && K (sput t o.dst (.var d)) (d + 1) k
  | .cnv s e a k => (match o.op with
    | .convert s' e' a' => Nat.beq s' s && Nat.beq e' e && eqv d (evS t a') a
    | _ => false) && K (sput t o.dst (.var d)) (d + 1) k
  | _ => false

inductive Gd where
  | free
  | go
  | skip
  | ask (b : SV) (want g : Bool) (s : Nat)
  | bad
def gst (ops : Array Oper) (o : Oper) (t : List SV) : Gd := match o.guard with
  | none => .free
  | some (j, want) => match gslot ops j with
    | none => .bad
    | some s => match t.getD s .any with
      | .cst (.bool b) => match eqB b want with | true => .go | false => .skip
      | .unit => match guarded ops j with | true => .skip | false => .bad
      | b => .ask b want (guarded ops j) s
/-- A guard that is asked, of an operation that turns the world. -/
def okAsk (T : Tab) (o : Oper) (t : List SV) (d : Nat) (b : SV) (want g : Bool) (s : Nat) (x : Sx) (Kr Ks : List SV → Nat → Sx → Bool) : Bool := match x with
  | .gpick b' xa xb xc => eqv d b b' &&
    (match want with | true => okLoud T o (t.set s (.cst (.bool true))) d xa Kr | false => Ks (sput (t.set s (.cst (.bool true))) o.dst .unit) d xa) &&
    (match want with | true => Ks (sput (t.set s (.cst (.bool false))) o.dst .unit) d xb | false => okLoud T o (t.set s (.cst (.bool false))) d xb Kr) &&
    (match g with | true => Ks (sput (t.set s .unit) o.dst .unit) d xc | false => match xc with | .no => true | _ => false)
  | _ => false
def okAskV (T : Tab) (o : Oper) (t : List SV) (d : Nat) (b : SV) (want g : Bool) (x : Sx) (K : List SV → Nat → Sx → Bool) : Bool := match symE T o.op (evS t), x with
  | some e, .gog b' w' g' e' k => eqv d b b' && eqB want w' && eqB g g' && eqE d e e' && K (sput t o.dst (.var d)) (d + 1) k
  | _, _ => false
def okOps (T : Tab) (ops : Array Oper) (K : List SV → Nat → Sx → Bool) : List Oper → List SV → Nat → Sx → Bool
  | [], t, d, x => K t d x
  | o :: rest, t, d, x => match silent o.op, gst ops o t with
    | true, .free => okSilB T o t d x (okOps T ops K rest)
    | true, .go => okSilV T o t d x (okOps T ops K rest)
    | true, .ask b want g _ => okAskV T o t d b want g x (okOps T ops K rest)
    | false, .free => okLoud T o t d x (okOps T ops K rest)
    | false, .go => okLoud T o t d x (okOps T ops K rest)
    | false, .ask b want g s => okAsk T o t d b want g s x (okOps T ops K rest) (okOps T ops K rest)
    | _, .skip => okOps T ops K rest (sput t o.dst .unit) d x
    | _, .bad => false

theorem symE_ret {T : Tab} {o : Op} {ev : Operand → SV} {s : SV} (h : symE T o ev = some (.ret s)) : ∃ x, s = ev x := by
  unfold symE at h
  split at h
  · cases h; exact ⟨_, rfl⟩
  · cases h; exact ⟨_, rfl⟩
  all_goals (repeat' split at h) <;> cases h
section
variable {P : Program} {T : Tab} {R : AEnd → AH → Prop} {ks : List Kont}
theorem okSilV_ok {o : Oper} {t : List SV} {ρ : List AV} {x : Sx} {K : List SV → Nat → Sx → Bool} {σ : AH} (h : okSilV T o t ρ.length x K = true) (hw : WF ρ.length t) (hd : den P T R x ρ ks σ) :
    og (bval T o.op (aeval (t.map (dv ρ))) σ) fun v => Goes P T R ks K (aput (t.map (dv ρ)) o.dst v) σ := by
  unfold okSilV at h
  split at h
  · rename_i s hs
    rw [← symE_ok hs (dv ρ) (aeval_map ρ t) σ]
    obtain ⟨y, rfl⟩ := symE_ret hs
    exact ⟨ρ, _, x, h, hw.put _ (hw.ev y), map_sput .., hd⟩
  · rename_i e _ he
    rw [← symE_ok he (dv ρ) (aeval_map ρ t) σ]
    split at h
    case h_2 => cases h
    simp only [Bool.and_eq_true] at h
    simp only [den] at hd
    rw [eqE_ok h.1] at hd
    exact og_mono (fun _ h => h) (fun v hv => Goes.push hw h.2 hv) hd
  · cases h
theorem okSilB_ok {o : Oper} {t : List SV} {ρ : List AV} {x : Sx} {K : List SV → Nat → Sx → Bool} {σ : AH} (h : okSilB T o t ρ.length x K = true) (hw : WF ρ.length t) (hd : den P T R x ρ ks σ) {N : List AV → AH → Prop} {Kp : AV → AH → Prop} (hN : ∀ a σ, Goes P T R ks K a σ → N a σ) :
    bop P T o.op (aeval (t.map (dv ρ))) σ (onr (fun v σ' => N (aput (t.map (dv ρ)) o.dst v) σ') Kp) := by
  unfold okSilB at h
  rw [Bool.or_eq_true] at h
  rcases h with h | h
  · obtain ⟨v, h1, h2⟩ := og_some (okSilV_ok h hw hd)
    exact bval_bop h1 (hN _ _ h2)
  split at h
  · rename_i op ty a b k
    simp only [Bool.and_eq_true] at h
    obtain ⟨h1, h2⟩ := h
    split at h1
    case h_2 => cases h1
    rename_i op' ty' a' b' _ ho
    simp only [Bool.and_eq_true, decide_eq_true_eq, Bool.not_eq_true'] at h1
    obtain ⟨⟨⟨⟨⟨e1, e2⟩, e3⟩, e4⟩, e5⟩, e6⟩ := h1
    rw [ho]
    simp only [bop, e3, e4, aeval_map]
    rw [← eqv_ok e5, ← eqv_ok e6, e1, Nat.eq_of_beq_eq_true e2]
    simp only [den] at hd
    have : ∀ (k k' : AV → Prop), (∀ v, k v → k' v) → abin T op ty (di ρ a) (di ρ b) k → abin T op ty (di ρ a) (di ρ b) k' := by
      intro k k' hk hb
      unfold abin at hb ⊢
      have hq : ∀ (f : Bool → AV), aeql T ty (di ρ a) (di ρ b) (fun b => k (f b)) → aeql T ty (di ρ a) (di ρ b) (fun b => k' (f b)) := by
        intro f hb
        unfold aeql at hb ⊢
        split at hb
        · split at hb <;> first | exact hk _ hb | exact fun b h => hk _ (hb b h) | exact fun b => hk _ (hb b) | exact hb.elim | skip
          split at hb
          · exact hk _ hb
          · exact hb.elim
        · exact hb.elim
      split at hb
      · exact og_mono (fun _ h => h) hk hb
      · exact og_mono (fun _ h => h) hk hb
      · split at hb
        · exact hq _ hb
        · exact hq (fun b => .val (.bool !b)) hb
        · exact hb.elim
    exact this _ _ (fun v hv => hN _ _ (Goes.push hw h2 hv)) hd
  · rename_i s e a k
    simp only [Bool.and_eq_true] at h
    obtain ⟨h1, h2⟩ := h
    split at h1
    case h_2 => cases h1
    rename_i s' e' a' ho
    simp only [Bool.and_eq_true] at h1
    obtain ⟨⟨e1, e2⟩, e3⟩ := h1
    rw [ho]
    simp only [bop, aop, aeval_map]
    rw [← eqv_ok e3, Nat.eq_of_beq_eq_true e1, Nat.eq_of_beq_eq_true e2]
    simp only [den] at hd
    unfold aconv at hd ⊢
    split at hd
    · split at hd
      · exact hN _ _ (Goes.push hw h2 hd)
      · exact hN _ _ (Goes.push hw h2 hd)
      · split at hd
        · split at hd
          · exact ⟨hd.1, hd.2.1, hN _ _ (Goes.push hw h2 hd.2.2)⟩
          · exact hd.elim
        · exact hd.elim
      · exact hd.elim
    · exact hd.elim
  · cases h
end
end Go.Proofs.Ytjfdgijgkbojnaa.E
