/- The engine, part 26: the syntax of what code comes to, and what it says. -/
import Derived.Test.YtjfdgijgkbojnaaE25
set_option linter.unusedSectionVars false
namespace Go.Proofs.Ytjfdgijgkbojnaa.E
open Go Go.RowKit
variable [Lam]

def eqAV (a b : AV) : Bool := match a with | .val v => eqVal v b | _ => false
theorem eqAV_ok {a b : AV} (h : eqAV a b = true) : b = a := by
  unfold eqAV at h
  split at h
  · exact eqVal_ok h
  · cases h
def eqAVs : List AV → List AV → Bool
  | [], [] => true
  | a :: x, b :: y => eqAV a b && eqAVs x y
  | _, _ => false
theorem eqAVs_ok : ∀ {x y : List AV}, eqAVs x y = true → y = x
  | [], [], _ => rfl
  | a :: x, b :: y, h => by
    simp only [eqAVs, Bool.and_eq_true] at h
    rw [eqAV_ok h.1, eqAVs_ok h.2]
def eqPl : List (Nat × Nat) → List (Nat × Nat) → Bool
  | [], [] => true
  | (a, b) :: x, (c, e) :: y => Nat.beq a c && Nat.beq b e && eqPl x y
  | _, _ => false
theorem eqPl_ok : ∀ {x y : List (Nat × Nat)}, eqPl x y = true → y = x
  | [], [], _ => rfl
  | (a, b) :: x, (c, e) :: y, h => by
    simp only [eqPl, Bool.and_eq_true] at h
    rw [Nat.eq_of_beq_eq_true h.1.1, Nat.eq_of_beq_eq_true h.1.2, eqPl_ok h.2]
def eqPs (d : Nat) : List (Nat × SV) → List (Nat × SI) → Bool
  | [], [] => true
  | (a, s) :: x, (c, i) :: y => Nat.beq a c && eqv d s i && eqPs d x y
  | _, _ => false
theorem eqPs_ok {ρ : List AV} : ∀ {x : List (Nat × SV)} {y : List (Nat × SI)}, eqPs ρ.length x y = true → (y.map fun p => (p.1, di ρ p.2)) = x.map fun p => (p.1, dv ρ p.2)
  | [], [], _ => rfl
  | (a, s) :: x, (c, i) :: y, h => by
    simp only [eqPs, Bool.and_eq_true] at h
    simp only [List.map_cons, eqv_ok h.1.2, Nat.eq_of_beq_eq_true h.1.1, eqPs_ok h.2]
def eqO (d : Nat) : Option SV → Option SI → Bool
  | none, none => true
  | some a, some b => eqv d a b
  | _, _ => false
theorem eqO_ok {ρ : List AV} {x : Option SV} {y : Option SI} (h : eqO ρ.length x y = true) : y.map (di ρ) = x.map (dv ρ) := by
  unfold eqO at h
  split at h
  · rfl
  · simp only [Option.map_some, eqv_ok h]
  · cases h
def eqE (d : Nat) (e : OE SV) (e' : OE SI) : Bool := match e, e' with
  | .ret x, .ret x' => eqv d x x'
  | .pickV c a b, .pickV c' a' b' => eqv d c c' && eqv d a a' && eqv d b b'
  | .bld zs pl ps, .bld zs' pl' ps' => eqAVs zs zs' && eqPl pl pl' && eqPs d ps ps'
  | .lod p, .lod p' => eqv d p p'
  | .lodA n p, .lodA n' p' => Nat.beq n n' && eqv d p p'
  | .anil x, .anil x' => eqv d x x'
  | .ibin op x y, .ibin op' x' y' => decide (op = op') && eqv d x x' && eqv d y y'
  | .sbin op x y, .sbin op' x' y' => decide (op = op') && eqv d x x' && eqv d y y'
  | .cmpV op t x y, .cmpV op' t' x' y' => decide (op = op') && Nat.beq t t' && eqv d x x' && eqv d y y'
  | .aun op x, .aun op' x' => decide (op = op') && eqv d x x'
  | .conv k x, .conv k' x' => eqKind k k' && eqv d x x'
  | .slc sz x lo hi mx, .slc sz' x' lo' hi' mx' => Nat.beq sz sz' && eqv d x x' && eqO d lo lo' && eqO d hi hi' && eqO d mx mx'
  | .slcStr x lo hi, .slcStr x' lo' hi' => eqv d x x' && eqO d lo lo' && eqO d hi hi'
  | .fldA o x, .fldA o' x' => Nat.beq o o' && eqv d x x'
  | .fldG o n x, .fldG o' n' x' => Nat.beq o o' && Nat.beq n n' && eqv d x x'
  | .fldV o x, .fldV o' x' => Nat.beq o o' && eqv d x x'
  | .idx sz x i, .idx sz' x' i' => Nat.beq sz sz' && eqv d x x' && eqv d i i'
  | .idxArr n sz x i, .idxArr n' sz' x' i' => Nat.beq n n' && Nat.beq sz sz' && eqv d x x' && eqv d i i'
  | .idxStr x i, .idxStr x' i' => eqv d x x' && eqv d i i'
  | .aext x i, .aext x' i' => eqv d x x' && Nat.beq i i'
  | .lenS x, .lenS x' => eqv d x x'
  | .lenStr x, .lenStr x' => eqv d x x'
  | .bslR sz z n ps, .bslR sz' z' n' ps' => Nat.beq sz sz' && eqAVs z z' && Nat.beq n n' && eqPs d ps ps'
  | .b2s x, .b2s x' => eqv d x x'
  | .amm b x y, .amm b' x' y' => (match b, b' with | true, true => true | false, false => true | _, _ => false) && eqv d x x' && eqv d y y'
  | _, _ => false
theorem eqE_ok {T : Tab} {ρ : List AV} {e : OE SV} {e' : OE SI} (h : eqE ρ.length e e' = true) (σ : AH) : dE T (di ρ) σ e' = dE T (dv ρ) σ e := by
  unfold eqE at h
  split at h <;> (try simp only [Bool.and_eq_true, decide_eq_true_eq, eqKind] at h) <;> simp only [dE]
  · rw [eqv_ok h]
  · rw [eqv_ok h.1.1, eqv_ok h.1.2, eqv_ok h.2]
  · rw [eqAVs_ok h.1.1, eqPl_ok h.1.2, eqPs_ok h.2]
  · rw [eqv_ok h]
  · rw [Nat.eq_of_beq_eq_true h.1, eqv_ok h.2]
  · rw [eqv_ok h]
  · rw [h.1.1, eqv_ok h.1.2, eqv_ok h.2]
  · rw [h.1.1, eqv_ok h.1.2, eqv_ok h.2]
  · rw [h.1.1.1, Nat.eq_of_beq_eq_true h.1.1.2, eqv_ok h.1.2, eqv_ok h.2]
  · rw [h.1, eqv_ok h.2]
  · rw [h.1, eqv_ok h.2]
  · rw [Nat.eq_of_beq_eq_true h.1.1.1.1, eqv_ok h.1.1.1.2, eqO_ok h.1.1.2, eqO_ok h.1.2, eqO_ok h.2]
  · rw [eqv_ok h.1.1, eqO_ok h.1.2, eqO_ok h.2]
  · rw [Nat.eq_of_beq_eq_true h.1, eqv_ok h.2]
  · rw [Nat.eq_of_beq_eq_true h.1.1, Nat.eq_of_beq_eq_true h.1.2, eqv_ok h.2]
  · rw [Nat.eq_of_beq_eq_true h.1, eqv_ok h.2]
  · rw [Nat.eq_of_beq_eq_true h.1.1, eqv_ok h.1.2, eqv_ok h.2]
  · rw [Nat.eq_of_beq_eq_true h.1.1.1, Nat.eq_of_beq_eq_true h.1.1.2, eqv_ok h.1.2, eqv_ok h.2]
  · rw [eqv_ok h.1, eqv_ok h.2]
  · rw [eqv_ok h.1, Nat.eq_of_beq_eq_true h.2]
  · rw [eqv_ok h]
  · rw [eqv_ok h]
  · rw [Nat.eq_of_beq_eq_true h.1.1.1, eqAVs_ok h.1.1.2, Nat.eq_of_beq_eq_true h.1.2, eqPs_ok h.2]
  · rw [eqv_ok h]
  · rename_i b x y b' x' y'
    have hb : b' = b := by cases b <;> cases b' <;> first | rfl | (have := h.1.1; cases this)
    rw [hb, eqv_ok h.1.2, eqv_ok h.2]
  · cases h

/-- A watched read: its guard, what it reads, what it read. -/
structure Wat where
  gd : Option (SI × Bool × Bool)
  e : OE SI
  v : SI
inductive Sx where
  | og (e : OE SI) (k : Sx)
  | gog (b : SI) (want g : Bool) (e : OE SI) (k : Sx)
  | cmp (op : BinOp) (t : TypeId) (x y : SI) (k : Sx)
  | new (zs : List AV) (k : Sx)
  | box (x : SI) (k : Sx)
  | bsl (sz : Nat) (z : List AV) (n : Nat) (ps : List (Nat × SI)) (k : Sx)
  | sto (n : Nat) (p v : SI) (k : Sx)
  | mks (t : TypeId) (l c : SI) (k : Sx)
  | cnv (s d : TypeId) (x : SI) (k : Sx)
  | app (sz : Nat) (s x : SI) (k : Sx)
  | call (f : FuncId) (xs : List SI) (k : Sx)
  | callv (f : SI) (xs : List SI) (k : Sx)
  | clo (fn : Fn) (fs cs : List SI) (k : Sx)
  | ifc (t : TypeId) (x : SI) (k : Sx)
  | typ (x : SI) (t : TypeId) (ok : Bool) (k : Sx)
  | pan (x : SI)
  | gpick (x : SI) (a b c : Sx)
  | apick (x : SI) (a b : Sx)
  | jn (p : Nat) (ls : List Nat) (r k : Sx)
  | jump (j : Nat) (xs : List SI)
  | lp (ls : List Nat) (body : Sx) (xs : List SI)
  | ord (C ancs : List Nat) (k : Sx)
  | wat (ws : List Wat) (k : Sx)
  | rng (g : SI) (body k : Sx)
  | ret (x : SI)
  | rets (xs : List SI)
  | no
def tupL : (ls : List Nat) → Tup ls → List AV
  | [], _ => []
  | _ :: l, x => x.1 :: tupL l x.2
def lTup : (ls : List Nat) → List AV → Tup ls
  | [], _ => ()
  | _ :: l, xs => (xs.getD 0 .any, lTup l (xs.drop 1))
def dwat1 (T : Tab) (ρ : List AV) (σ : AH) (w : Wat) : Prop := match w.gd with
  | none => dE T (di ρ) σ w.e = some (di ρ w.v)
  | some (b, want, g) => gval (di ρ b) want g (dE T (di ρ) σ w.e) = some (di ρ w.v)
def dwat (T : Tab) (ρ : List AV) (σ : AH) : List Wat → Prop
  | [] => True
  | w :: r => dwat1 T ρ σ w ∧ dwat T ρ σ r
abbrev Kont := List AV → AH → Prop
def den (P : Program) (T : Tab) (R : AEnd → AH → Prop) : Sx → List AV → List Kont → AH → Prop
  | .og e k, ρ, ks, σ => E.og (dE T (di ρ) σ e) fun v => den P T R k (v :: ρ) ks σ
  | .gog b w g e k, ρ, ks, σ => E.og (gval (di ρ b) w g (dE T (di ρ) σ e)) fun v => den P T R k (v :: ρ) ks σ
  | .cmp op t x y k, ρ, ks, σ => abin T op t (di ρ x) (di ρ y) fun v => den P T R k (v :: ρ) ks σ
  | .new zs k, ρ, ks, σ => E.new zs σ fun v σ => den P T R k (v :: ρ) ks σ
  | .box x k, ρ, ks, σ => abox (di ρ x) σ fun v σ => den P T R k (v :: ρ) ks σ
  | .bsl sz z n ps k, ρ, ks, σ => E.bsl sz z n (ps.map fun p => (p.1, di ρ p.2)) σ fun v σ => den P T R k (v :: ρ) ks σ
  | .sto n p v k, ρ, ks, σ => E.sto n (di ρ p) (di ρ v) σ fun σ => den P T R k ρ ks σ
  | .mks t l c k, ρ, ks, σ => amake T t (di ρ l) (di ρ c) σ fun v σ => den P T R k (v :: ρ) ks σ
  | .cnv s d x k, ρ, ks, σ => aconv T s d (di ρ x) σ fun v σ => den P T R k (v :: ρ) ks σ
  | .app sz s x k, ρ, ks, σ => E.app sz (di ρ s) (di ρ x) σ fun v σ => den P T R k (v :: ρ) ks σ
  | .call f xs k, ρ, ks, σ => acall P f (xs.map (di ρ)) σ (onr (fun v σ => den P T R k (v :: ρ) ks σ) (fun v σ => apan v σ R))
  | .callv f xs k, ρ, ks, σ => acallv P (di ρ f) (xs.map (di ρ)) σ (onr (fun v σ => den P T R k (v :: ρ) ks σ) (fun v σ => apan v σ R))
  | .clo fn fs cs k, ρ, ks, σ => den P T R k (.clo fn (fs.map (di ρ)) (cs.map (di ρ)) :: ρ) ks σ
  | .ifc t x k, ρ, ks, σ => E.og (aifc T t (di ρ x)) fun v => den P T R k (v :: ρ) ks σ
  | .typ x t ok k, ρ, ks, σ => E.og (atype T (di ρ x) t ok) fun v => den P T R k (v :: ρ) ks σ
  | .pan x, ρ, _, σ => apanic (di ρ x) fun v => apan v σ R
  | .gpick x a b c, ρ, ks, σ => E.gpick (di ρ x) (den P T R a ρ ks σ) (den P T R b ρ ks σ) (den P T R c ρ ks σ)
  | .apick x a b, ρ, ks, σ => E.apick (di ρ x) (den P T R a ρ ks σ) (den P T R b ρ ks σ)
  | .jn _ ls r k, ρ, ks, σ => E.jn (X := Tup ls) (fun x σ => den P T R r (tupL ls x) ks σ) fun kk => den P T R k ρ ((fun xs σ => kk (lTup ls xs) σ) :: ks) σ
  | .jump j xs, ρ, ks, σ => (ks.getD j fun _ _ => False) (xs.map (di ρ)) σ
  | .lp ls body xs, ρ, ks, σ => E.lp (X := Tup ls) (fun RR x σ => den P T R body (tupL ls x) ((fun xs σ => RR (lTup ls xs) σ) :: ks) σ) (lTup ls (xs.map (di ρ))) σ
  | .ord _ _ k, ρ, ks, σ => den P T R k ρ ks σ
  | .wat ws k, ρ, ks, σ => dwat T ρ σ ws ∧ den P T R k ρ ks σ
  | .rng g xb k, ρ, ks, σ => arange P (di ρ g) (fun x σ N => den P T (fun _ _ => False) xb (x :: ρ) [fun _ σ => N σ] σ) σ (fun σ => den P T R k ρ ks σ) (fun v σ => apan v σ R)
  | .ret x, ρ, _, σ => aret (di ρ x) σ R
  | .rets xs, ρ, _, σ => aret (.tup (xs.map (di ρ))) σ R
  | .no, _, _, _ => False
end Go.Proofs.Ytjfdgijgkbojnaa.E
