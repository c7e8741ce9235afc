import Derived.Test.YtggnjjalfnhiiaaGreatDoorPC7
/- Rules that reckon; how the program's structures lie in cells. Printed by mkp1.py. -/
set_option linter.unusedSectionVars false
set_option linter.unusedSimpArgs false
set_option linter.unusedVariables false
namespace Go.Proofs.YtggnjjalfnhiiaaGreatDoor.E
open Go Go.RowKit
variable [L : Lam]
/-- The rules that reckon. -/
theorem RR : (∀ (v : AV) (k : AV → Prop), og (some v) k = k v) ∧ (∀ (k p : AV → AH → Prop) (v : AV) (σ : AH), onr k p (.ret v) σ = k v σ) ∧ (∀ (g : Bool) (x : Option AV), gval (.val (.bool true)) true g x = x) ∧ (∀ (g : Bool) (x : Option AV), gval (.val (.bool false)) false g x = x) ∧
  (∀ (g : Bool) (x : Option AV), gval (.val (.bool true)) false g x = some (.tup [])) ∧ (∀ (g : Bool) (x : Option AV), gval (.val (.bool false)) true g x = some (.tup [])) ∧ (∀ (w : Bool) (x : Option AV), gval (.tup []) w true x = some (.tup [])) ∧
  (∀ a b : AV, pickV (.val (.bool true)) a b = some a) ∧ (∀ a b : AV, pickV (.val (.bool false)) a b = some b) ∧ (∀ a b : Prop, apick (.val (.bool true)) a b = a) ∧ (∀ a b : Prop, apick (.val (.bool false)) a b = b) ∧
  (∀ a b c : Prop, gpick (.val (.bool true)) a b c = a) ∧ (∀ a b c : Prop, gpick (.val (.bool false)) a b c = b) ∧ (∀ a b c : Prop, gpick (.tup []) a b c = c) ∧
  (∀ a b : Int, ibin .leq (.val (.int .i64 a)) (.val (.int .i64 b)) = some (.val (.bool (decide (a ≤ b))))) ∧ (∀ a b : Int, ibin .geq (.val (.int .i64 a)) (.val (.int .i64 b)) = some (.val (.bool (decide (b ≤ a))))) ∧
  (∀ a b : Int, ibin .lss (.val (.int .i64 a)) (.val (.int .i64 b)) = some (.val (.bool (decide (a < b))))) ∧ (∀ a b : Int, ibin .gtr (.val (.int .i64 a)) (.val (.int .i64 b)) = some (.val (.bool (decide (b < a))))) ∧
  (∀ a b : Int, ibin .eql (.val (.int .i64 a)) (.val (.int .i64 b)) = some (.val (.bool (decide (a = b))))) ∧ (∀ a b : Int, ibin .neq (.val (.int .i64 a)) (.val (.int .i64 b)) = some (.val (.bool (!decide (a = b))))) ∧
  (∀ b : Bool, aun .not (.val (.bool b)) = some (.val (.bool !b))) ∧ ((!true) = false) ∧ ((!false) = true) ∧ (decide True = true) ∧ (decide False = false) ∧ ((false = true) = False) ∧ ((true = false) = False) ∧
  (∀ (o : Nat) (cs : List AV) (off : Nat), fldA o (.rop cs off) = some (.rop cs (off + o))) ∧ (∀ o φ st i off : Nat, fldA o (.ptr φ st i off) = some (.ptr φ st i (off + o))) ∧ (∀ φ st i off : Nat, anil (.ptr φ st i off) = some (.ptr φ st i off)) ∧ (∀ (cs : List AV) (off : Nat), anil (.rop cs off) = some (.rop cs off)) ∧
  (∀ s : ByteArray, lenStr (.val (.string s)) = some (.val (.int .i64 s.size))) ∧ (∀ n : Nat, 0 + n = n) ∧ (∀ n : Nat, n + 0 = n) ∧ (∀ x y : AV, cond true x y = x) ∧ (∀ x y : AV, cond false x y = y) := by
  refine ⟨fun _ _ => id rfl, fun _ _ _ _ => id rfl, fun _ _ => id rfl, fun _ _ => id rfl, fun _ _ => id rfl, fun _ _ => id rfl, fun w _ => by cases w <;> exact id rfl, fun _ _ => id rfl, fun _ _ => id rfl, fun _ _ => id rfl, fun _ _ => id rfl, fun _ _ _ => id rfl, fun _ _ _ => id rfl, fun _ _ _ => id rfl,
    ibin_leq, ibin_geq, ibin_lss, ibin_gtr, ibin_eql, ibin_neq, aun_not, id rfl, id rfl, by simp, by simp, by simp, by simp, fun _ _ _ => id rfl, fun _ _ _ _ _ => id rfl, fun _ _ _ _ => id rfl, fun _ _ => id rfl, fun _ => id rfl, Nat.zero_add, Nat.add_zero, fun _ _ => id rfl, fun _ _ => id rfl⟩
/-- Chains of && and ||, reckoned as one value. -/
theorem RG : (∀ (A : Bool) (x y z : AV), cond A x (cond A y z) = cond A x z) ∧ (∀ (A : Bool) (x y z : AV), cond A (cond A x y) z = cond A x z) ∧
  (∀ (B g : Bool) (y : AV), gval (.val (.bool B)) true g (some y) = some (cond B y (.tup []))) ∧
  (∀ (B g : Bool) (y : AV), gval (.val (.bool B)) false g (some y) = some (cond B (.tup []) y)) ∧
  (∀ (A B : Bool) (y : AV), gval (cond A (.tup []) (.val (.bool B))) true true (some y) = some (cond A (.tup []) (cond B y (.tup [])))) ∧
  (∀ (A B : Bool) (y : AV), gval (cond A (.val (.bool B)) (.tup [])) true true (some y) = some (cond A (cond B y (.tup [])) (.tup []))) ∧
  (∀ (A B : Bool) (y : AV), gval (cond A (.tup []) (.val (.bool B))) false true (some y) = some (cond A (.tup []) (cond B (.tup []) y))) ∧
  (∀ (A B : Bool) (y : AV), gval (cond A (.val (.bool B)) (.tup [])) false true (some y) = some (cond A (cond B (.tup []) y) (.tup []))) ∧
  (∀ (B g : Bool) (y z : AV) (σ : AH), gval (.val (.bool B)) true g (lod (cond B y z) σ) = gval (.val (.bool B)) true g (lod y σ)) ∧
  (∀ (B g : Bool) (y z : AV) (σ : AH), gval (.val (.bool B)) false g (lod (cond B z y) σ) = gval (.val (.bool B)) false g (lod y σ)) ∧
  (∀ (A B : Bool) (y z u : AV) (σ : AH), gval (cond A (.tup []) (.val (.bool B))) true true (lod (cond A u (cond B y z)) σ) = gval (cond A (.tup []) (.val (.bool B))) true true (lod y σ)) ∧
  (∀ (A B : Bool) (y z u : AV) (σ : AH), gval (cond A (.tup []) (.val (.bool B))) false true (lod (cond A u (cond B z y)) σ) = gval (cond A (.tup []) (.val (.bool B))) false true (lod y σ)) ∧
  (∀ (A B : Bool) (y z u : AV) (σ : AH), gval (cond A (.val (.bool B)) (.tup [])) true true (lod (cond A (cond B y z) u) σ) = gval (cond A (.val (.bool B)) (.tup [])) true true (lod y σ)) ∧
  (∀ (A B : Bool) (y z u : AV) (σ : AH), gval (cond A (.val (.bool B)) (.tup [])) false true (lod (cond A (cond B z y) u) σ) = gval (cond A (.val (.bool B)) (.tup [])) false true (lod y σ)) ∧
  (∀ (B g : Bool) (y z : AV) (n : Nat) (σ : AH), gval (.val (.bool B)) true g (lodA n (cond B y z) σ) = gval (.val (.bool B)) true g (lodA n y σ)) ∧
  (∀ (B g : Bool) (y z : AV) (n : Nat) (σ : AH), gval (.val (.bool B)) false g (lodA n (cond B z y) σ) = gval (.val (.bool B)) false g (lodA n y σ)) ∧
  (∀ (A B : Bool) (y z u : AV) (n : Nat) (σ : AH), gval (cond A (.tup []) (.val (.bool B))) true true (lodA n (cond A u (cond B y z)) σ) = gval (cond A (.tup []) (.val (.bool B))) true true (lodA n y σ)) ∧
  (∀ (A B : Bool) (y z u : AV) (n : Nat) (σ : AH), gval (cond A (.tup []) (.val (.bool B))) false true (lodA n (cond A u (cond B z y)) σ) = gval (cond A (.tup []) (.val (.bool B))) false true (lodA n y σ)) ∧
  (∀ (A B : Bool) (y z u : AV) (n : Nat) (σ : AH), gval (cond A (.val (.bool B)) (.tup [])) true true (lodA n (cond A (cond B y z) u) σ) = gval (cond A (.val (.bool B)) (.tup [])) true true (lodA n y σ)) ∧
  (∀ (A B : Bool) (y z u : AV) (n : Nat) (σ : AH), gval (cond A (.val (.bool B)) (.tup [])) false true (lodA n (cond A (cond B z y) u) σ) = gval (cond A (.val (.bool B)) (.tup [])) false true (lodA n y σ)) ∧
  (∀ (B g : Bool) (y z : AV) (n : Nat), gval (.val (.bool B)) true g (fldA n (cond B y z)) = gval (.val (.bool B)) true g (fldA n y)) ∧
  (∀ (B g : Bool) (y z : AV) (n : Nat), gval (.val (.bool B)) false g (fldA n (cond B z y)) = gval (.val (.bool B)) false g (fldA n y)) ∧
  (∀ (A B : Bool) (y z u : AV) (n : Nat), gval (cond A (.tup []) (.val (.bool B))) true true (fldA n (cond A u (cond B y z))) = gval (cond A (.tup []) (.val (.bool B))) true true (fldA n y)) ∧
  (∀ (A B : Bool) (y z u : AV) (n : Nat), gval (cond A (.tup []) (.val (.bool B))) false true (fldA n (cond A u (cond B z y))) = gval (cond A (.tup []) (.val (.bool B))) false true (fldA n y)) ∧
  (∀ (A B : Bool) (y z u : AV) (n : Nat), gval (cond A (.val (.bool B)) (.tup [])) true true (fldA n (cond A (cond B y z) u)) = gval (cond A (.val (.bool B)) (.tup [])) true true (fldA n y)) ∧
  (∀ (A B : Bool) (y z u : AV) (n : Nat), gval (cond A (.val (.bool B)) (.tup [])) false true (fldA n (cond A (cond B z y) u)) = gval (cond A (.val (.bool B)) (.tup [])) false true (fldA n y)) ∧
  (∀ (B g : Bool) (y z : AV) (n : Nat), gval (.val (.bool B)) true g (fldV n (cond B y z)) = gval (.val (.bool B)) true g (fldV n y)) ∧
  (∀ (B g : Bool) (y z : AV) (n : Nat), gval (.val (.bool B)) false g (fldV n (cond B z y)) = gval (.val (.bool B)) false g (fldV n y)) ∧
  (∀ (A B : Bool) (y z u : AV) (n : Nat), gval (cond A (.tup []) (.val (.bool B))) true true (fldV n (cond A u (cond B y z))) = gval (cond A (.tup []) (.val (.bool B))) true true (fldV n y)) ∧
  (∀ (A B : Bool) (y z u : AV) (n : Nat), gval (cond A (.tup []) (.val (.bool B))) false true (fldV n (cond A u (cond B z y))) = gval (cond A (.tup []) (.val (.bool B))) false true (fldV n y)) ∧
  (∀ (A B : Bool) (y z u : AV) (n : Nat), gval (cond A (.val (.bool B)) (.tup [])) true true (fldV n (cond A (cond B y z) u)) = gval (cond A (.val (.bool B)) (.tup [])) true true (fldV n y)) ∧
  (∀ (A B : Bool) (y z u : AV) (n : Nat), gval (cond A (.val (.bool B)) (.tup [])) false true (fldV n (cond A (cond B z y) u)) = gval (cond A (.val (.bool B)) (.tup [])) false true (fldV n y)) ∧
  (∀ (B g : Bool) (y z : AV) , gval (.val (.bool B)) true g (anil (cond B y z)) = gval (.val (.bool B)) true g (anil y)) ∧
  (∀ (B g : Bool) (y z : AV) , gval (.val (.bool B)) false g (anil (cond B z y)) = gval (.val (.bool B)) false g (anil y)) ∧
  (∀ (A B : Bool) (y z u : AV) , gval (cond A (.tup []) (.val (.bool B))) true true (anil (cond A u (cond B y z))) = gval (cond A (.tup []) (.val (.bool B))) true true (anil y)) ∧
  (∀ (A B : Bool) (y z u : AV) , gval (cond A (.tup []) (.val (.bool B))) false true (anil (cond A u (cond B z y))) = gval (cond A (.tup []) (.val (.bool B))) false true (anil y)) ∧
  (∀ (A B : Bool) (y z u : AV) , gval (cond A (.val (.bool B)) (.tup [])) true true (anil (cond A (cond B y z) u)) = gval (cond A (.val (.bool B)) (.tup [])) true true (anil y)) ∧
  (∀ (A B : Bool) (y z u : AV) , gval (cond A (.val (.bool B)) (.tup [])) false true (anil (cond A (cond B z y) u)) = gval (cond A (.val (.bool B)) (.tup [])) false true (anil y)) ∧
  (∀ (B g : Bool) (y z : AV) , gval (.val (.bool B)) true g (lenS (cond B y z)) = gval (.val (.bool B)) true g (lenS y)) ∧
  (∀ (B g : Bool) (y z : AV) , gval (.val (.bool B)) false g (lenS (cond B z y)) = gval (.val (.bool B)) false g (lenS y)) ∧
  (∀ (A B : Bool) (y z u : AV) , gval (cond A (.tup []) (.val (.bool B))) true true (lenS (cond A u (cond B y z))) = gval (cond A (.tup []) (.val (.bool B))) true true (lenS y)) ∧
  (∀ (A B : Bool) (y z u : AV) , gval (cond A (.tup []) (.val (.bool B))) false true (lenS (cond A u (cond B z y))) = gval (cond A (.tup []) (.val (.bool B))) false true (lenS y)) ∧
  (∀ (A B : Bool) (y z u : AV) , gval (cond A (.val (.bool B)) (.tup [])) true true (lenS (cond A (cond B y z) u)) = gval (cond A (.val (.bool B)) (.tup [])) true true (lenS y)) ∧
  (∀ (A B : Bool) (y z u : AV) , gval (cond A (.val (.bool B)) (.tup [])) false true (lenS (cond A (cond B z y) u)) = gval (cond A (.val (.bool B)) (.tup [])) false true (lenS y)) ∧
  (∀ (B g : Bool) (y z : AV) , gval (.val (.bool B)) true g (lenStr (cond B y z)) = gval (.val (.bool B)) true g (lenStr y)) ∧
  (∀ (B g : Bool) (y z : AV) , gval (.val (.bool B)) false g (lenStr (cond B z y)) = gval (.val (.bool B)) false g (lenStr y)) ∧
  (∀ (A B : Bool) (y z u : AV) , gval (cond A (.tup []) (.val (.bool B))) true true (lenStr (cond A u (cond B y z))) = gval (cond A (.tup []) (.val (.bool B))) true true (lenStr y)) ∧
  (∀ (A B : Bool) (y z u : AV) , gval (cond A (.tup []) (.val (.bool B))) false true (lenStr (cond A u (cond B z y))) = gval (cond A (.tup []) (.val (.bool B))) false true (lenStr y)) ∧
  (∀ (A B : Bool) (y z u : AV) , gval (cond A (.val (.bool B)) (.tup [])) true true (lenStr (cond A (cond B y z) u)) = gval (cond A (.val (.bool B)) (.tup [])) true true (lenStr y)) ∧
  (∀ (A B : Bool) (y z u : AV) , gval (cond A (.val (.bool B)) (.tup [])) false true (lenStr (cond A (cond B z y) u)) = gval (cond A (.val (.bool B)) (.tup [])) false true (lenStr y)) ∧
  (∀ (B g : Bool) (y z : AV) (o : UnOp), gval (.val (.bool B)) true g (aun o (cond B y z)) = gval (.val (.bool B)) true g (aun o y)) ∧
  (∀ (B g : Bool) (y z : AV) (o : UnOp), gval (.val (.bool B)) false g (aun o (cond B z y)) = gval (.val (.bool B)) false g (aun o y)) ∧
  (∀ (A B : Bool) (y z u : AV) (o : UnOp), gval (cond A (.tup []) (.val (.bool B))) true true (aun o (cond A u (cond B y z))) = gval (cond A (.tup []) (.val (.bool B))) true true (aun o y)) ∧
  (∀ (A B : Bool) (y z u : AV) (o : UnOp), gval (cond A (.tup []) (.val (.bool B))) false true (aun o (cond A u (cond B z y))) = gval (cond A (.tup []) (.val (.bool B))) false true (aun o y)) ∧
  (∀ (A B : Bool) (y z u : AV) (o : UnOp), gval (cond A (.val (.bool B)) (.tup [])) true true (aun o (cond A (cond B y z) u)) = gval (cond A (.val (.bool B)) (.tup [])) true true (aun o y)) ∧
  (∀ (A B : Bool) (y z u : AV) (o : UnOp), gval (cond A (.val (.bool B)) (.tup [])) false true (aun o (cond A (cond B z y) u)) = gval (cond A (.val (.bool B)) (.tup [])) false true (aun o y)) ∧
  (∀ (B g : Bool) (y z : AV) (o : BinOp) (w : AV), gval (.val (.bool B)) true g (ibin o (cond B y z) w) = gval (.val (.bool B)) true g (ibin o y w)) ∧
  (∀ (B g : Bool) (y z : AV) (o : BinOp) (w : AV), gval (.val (.bool B)) false g (ibin o (cond B z y) w) = gval (.val (.bool B)) false g (ibin o y w)) ∧
  (∀ (A B : Bool) (y z u : AV) (o : BinOp) (w : AV), gval (cond A (.tup []) (.val (.bool B))) true true (ibin o (cond A u (cond B y z)) w) = gval (cond A (.tup []) (.val (.bool B))) true true (ibin o y w)) ∧
  (∀ (A B : Bool) (y z u : AV) (o : BinOp) (w : AV), gval (cond A (.tup []) (.val (.bool B))) false true (ibin o (cond A u (cond B z y)) w) = gval (cond A (.tup []) (.val (.bool B))) false true (ibin o y w)) ∧
  (∀ (A B : Bool) (y z u : AV) (o : BinOp) (w : AV), gval (cond A (.val (.bool B)) (.tup [])) true true (ibin o (cond A (cond B y z) u) w) = gval (cond A (.val (.bool B)) (.tup [])) true true (ibin o y w)) ∧
  (∀ (A B : Bool) (y z u : AV) (o : BinOp) (w : AV), gval (cond A (.val (.bool B)) (.tup [])) false true (ibin o (cond A (cond B z y) u) w) = gval (cond A (.val (.bool B)) (.tup [])) false true (ibin o y w)) ∧
  (∀ (B g : Bool) (y z : AV) (o : BinOp) (w : AV), gval (.val (.bool B)) true g (ibin o w (cond B y z)) = gval (.val (.bool B)) true g (ibin o w y)) ∧
  (∀ (B g : Bool) (y z : AV) (o : BinOp) (w : AV), gval (.val (.bool B)) false g (ibin o w (cond B z y)) = gval (.val (.bool B)) false g (ibin o w y)) ∧
  (∀ (A B : Bool) (y z u : AV) (o : BinOp) (w : AV), gval (cond A (.tup []) (.val (.bool B))) true true (ibin o w (cond A u (cond B y z))) = gval (cond A (.tup []) (.val (.bool B))) true true (ibin o w y)) ∧
  (∀ (A B : Bool) (y z u : AV) (o : BinOp) (w : AV), gval (cond A (.tup []) (.val (.bool B))) false true (ibin o w (cond A u (cond B z y))) = gval (cond A (.tup []) (.val (.bool B))) false true (ibin o w y)) ∧
  (∀ (A B : Bool) (y z u : AV) (o : BinOp) (w : AV), gval (cond A (.val (.bool B)) (.tup [])) true true (ibin o w (cond A (cond B y z) u)) = gval (cond A (.val (.bool B)) (.tup [])) true true (ibin o w y)) ∧
  (∀ (A B : Bool) (y z u : AV) (o : BinOp) (w : AV), gval (cond A (.val (.bool B)) (.tup [])) false true (ibin o w (cond A (cond B z y) u)) = gval (cond A (.val (.bool B)) (.tup [])) false true (ibin o w y)) ∧
  (∀ (B g : Bool) (y z : AV) (o : BinOp) (w : AV), gval (.val (.bool B)) true g (sbin o (cond B y z) w) = gval (.val (.bool B)) true g (sbin o y w)) ∧
  (∀ (B g : Bool) (y z : AV) (o : BinOp) (w : AV), gval (.val (.bool B)) false g (sbin o (cond B z y) w) = gval (.val (.bool B)) false g (sbin o y w)) ∧
  (∀ (A B : Bool) (y z u : AV) (o : BinOp) (w : AV), gval (cond A (.tup []) (.val (.bool B))) true true (sbin o (cond A u (cond B y z)) w) = gval (cond A (.tup []) (.val (.bool B))) true true (sbin o y w)) ∧
  (∀ (A B : Bool) (y z u : AV) (o : BinOp) (w : AV), gval (cond A (.tup []) (.val (.bool B))) false true (sbin o (cond A u (cond B z y)) w) = gval (cond A (.tup []) (.val (.bool B))) false true (sbin o y w)) ∧
  (∀ (A B : Bool) (y z u : AV) (o : BinOp) (w : AV), gval (cond A (.val (.bool B)) (.tup [])) true true (sbin o (cond A (cond B y z) u) w) = gval (cond A (.val (.bool B)) (.tup [])) true true (sbin o y w)) ∧
  (∀ (A B : Bool) (y z u : AV) (o : BinOp) (w : AV), gval (cond A (.val (.bool B)) (.tup [])) false true (sbin o (cond A (cond B z y) u) w) = gval (cond A (.val (.bool B)) (.tup [])) false true (sbin o y w)) ∧
  (∀ (B g : Bool) (y z : AV) (o : BinOp) (w : AV), gval (.val (.bool B)) true g (sbin o w (cond B y z)) = gval (.val (.bool B)) true g (sbin o w y)) ∧
  (∀ (B g : Bool) (y z : AV) (o : BinOp) (w : AV), gval (.val (.bool B)) false g (sbin o w (cond B z y)) = gval (.val (.bool B)) false g (sbin o w y)) ∧
  (∀ (A B : Bool) (y z u : AV) (o : BinOp) (w : AV), gval (cond A (.tup []) (.val (.bool B))) true true (sbin o w (cond A u (cond B y z))) = gval (cond A (.tup []) (.val (.bool B))) true true (sbin o w y)) ∧
  (∀ (A B : Bool) (y z u : AV) (o : BinOp) (w : AV), gval (cond A (.tup []) (.val (.bool B))) false true (sbin o w (cond A u (cond B z y))) = gval (cond A (.tup []) (.val (.bool B))) false true (sbin o w y)) ∧
  (∀ (A B : Bool) (y z u : AV) (o : BinOp) (w : AV), gval (cond A (.val (.bool B)) (.tup [])) true true (sbin o w (cond A (cond B y z) u)) = gval (cond A (.val (.bool B)) (.tup [])) true true (sbin o w y)) ∧
  (∀ (A B : Bool) (y z u : AV) (o : BinOp) (w : AV), gval (cond A (.val (.bool B)) (.tup [])) false true (sbin o w (cond A (cond B z y) u)) = gval (cond A (.val (.bool B)) (.tup [])) false true (sbin o w y)) ∧
  (∀ (B g : Bool) (y z : AV) (n : Nat) (w : AV) (σ : AH), gval (.val (.bool B)) true g (idx n (cond B y z) w σ) = gval (.val (.bool B)) true g (idx n y w σ)) ∧
  (∀ (B g : Bool) (y z : AV) (n : Nat) (w : AV) (σ : AH), gval (.val (.bool B)) false g (idx n (cond B z y) w σ) = gval (.val (.bool B)) false g (idx n y w σ)) ∧
  (∀ (A B : Bool) (y z u : AV) (n : Nat) (w : AV) (σ : AH), gval (cond A (.tup []) (.val (.bool B))) true true (idx n (cond A u (cond B y z)) w σ) = gval (cond A (.tup []) (.val (.bool B))) true true (idx n y w σ)) ∧
  (∀ (A B : Bool) (y z u : AV) (n : Nat) (w : AV) (σ : AH), gval (cond A (.tup []) (.val (.bool B))) false true (idx n (cond A u (cond B z y)) w σ) = gval (cond A (.tup []) (.val (.bool B))) false true (idx n y w σ)) ∧
  (∀ (A B : Bool) (y z u : AV) (n : Nat) (w : AV) (σ : AH), gval (cond A (.val (.bool B)) (.tup [])) true true (idx n (cond A (cond B y z) u) w σ) = gval (cond A (.val (.bool B)) (.tup [])) true true (idx n y w σ)) ∧
  (∀ (A B : Bool) (y z u : AV) (n : Nat) (w : AV) (σ : AH), gval (cond A (.val (.bool B)) (.tup [])) false true (idx n (cond A (cond B z y) u) w σ) = gval (cond A (.val (.bool B)) (.tup [])) false true (idx n y w σ)) ∧
  (∀ (B g : Bool) (y z : AV) (n : Nat) (w : AV) (σ : AH), gval (.val (.bool B)) true g (idx n w (cond B y z) σ) = gval (.val (.bool B)) true g (idx n w y σ)) ∧
  (∀ (B g : Bool) (y z : AV) (n : Nat) (w : AV) (σ : AH), gval (.val (.bool B)) false g (idx n w (cond B z y) σ) = gval (.val (.bool B)) false g (idx n w y σ)) ∧
  (∀ (A B : Bool) (y z u : AV) (n : Nat) (w : AV) (σ : AH), gval (cond A (.tup []) (.val (.bool B))) true true (idx n w (cond A u (cond B y z)) σ) = gval (cond A (.tup []) (.val (.bool B))) true true (idx n w y σ)) ∧
  (∀ (A B : Bool) (y z u : AV) (n : Nat) (w : AV) (σ : AH), gval (cond A (.tup []) (.val (.bool B))) false true (idx n w (cond A u (cond B z y)) σ) = gval (cond A (.tup []) (.val (.bool B))) false true (idx n w y σ)) ∧
  (∀ (A B : Bool) (y z u : AV) (n : Nat) (w : AV) (σ : AH), gval (cond A (.val (.bool B)) (.tup [])) true true (idx n w (cond A (cond B y z) u) σ) = gval (cond A (.val (.bool B)) (.tup [])) true true (idx n w y σ)) ∧
  (∀ (A B : Bool) (y z u : AV) (n : Nat) (w : AV) (σ : AH), gval (cond A (.val (.bool B)) (.tup [])) false true (idx n w (cond A (cond B z y) u) σ) = gval (cond A (.val (.bool B)) (.tup [])) false true (idx n w y σ)) ∧
  (∀ (B g : Bool) (y z : AV) (w : AV), gval (.val (.bool B)) true g (idxStr (cond B y z) w) = gval (.val (.bool B)) true g (idxStr y w)) ∧
  (∀ (B g : Bool) (y z : AV) (w : AV), gval (.val (.bool B)) false g (idxStr (cond B z y) w) = gval (.val (.bool B)) false g (idxStr y w)) ∧
  (∀ (A B : Bool) (y z u : AV) (w : AV), gval (cond A (.tup []) (.val (.bool B))) true true (idxStr (cond A u (cond B y z)) w) = gval (cond A (.tup []) (.val (.bool B))) true true (idxStr y w)) ∧
  (∀ (A B : Bool) (y z u : AV) (w : AV), gval (cond A (.tup []) (.val (.bool B))) false true (idxStr (cond A u (cond B z y)) w) = gval (cond A (.tup []) (.val (.bool B))) false true (idxStr y w)) ∧
  (∀ (A B : Bool) (y z u : AV) (w : AV), gval (cond A (.val (.bool B)) (.tup [])) true true (idxStr (cond A (cond B y z) u) w) = gval (cond A (.val (.bool B)) (.tup [])) true true (idxStr y w)) ∧
  (∀ (A B : Bool) (y z u : AV) (w : AV), gval (cond A (.val (.bool B)) (.tup [])) false true (idxStr (cond A (cond B z y) u) w) = gval (cond A (.val (.bool B)) (.tup [])) false true (idxStr y w)) ∧
  (∀ (B g : Bool) (y z : AV) (w : AV), gval (.val (.bool B)) true g (idxStr w (cond B y z)) = gval (.val (.bool B)) true g (idxStr w y)) ∧
  (∀ (B g : Bool) (y z : AV) (w : AV), gval (.val (.bool B)) false g (idxStr w (cond B z y)) = gval (.val (.bool B)) false g (idxStr w y)) ∧
  (∀ (A B : Bool) (y z u : AV) (w : AV), gval (cond A (.tup []) (.val (.bool B))) true true (idxStr w (cond A u (cond B y z))) = gval (cond A (.tup []) (.val (.bool B))) true true (idxStr w y)) ∧
  (∀ (A B : Bool) (y z u : AV) (w : AV), gval (cond A (.tup []) (.val (.bool B))) false true (idxStr w (cond A u (cond B z y))) = gval (cond A (.tup []) (.val (.bool B))) false true (idxStr w y)) ∧
  (∀ (A B : Bool) (y z u : AV) (w : AV), gval (cond A (.val (.bool B)) (.tup [])) true true (idxStr w (cond A (cond B y z) u)) = gval (cond A (.val (.bool B)) (.tup [])) true true (idxStr w y)) ∧
  (∀ (A B : Bool) (y z u : AV) (w : AV), gval (cond A (.val (.bool B)) (.tup [])) false true (idxStr w (cond A (cond B z y) u)) = gval (cond A (.val (.bool B)) (.tup [])) false true (idxStr w y)) ∧
  (∀ (B g : Bool) (y z : AV) (n : Nat) (a b c : Option AV) (σ : AH), gval (.val (.bool B)) true g (slc n (cond B y z) a b c σ) = gval (.val (.bool B)) true g (slc n y a b c σ)) ∧
  (∀ (B g : Bool) (y z : AV) (n : Nat) (a b c : Option AV) (σ : AH), gval (.val (.bool B)) false g (slc n (cond B z y) a b c σ) = gval (.val (.bool B)) false g (slc n y a b c σ)) ∧
  (∀ (A B : Bool) (y z u : AV) (n : Nat) (a b c : Option AV) (σ : AH), gval (cond A (.tup []) (.val (.bool B))) true true (slc n (cond A u (cond B y z)) a b c σ) = gval (cond A (.tup []) (.val (.bool B))) true true (slc n y a b c σ)) ∧
  (∀ (A B : Bool) (y z u : AV) (n : Nat) (a b c : Option AV) (σ : AH), gval (cond A (.tup []) (.val (.bool B))) false true (slc n (cond A u (cond B z y)) a b c σ) = gval (cond A (.tup []) (.val (.bool B))) false true (slc n y a b c σ)) ∧
  (∀ (A B : Bool) (y z u : AV) (n : Nat) (a b c : Option AV) (σ : AH), gval (cond A (.val (.bool B)) (.tup [])) true true (slc n (cond A (cond B y z) u) a b c σ) = gval (cond A (.val (.bool B)) (.tup [])) true true (slc n y a b c σ)) ∧
  (∀ (A B : Bool) (y z u : AV) (n : Nat) (a b c : Option AV) (σ : AH), gval (cond A (.val (.bool B)) (.tup [])) false true (slc n (cond A (cond B z y) u) a b c σ) = gval (cond A (.val (.bool B)) (.tup [])) false true (slc n y a b c σ)) ∧
  (∀ (B g : Bool) (y z : AV) (a b : AV), gval (.val (.bool B)) true g (pickV (cond B y z) a b) = gval (.val (.bool B)) true g (pickV y a b)) ∧
  (∀ (B g : Bool) (y z : AV) (a b : AV), gval (.val (.bool B)) false g (pickV (cond B z y) a b) = gval (.val (.bool B)) false g (pickV y a b)) ∧
  (∀ (B g : Bool) (y z : AV) (a b : AV), gval (.val (.bool B)) true g (pickV a (cond B y z) b) = gval (.val (.bool B)) true g (pickV a y b)) ∧
  (∀ (B g : Bool) (y z : AV) (a b : AV), gval (.val (.bool B)) false g (pickV a (cond B z y) b) = gval (.val (.bool B)) false g (pickV a y b)) ∧
  (∀ (B g : Bool) (y z : AV) (a b : AV), gval (.val (.bool B)) true g (pickV a b (cond B y z)) = gval (.val (.bool B)) true g (pickV a b y)) ∧
  (∀ (B g : Bool) (y z : AV) (a b : AV), gval (.val (.bool B)) false g (pickV a b (cond B z y)) = gval (.val (.bool B)) false g (pickV a b y)) ∧
  (∀ (B g : Bool) (y z : AV) (k : IntKind), gval (.val (.bool B)) true g (convI k (cond B y z)) = gval (.val (.bool B)) true g (convI k y)) ∧
  (∀ (B g : Bool) (y z : AV) (k : IntKind), gval (.val (.bool B)) false g (convI k (cond B z y)) = gval (.val (.bool B)) false g (convI k y)) ∧
  (∀ (A B : Bool) (y z u : AV) (k : IntKind), gval (cond A (.tup []) (.val (.bool B))) true true (convI k (cond A u (cond B y z))) = gval (cond A (.tup []) (.val (.bool B))) true true (convI k y)) ∧
  (∀ (A B : Bool) (y z u : AV) (k : IntKind), gval (cond A (.tup []) (.val (.bool B))) false true (convI k (cond A u (cond B z y))) = gval (cond A (.tup []) (.val (.bool B))) false true (convI k y)) ∧
  (∀ (A B : Bool) (y z u : AV) (k : IntKind), gval (cond A (.val (.bool B)) (.tup [])) true true (convI k (cond A (cond B y z) u)) = gval (cond A (.val (.bool B)) (.tup [])) true true (convI k y)) ∧
  (∀ (A B : Bool) (y z u : AV) (k : IntKind), gval (cond A (.val (.bool B)) (.tup [])) false true (convI k (cond A (cond B z y) u)) = gval (cond A (.val (.bool B)) (.tup [])) false true (convI k y)) ∧
  (∀ (B C : Bool) (z : AV), pickV (.val (.bool B)) (cond B (.val (.bool C)) z) (.val (.bool false)) = some (.val (.bool (B && C)))) ∧
  (∀ (B C : Bool) (z : AV), pickV (.val (.bool B)) (.val (.bool true)) (cond B z (.val (.bool C))) = some (.val (.bool (B || C)))) :=
  ⟨fun A x y z => by cases A <;> rfl, fun A x y z => by cases A <;> rfl, fun B g y => by cases B <;> rfl,
   fun B g y => by cases B <;> rfl,
   fun A B y => by cases A <;> cases B <;> rfl,
   fun A B y => by cases A <;> cases B <;> rfl,
   fun A B y => by cases A <;> cases B <;> rfl,
   fun A B y => by cases A <;> cases B <;> rfl,
   by intro B g y z; intros; cases B <;> rfl,
   by intro B g y z; intros; cases B <;> rfl,
   by intro A B y z u; intros; cases A <;> cases B <;> rfl,
   by intro A B y z u; intros; cases A <;> cases B <;> rfl,
   by intro A B y z u; intros; cases A <;> cases B <;> rfl,
   by intro A B y z u; intros; cases A <;> cases B <;> rfl,
   by intro B g y z; intros; cases B <;> rfl,
   by intro B g y z; intros; cases B <;> rfl,
   by intro A B y z u; intros; cases A <;> cases B <;> rfl,
   by intro A B y z u; intros; cases A <;> cases B <;> rfl,
   by intro A B y z u; intros; cases A <;> cases B <;> rfl,
   by intro A B y z u; intros; cases A <;> cases B <;> rfl,
   by intro B g y z; intros; cases B <;> rfl,
   by intro B g y z; intros; cases B <;> rfl,
   by intro A B y z u; intros; cases A <;> cases B <;> rfl,
   by intro A B y z u; intros; cases A <;> cases B <;> rfl,
   by intro A B y z u; intros; cases A <;> cases B <;> rfl,
   by intro A B y z u; intros; cases A <;> cases B <;> rfl,
   by intro B g y z; intros; cases B <;> rfl,
   by intro B g y z; intros; cases B <;> rfl,
   by intro A B y z u; intros; cases A <;> cases B <;> rfl,
   by intro A B y z u; intros; cases A <;> cases B <;> rfl,
   by intro A B y z u; intros; cases A <;> cases B <;> rfl,
   by intro A B y z u; intros; cases A <;> cases B <;> rfl,
   by intro B g y z; intros; cases B <;> rfl,
   by intro B g y z; intros; cases B <;> rfl,
   by intro A B y z u; intros; cases A <;> cases B <;> rfl,
   by intro A B y z u; intros; cases A <;> cases B <;> rfl,
   by intro A B y z u; intros; cases A <;> cases B <;> rfl,
   by intro A B y z u; intros; cases A <;> cases B <;> rfl,
   by intro B g y z; intros; cases B <;> rfl,
   by intro B g y z; intros; cases B <;> rfl,
   by intro A B y z u; intros; cases A <;> cases B <;> rfl,
   by intro A B y z u; intros; cases A <;> cases B <;> rfl,
   by intro A B y z u; intros; cases A <;> cases B <;> rfl,
   by intro A B y z u; intros; cases A <;> cases B <;> rfl,
   by intro B g y z; intros; cases B <;> rfl,
   by intro B g y z; intros; cases B <;> rfl,
   by intro A B y z u; intros; cases A <;> cases B <;> rfl,
   by intro A B y z u; intros; cases A <;> cases B <;> rfl,
   by intro A B y z u; intros; cases A <;> cases B <;> rfl,
   by intro A B y z u; intros; cases A <;> cases B <;> rfl,
   by intro B g y z; intros; cases B <;> rfl,
   by intro B g y z; intros; cases B <;> rfl,
   by intro A B y z u; intros; cases A <;> cases B <;> rfl,
   by intro A B y z u; intros; cases A <;> cases B <;> rfl,
   by intro A B y z u; intros; cases A <;> cases B <;> rfl,
   by intro A B y z u; intros; cases A <;> cases B <;> rfl,
   by intro B g y z; intros; cases B <;> rfl,
   by intro B g y z; intros; cases B <;> rfl,
   by intro A B y z u; intros; cases A <;> cases B <;> rfl,
   by intro A B y z u; intros; cases A <;> cases B <;> rfl,
   by intro A B y z u; intros; cases A <;> cases B <;> rfl,
   by intro A B y z u; intros; cases A <;> cases B <;> rfl,
   by intro B g y z; intros; cases B <;> rfl,
   by intro B g y z; intros; cases B <;> rfl,
   by intro A B y z u; intros; cases A <;> cases B <;> rfl,
   by intro A B y z u; intros; cases A <;> cases B <;> rfl,
   by intro A B y z u; intros; cases A <;> cases B <;> rfl,
   by intro A B y z u; intros; cases A <;> cases B <;> rfl,
   by intro B g y z; intros; cases B <;> rfl,
   by intro B g y z; intros; cases B <;> rfl,
   by intro A B y z u; intros; cases A <;> cases B <;> rfl,
   by intro A B y z u; intros; cases A <;> cases B <;> rfl,
   by intro A B y z u; intros; cases A <;> cases B <;> rfl,
   by intro A B y z u; intros; cases A <;> cases B <;> rfl,
   by intro B g y z; intros; cases B <;> rfl,
   by intro B g y z; intros; cases B <;> rfl,
   by intro A B y z u; intros; cases A <;> cases B <;> rfl,
   by intro A B y z u; intros; cases A <;> cases B <;> rfl,
   by intro A B y z u; intros; cases A <;> cases B <;> rfl,
   by intro A B y z u; intros; cases A <;> cases B <;> rfl,
   by intro B g y z; intros; cases B <;> rfl,
   by intro B g y z; intros; cases B <;> rfl,
   by intro A B y z u; intros; cases A <;> cases B <;> rfl,
   by intro A B y z u; intros; cases A <;> cases B <;> rfl,
   by intro A B y z u; intros; cases A <;> cases B <;> rfl,
   by intro A B y z u; intros; cases A <;> cases B <;> rfl,
   by intro B g y z; intros; cases B <;> rfl,
   by intro B g y z; intros; cases B <;> rfl,
   by intro A B y z u; intros; cases A <;> cases B <;> rfl,
   by intro A B y z u; intros; cases A <;> cases B <;> rfl,
   by intro A B y z u; intros; cases A <;> cases B <;> rfl,
   by intro A B y z u; intros; cases A <;> cases B <;> rfl,
   by intro B g y z; intros; cases B <;> rfl,
   by intro B g y z; intros; cases B <;> rfl,
   by intro A B y z u; intros; cases A <;> cases B <;> rfl,
   by intro A B y z u; intros; cases A <;> cases B <;> rfl,
   by intro A B y z u; intros; cases A <;> cases B <;> rfl,
   by intro A B y z u; intros; cases A <;> cases B <;> rfl,
   by intro B g y z; intros; cases B <;> rfl,
   by intro B g y z; intros; cases B <;> rfl,
   by intro A B y z u; intros; cases A <;> cases B <;> rfl,
   by intro A B y z u; intros; cases A <;> cases B <;> rfl,
   by intro A B y z u; intros; cases A <;> cases B <;> rfl,
   by intro A B y z u; intros; cases A <;> cases B <;> rfl,
   by intro B g y z; intros; cases B <;> rfl,
   by intro B g y z; intros; cases B <;> rfl,
   by intro A B y z u; intros; cases A <;> cases B <;> rfl,
   by intro A B y z u; intros; cases A <;> cases B <;> rfl,
   by intro A B y z u; intros; cases A <;> cases B <;> rfl,
   by intro A B y z u; intros; cases A <;> cases B <;> rfl,
   by intro B g y z; intros; cases B <;> rfl,
   by intro B g y z; intros; cases B <;> rfl,
   by intro B g y z; intros; cases B <;> rfl,
   by intro B g y z; intros; cases B <;> rfl,
   by intro B g y z; intros; cases B <;> rfl,
   by intro B g y z; intros; cases B <;> rfl,
   by intro B g y z; intros; cases B <;> rfl,
   by intro B g y z; intros; cases B <;> rfl,
   by intro A B y z u; intros; cases A <;> cases B <;> rfl,
   by intro A B y z u; intros; cases A <;> cases B <;> rfl,
   by intro A B y z u; intros; cases A <;> cases B <;> rfl,
   by intro A B y z u; intros; cases A <;> cases B <;> rfl,
   fun B C z => by cases B <;> rfl,
   fun B C z => by cases B <;> rfl⟩
theorem apick_cases {B : Bool} {X Y : Prop} (h1 : B = true → X) (h2 : B = false → Y) : apick (.val (.bool B)) X Y := by cases B with | false => exact h2 rfl | true => exact h1 rfl
theorem gpick_cases {B : Bool} {X Y Z : Prop} (h1 : B = true → X) (h2 : B = false → Y) : gpick (.val (.bool B)) X Y Z := by cases B with | false => exact h2 rfl | true => exact h1 rfl
theorem lod_one {v : AV} {σ : AH} : lod (.rop [v] 0) σ = some v := rfl
theorem box_frz {x : AV} {xs : List AV} {σ : AH} {k : AV → AH → Prop} (hx : acells x = some xs) (h : k (.rop xs 0) σ) : abox x σ fun v σ => frz v σ k := by
  unfold abox; rw [hx]
  exact fun φ hφ => frz_cell hφ rfl h
theorem new_frz {x : AV} {zs xs : List AV} {n : Nat} {σ : AH} {k : AV → AH → Prop} (hx : acells x = some xs) (hn : xs.length = n) (hz : zs.length = n) (h1 : ∀ y, y ∈ xs → y.one = true) (h : k (.rop xs 0) σ) :
    new zs σ fun v σ => sto n v x σ fun σ => frz v σ k := by
  intro φ hφ
  refine sto_own (es := [zs]) (cs := xs) (by rw [AH.set_same, hz]) (by simp) (by simpa using hz) hx hn h1 ?_
  simp only [List.set_cons_zero, AH.set_set]
  exact frz_cell hφ hn h
theorem frz_own {φ n sz : Nat} {es : List (List AV)} {σ : AH} {k : AV → AH → Prop} (hφ : σ φ = none) (hn : es.length = n) (hz : ∀ c, c ∈ es → c.length = sz) (h : k (.ro es) σ) : frz (.own φ 0 0 n) (σ.set φ ⟨0, sz, es⟩) k := by
  subst hn
  refine ⟨.ro es, σ, .set (.refl σ) _ hφ, .own (AH.set_same ..) hφ rfl (by simp) rfl (fun i hi => ?_) (fun i j _ _ => by rw [Nat.zero_add]; exact .same _), h⟩
  exact hz _ (by rw [List.getD, List.getElem?_eq_getElem hi]; exact List.getElem_mem hi)
theorem bsl_frz {z : List AV} {n sz : Nat} {ps : List (Nat × AV)} {es : List (List AV)} {σ : AH} {k : AV → AH → Prop} (he : afillS sz (List.replicate n z) ps = some es) (hb : n * sz ≤ 16777216) (hn : es.length = n) (hz : ∀ c, c ∈ es → c.length = sz)
    (h : k (.ro es) σ) : bsl sz z n ps σ fun v σ => frz v σ k := by
  unfold bsl; rw [he]
  refine ⟨hb, ?_⟩
  split
  · rename_i c
    obtain rfl : es = [] := List.length_eq_zero_iff.1 (by rw [hn, c])
    exact ⟨.ro [], σ, .refl σ, .emp, h⟩
  · exact fun φ hφ => frz_own hφ hn hz h
theorem jn_of {X : Type} {r : X → AH → Prop} {f : (X → AH → Prop) → Prop} (P : X → AH → Prop) (hr : ∀ x σ, P x σ → r x σ) (hf : ∀ k : X → AH → Prop, (∀ x σ, P x σ → k x σ) → f k) : jn r f := hf r hr
theorem idx_ro {X : Type} {enc : X → List AV} {es : List X} {sz i : Nat} {σ : AH} (h : i < es.length) (hl : ∀ x, (enc x).length = sz) : idx sz (.ro (es.map enc)) (.val (.int .i64 (i : Int))) σ = some (.rop (enc es[i]) 0) := by
  have e : (es.map enc).getD i [] = enc es[i] := by simp [List.getD, h]
  have h1 : (i : Int) < ((es.map enc).length : Int) := by simp; omega
  simp only [idx, Int.toNat_natCast, e]
  rw [if_pos ⟨by omega, h1, hl _⟩]
theorem idx_roI {X : Type} {enc : X → List AV} {es : List X} {sz : Nat} {i : Int} {σ : AH} (h0 : 0 ≤ i) (h : i.toNat < es.length) (hl : ∀ x, (enc x).length = sz) : idx sz (.ro (es.map enc)) (.val (.int .i64 i)) σ = some (.rop (enc es[i.toNat]) 0) := by
  have := idx_ro (σ := σ) h hl
  rwa [show ((i.toNat : Nat) : Int) = i by omega] at this
theorem len_ro {X : Type} (enc : X → List AV) (es : List X) : lenS (.ro (es.map enc)) = some (.val (.int .i64 (es.length : Int))) := by simp [lenS]
theorem acallv_clo {P : Program} {f : FuncId} {first cap args : List AV} {σ : AH} {K : AEnd → AH → Prop} (h : acall P f (first ++ (args ++ cap)) σ K) : acallv P (.clo (.func f) first cap) args σ K := h
theorem sbin_neq' (a b : ByteArray) : sbin .neq (.val (.string a)) (.val (.string b)) = some (.val (.bool (!decide (a = b)))) := sbin_neq a b
theorem sbin_eql' (a b : ByteArray) : sbin .eql (.val (.string a)) (.val (.string b)) = some (.val (.bool (decide (a = b)))) := sbin_eql a b
structure Dat where
  kind : Int
  parent : Int
  num : Int
  name : ByteArray
  deriving Inhabited
def encDat (x : Dat) : List AV := [iv x.kind, iv x.parent, iv x.num, str x.name]
abbrev roD (xs : List Dat) : AV := .ro (xs.map encDat)
theorem len_encDat (x : Dat) : (encDat x).length = 4 := rfl
theorem one_encDat (x : Dat) : ∀ y, y ∈ encDat x → y.one = true := by
  intro y hy
  simp only [encDat, List.mem_cons, List.not_mem_nil, or_false] at hy
  rcases hy with rfl | rfl | rfl | rfl <;> rfl
theorem box_encDat {x : Dat} {σ : AH} {k : AV → AH → Prop} (h : k (.rop (encDat x) 0) σ) : abox (.agg (encDat x)) σ fun v σ => frz v σ k := box_frz rfl h
theorem new_encDat {x : Dat} {zs : List AV} {σ : AH} {k : AV → AH → Prop} (hz : zs.length = 4) (h : k (.rop (encDat x) 0) σ) : new zs σ fun v σ => sto 4 v (.agg (encDat x)) σ fun σ => frz v σ k := new_frz rfl rfl hz (one_encDat x) h
structure OpD where
  kind : Int
  a : Int
  b : Int
  c : Int
  d : Int
  name : ByteArray
  data : List Dat
  deriving Inhabited
def encOp (x : OpD) : List AV := [iv x.kind, iv x.a, iv x.b, iv x.c, iv x.d, str x.name, roD x.data]
abbrev roO (xs : List OpD) : AV := .ro (xs.map encOp)
theorem len_encOp (x : OpD) : (encOp x).length = 7 := rfl
theorem one_encOp (x : OpD) : ∀ y, y ∈ encOp x → y.one = true := by
  intro y hy
  simp only [encOp, List.mem_cons, List.not_mem_nil, or_false] at hy
  rcases hy with rfl | rfl | rfl | rfl | rfl | rfl | rfl <;> rfl
theorem box_encOp {x : OpD} {σ : AH} {k : AV → AH → Prop} (h : k (.rop (encOp x) 0) σ) : abox (.agg (encOp x)) σ fun v σ => frz v σ k := box_frz rfl h
theorem new_encOp {x : OpD} {zs : List AV} {σ : AH} {k : AV → AH → Prop} (hz : zs.length = 7) (h : k (.rop (encOp x) 0) σ) : new zs σ fun v σ => sto 7 v (.agg (encOp x)) σ fun σ => frz v σ k := new_frz rfl rfl hz (one_encOp x) h
structure Blk where
  args : Int
  ops : List OpD
  deriving Inhabited
def encBlk (x : Blk) : List AV := [iv x.args, roO x.ops]
abbrev roBk (xs : List Blk) : AV := .ro (xs.map encBlk)
theorem len_encBlk (x : Blk) : (encBlk x).length = 2 := rfl
theorem one_encBlk (x : Blk) : ∀ y, y ∈ encBlk x → y.one = true := by
  intro y hy
  simp only [encBlk, List.mem_cons, List.not_mem_nil, or_false] at hy
  rcases hy with rfl | rfl <;> rfl
theorem box_encBlk {x : Blk} {σ : AH} {k : AV → AH → Prop} (h : k (.rop (encBlk x) 0) σ) : abox (.agg (encBlk x)) σ fun v σ => frz v σ k := box_frz rfl h
theorem new_encBlk {x : Blk} {zs : List AV} {σ : AH} {k : AV → AH → Prop} (hz : zs.length = 2) (h : k (.rop (encBlk x) 0) σ) : new zs σ fun v σ => sto 2 v (.agg (encBlk x)) σ fun σ => frz v σ k := new_frz rfl rfl hz (one_encBlk x) h
structure Cor where
  kind : Int
  parent : Int
  a : Int
  b : Int
  name : ByteArray
  data : List Dat
  deriving Inhabited
def encCor (x : Cor) : List AV := [iv x.kind, iv x.parent, iv x.a, iv x.b, str x.name, roD x.data]
/-- What lies where. -/
theorem RT : (∀ (x : Dat) (σ : AH), lod (.rop (encDat x) 0) σ = some (iv x.kind)) ∧
  (∀ x : Dat, fldV 0 (.agg (encDat x)) = some (iv x.kind)) ∧
  (∀ (x : Dat) (σ : AH), lod (.rop (encDat x) 1) σ = some (iv x.parent)) ∧
  (∀ x : Dat, fldV 1 (.agg (encDat x)) = some (iv x.parent)) ∧
  (∀ (x : Dat) (σ : AH), lod (.rop (encDat x) 2) σ = some (iv x.num)) ∧
  (∀ x : Dat, fldV 2 (.agg (encDat x)) = some (iv x.num)) ∧
  (∀ (x : Dat) (σ : AH), lod (.rop (encDat x) 3) σ = some (str x.name)) ∧
  (∀ x : Dat, fldV 3 (.agg (encDat x)) = some (str x.name)) ∧
  (∀ (x : Dat) (σ : AH), lodA 4 (.rop (encDat x) 0) σ = some (.agg (encDat x))) ∧
  (∀ xs : List Dat, lenS (.ro (xs.map encDat)) = some (iv (xs.length : Int))) ∧
  (∀ (x : OpD) (σ : AH), lod (.rop (encOp x) 0) σ = some (iv x.kind)) ∧
  (∀ x : OpD, fldV 0 (.agg (encOp x)) = some (iv x.kind)) ∧
  (∀ (x : OpD) (σ : AH), lod (.rop (encOp x) 1) σ = some (iv x.a)) ∧
  (∀ x : OpD, fldV 1 (.agg (encOp x)) = some (iv x.a)) ∧
  (∀ (x : OpD) (σ : AH), lod (.rop (encOp x) 2) σ = some (iv x.b)) ∧
  (∀ x : OpD, fldV 2 (.agg (encOp x)) = some (iv x.b)) ∧
  (∀ (x : OpD) (σ : AH), lod (.rop (encOp x) 3) σ = some (iv x.c)) ∧
  (∀ x : OpD, fldV 3 (.agg (encOp x)) = some (iv x.c)) ∧
  (∀ (x : OpD) (σ : AH), lod (.rop (encOp x) 4) σ = some (iv x.d)) ∧
  (∀ x : OpD, fldV 4 (.agg (encOp x)) = some (iv x.d)) ∧
  (∀ (x : OpD) (σ : AH), lod (.rop (encOp x) 5) σ = some (str x.name)) ∧
  (∀ x : OpD, fldV 5 (.agg (encOp x)) = some (str x.name)) ∧
  (∀ (x : OpD) (σ : AH), lod (.rop (encOp x) 6) σ = some (roD x.data)) ∧
  (∀ x : OpD, fldV 6 (.agg (encOp x)) = some (roD x.data)) ∧
  (∀ (x : OpD) (σ : AH), lodA 7 (.rop (encOp x) 0) σ = some (.agg (encOp x))) ∧
  (∀ xs : List OpD, lenS (.ro (xs.map encOp)) = some (iv (xs.length : Int))) ∧
  (∀ (x : Blk) (σ : AH), lod (.rop (encBlk x) 0) σ = some (iv x.args)) ∧
  (∀ x : Blk, fldV 0 (.agg (encBlk x)) = some (iv x.args)) ∧
  (∀ (x : Blk) (σ : AH), lod (.rop (encBlk x) 1) σ = some (roO x.ops)) ∧
  (∀ x : Blk, fldV 1 (.agg (encBlk x)) = some (roO x.ops)) ∧
  (∀ (x : Blk) (σ : AH), lodA 2 (.rop (encBlk x) 0) σ = some (.agg (encBlk x))) ∧
  (∀ xs : List Blk, lenS (.ro (xs.map encBlk)) = some (iv (xs.length : Int))) ∧
  (∀ (x : Cor) (σ : AH), lod (.rop (encCor x) 0) σ = some (iv x.kind)) ∧
  (∀ x : Cor, fldV 0 (.agg (encCor x)) = some (iv x.kind)) ∧
  (∀ (x : Cor) (σ : AH), lod (.rop (encCor x) 1) σ = some (iv x.parent)) ∧
  (∀ x : Cor, fldV 1 (.agg (encCor x)) = some (iv x.parent)) ∧
  (∀ (x : Cor) (σ : AH), lod (.rop (encCor x) 2) σ = some (iv x.a)) ∧
  (∀ x : Cor, fldV 2 (.agg (encCor x)) = some (iv x.a)) ∧
  (∀ (x : Cor) (σ : AH), lod (.rop (encCor x) 3) σ = some (iv x.b)) ∧
  (∀ x : Cor, fldV 3 (.agg (encCor x)) = some (iv x.b)) ∧
  (∀ (x : Cor) (σ : AH), lod (.rop (encCor x) 4) σ = some (str x.name)) ∧
  (∀ x : Cor, fldV 4 (.agg (encCor x)) = some (str x.name)) ∧
  (∀ (x : Cor) (σ : AH), lod (.rop (encCor x) 5) σ = some (roD x.data)) ∧
  (∀ x : Cor, fldV 5 (.agg (encCor x)) = some (roD x.data)) ∧
  (∀ (x : Cor) (σ : AH), lodA 6 (.rop (encCor x) 0) σ = some (.agg (encCor x))) ∧
  (∀ xs : List Cor, lenS (.ro (xs.map encCor)) = some (iv (xs.length : Int))) :=
  ⟨fun _ _ => id rfl, fun _ => id rfl, fun _ _ => id rfl, fun _ => id rfl, fun _ _ => id rfl, fun _ => id rfl, fun _ _ => id rfl, fun _ => id rfl, fun _ _ => id rfl, len_ro _, fun _ _ => id rfl, fun _ => id rfl, fun _ _ => id rfl, fun _ => id rfl, fun _ _ => id rfl, fun _ => id rfl, fun _ _ => id rfl, fun _ => id rfl, fun _ _ => id rfl, fun _ => id rfl, fun _ _ => id rfl, fun _ => id rfl, fun _ _ => id rfl, fun _ => id rfl, fun _ _ => id rfl, len_ro _, fun _ _ => id rfl, fun _ => id rfl, fun _ _ => id rfl, fun _ => id rfl, fun _ _ => id rfl, len_ro _, fun _ _ => id rfl, fun _ => id rfl, fun _ _ => id rfl, fun _ => id rfl, fun _ _ => id rfl, fun _ => id rfl, fun _ _ => id rfl, fun _ => id rfl, fun _ _ => id rfl, fun _ => id rfl, fun _ _ => id rfl, fun _ => id rfl, fun _ _ => id rfl, len_ro _⟩
end Go.Proofs.YtggnjjalfnhiiaaGreatDoor.E
