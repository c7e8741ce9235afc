/- A call that only grows the world; what a first world is known to hold. -/
import Derived.Test.YtohmmedckdialaaDoorMF
import Derived.Lib.LaidTab
set_option linter.unusedSectionVars false
set_option linter.unusedSimpArgs false
set_option linter.unusedVariables false
namespace Go.Proofs.YtohmmedckdialaaDoor.E
open Go Go.RowKit
theorem cell_below {W w : World} {B g o : Nat} {v : Value} (h : W.cell? ⟨g, o, none⟩ = some v) (hb : Below B W w) (hB : W.heap.size ≤ B) : w.cell? ⟨g, o, none⟩ = some v := by
  have hl : g < B := Nat.lt_of_lt_of_le (World.block_lt_of_cell? (h := h)) hB
  exact (hb.cell (p := ⟨g, o, none⟩) hl).trans h
theorem tab_below {P : Program} {W w : World} {B : Nat} {name : String} {k : IntKind} {zs : List Int} (h : Lib.TabIs P W name k zs) (hb : Below B W w) (hB : W.heap.size ≤ B) : Lib.TabIs P w name k zs := by
  unfold Lib.TabIs World.var? at h ⊢
  cases hg : P.globalNamed name with
  | none => rw [hg] at h; cases h
  | some g =>
    rw [hg] at h
    simp only [Option.bind_some] at h ⊢
    have hl : g < W.heap.size := by
      rcases Nat.lt_or_ge g W.heap.size with h' | h'
      · exact h'
      · rw [Array.getElem?_eq_none h'] at h; cases h
    rw [hb.block g (by omega)]
    exact h
section
variable [L : Lam]
theorem Stp.below {κ : Kap} {σ : AH} {w w' : World} (hr : Rel κ σ w) (h : Below w.heap.size w w') : Stp κ σ w κ σ w' := by
  have other : ∀ b, b < w.heap.size → w'.heap[b]? = w.heap[b]? := h.block
  refine ⟨.refl _, ⟨?_, hr.inj, ?_, hr.off, hr.up, hr.fin, ?_, hr.bw, ?_, hr.kp⟩, ⟨h.size, ?_, fun φ hn _ => ⟨hn, fun _ => rfl⟩⟩⟩
  · intro φ F hF
    obtain ⟨r, h1, h2, h3⟩ := hr.has φ F hF
    exact ⟨r, h1, h2, h3.same (.refl κ) (other _ (hr.block_lt hF h1))⟩
  · intro b o v hM
    rw [cell?_heap (other b (hr.mem_lt hM))]; exact hr.mem b o v hM
  · exact hr.bel.trans (h.mono hr.bsize)
  · intro l o hl
    obtain ⟨h1, h2⟩ := hr.obj l o hl
    exact ⟨by rw [other l (Array.getElem?_eq_some_iff.1 h1).1]; exact h1, h2⟩
  · intro b hb hu
    exact ⟨other b hb, fun _ => rfl, hu⟩
/-- A contract of the library's whose result has no memory, as a call in abstract values. -/
theorem acall_val {P : Program} {f : FuncId} {fn : Func} {args : List AV} {vs0 : List Value} {v : Value} {σ : AH} {R : AEnd → AH → Prop} (hf : P.funcs[f]? = some fn) (hb : fn.body.isNone = false) (hg : (fn.name == "runtime.NumGoroutine") = false)
    (ha : ∀ κ vs, VRs κ args vs → vs = vs0) (h : R (.ret (.val v)) σ) (hc : ∀ κ w, Rel κ σ w → Calls P f vs0.toArray w fun e w' => e = .returned v ∧ Below w.heap.size w w') : acall P f args σ R := by
  refine ⟨fn, hf, hb, hg, fun κ w vs hr hv => ?_⟩
  rw [ha κ vs hv]
  refine (hc κ w hr).mono ?_
  rintro e w' ⟨rfl, hw⟩
  exact ⟨κ, _, σ, h, .below hr hw, .val v⟩
theorem acall_valA {P : Program} {f : FuncId} {fn : Func} {args : List AV} {vs0 : List Value} {v : Value} {a : AV} {σ : AH} {R : AEnd → AH → Prop} (hf : P.funcs[f]? = some fn) (hb : fn.body.isNone = false) (hg : (fn.name == "runtime.NumGoroutine") = false)
    (ha : ∀ κ vs, VRs κ args vs → vs = vs0) (hv : ∀ κ, VR κ a v) (h : R (.ret a) σ) (hc : ∀ κ w, Rel κ σ w → Calls P f vs0.toArray w fun e w' => e = .returned v ∧ Below w.heap.size w w') : acall P f args σ R := by
  refine ⟨fn, hf, hb, hg, fun κ w vs hr hvs => ?_⟩
  rw [ha κ vs hvs]
  refine (hc κ w hr).mono ?_
  rintro e w' ⟨rfl, hw⟩
  exact ⟨κ, _, σ, h, .below hr hw, hv κ⟩
theorem vals_one {a : Value} (κ : Kap) (vs : List Value) (h : VRs κ [.val a] vs) : vs = [a] := by
  have hl := h.1
  match vs, hl with
  | [x], _ =>
    have h0 : VR κ (.val a) x := h.2 0 (by simp)
    cases h0; rfl
theorem vals_two {a b : Value} (κ : Kap) (vs : List Value) (h : VRs κ [.val a, .val b] vs) : vs = [a, b] := by
  have hl := h.1
  match vs, hl with
  | [x, y], _ =>
    have h0 : VR κ (.val a) x := h.2 0 (by simp)
    have h1 : VR κ (.val b) y := h.2 1 (by simp)
    cases h0; cases h1; rfl
/-- A call in abstract values whose result has no memory, as a contract. -/
theorem calls_val {P : Program} {f : FuncId} {args : List AV} {vs : List Value} {v : Value} {κ : Kap} {σ : AH} {w : World} (h : acall P f args σ (fun e σ' => e = .ret (.val v) ∧ σ' = σ)) (hr : Rel κ σ w) (hv : VRs κ args vs) :
    Calls P f vs.toArray w fun e w' => e = .returned v ∧ ∃ κ', Stp κ σ w κ' σ w' := by
  obtain ⟨fn, h1, h2, h3, h4⟩ := h
  refine (h4 κ w vs hr hv).mono ?_
  rintro e w' ⟨κ', ae, σ', ⟨rfl, rfl⟩, hs, hE⟩
  cases e with
  | returned x => cases hE; exact ⟨rfl, κ', hs⟩
  | _ => exact hE.elim
/-- What the first world is known to hold. -/
class Knows (Q : World → Prop) : Prop where
  knows : ∀ κ, L.kp κ → Q κ.W ∧ κ.W.heap.size ≤ κ.B
end
/-- The first world is known to be so. -/
abbrev lamQ (Q : World → Prop) : Lam := ⟨fun _ => none, fun κ => Q κ.W ∧ κ.W.heap.size ≤ κ.B, fun κ κ' E h => by rw [E.W, E.B]; exact h⟩
theorem knowsQ (Q : World → Prop) : @Knows (lamQ Q) Q := @Knows.mk (lamQ Q) Q (fun _ h => h)
theorem relQ {Q : World → Prop} (W : World) (h : Q W) : @Rel (lamQ Q) (kap0 W) ah0 W :=
  @Rel.mk (lamQ Q) (kap0 W) ah0 W (fun _ _ h => by cases h) (fun _ _ _ _ _ _ h => by cases h) (fun _ _ _ h => h) (fun _ _ _ h => by cases h) (fun _ _ _ h => by cases h) ⟨0, fun _ _ => ⟨rfl, fun _ => rfl⟩⟩ (Below.refl _ _) (Nat.le_refl _) (fun _ _ h => by cases h) ⟨h, Nat.le_refl _⟩
theorem calls_rowQ {P : Program} {f : FuncId} {args : List AV} {vs : List Value} {W : World} {Q : World → Prop} (hQ : Q W) (h : @acall (lamQ Q) P f args ah0 (fun e _ => e = .ret (.val (.bool true)))) (hv : VRs (kap0 W) args vs) :
    Calls P f vs.toArray W fun e w' => e = .returned (.bool true) ∧ Below W.heap.size W w' := by
  letI : Lam := lamQ Q
  obtain ⟨fn, h1, h2, h3, h4⟩ := h
  refine (h4 (kap0 W) W vs (relQ W hQ) hv).mono ?_
  rintro e w' ⟨κ', ae, σ', rfl, hs, hE⟩
  have hb := hs.rel.bel
  rw [hs.ext.B, hs.ext.W] at hb
  cases e with
  | returned v => cases hE; exact ⟨rfl, hb⟩
  | _ => exact hE.elim
end Go.Proofs.YtohmmedckdialaaDoor.E
