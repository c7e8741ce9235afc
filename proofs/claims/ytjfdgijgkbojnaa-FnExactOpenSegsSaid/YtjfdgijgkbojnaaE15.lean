/- The engine, part 15: what code has to come to, reckoned; functions. -/
import Derived.Test.YtjfdgijgkbojnaaE14
set_option linter.unusedSectionVars false
namespace Go.Proofs.Ytjfdgijgkbojnaa.E
open Go Go.RowKit
variable [Lam]

/-- Hints: where slots are forgotten (a mask of those that are kept), and in which order a region that draws its order is looked at. -/
structure Ann where
  masks : List (Nat × Nat)
  perms : List (Nat × List Nat)
def lk {α : Type} (p : Nat) : List (Nat × α) → Option α
  | [] => none
  | (q, m) :: r => match Nat.beq q p with | true => some m | false => lk p r
def forget : Nat → List AV → List AV
  | _, [] => []
  | m, v :: t => (match Nat.beq (m % 2) 1 with | true => v | false => .any) :: forget (m / 2) t
def fg (an : Ann) (p : Nat) (t : List AV) : List AV := match lk p an.masks with
  | some m => forget m t
  | none => t
theorem forget_ok {κ : Kap} : ∀ (t : List AV) (m : Nat) (vs : List Value), VRs κ t vs → VRs κ (forget m t) vs := by
  intro t
  induction t with
  | nil => intro m vs h; exact h
  | cons v t ih =>
    intro m vs h
    obtain ⟨u, us, rfl, h1, h2⟩ := h.uncons
    refine VRs.cons ?_ (ih _ _ h2)
    split
    · exact h1
    · exact .any _
theorem EnvR.toList {κ : Kap} {t : List AV} {a : Array Value} (h : EnvR κ t a) : VRs κ t a.toList :=
  ⟨by rw [h.size]; simp, fun i hi => by have := h.get i hi; simpa [List.getD, Array.getD_eq_getD_getElem?] using this⟩
theorem EnvR.ofList {κ : Kap} {t : List AV} {a : Array Value} (h : VRs κ t a.toList) : EnvR κ t a :=
  ⟨by rw [h.1]; simp, fun i hi => by have := h.2 i hi; simpa [List.getD, Array.getD_eq_getD_getElem?] using this⟩
theorem EnvR.fg {κ : Kap} {t : List AV} {a : Array Value} (h : EnvR κ t a) (an : Ann) (p : Nat) : EnvR κ (fg an p t) a := by
  unfold E.fg
  split
  · exact .ofList (forget_ok _ _ _ h.toList)
  · exact h

theorem lp_mono {X : Type} {F F' : (X → AH → Prop) → X → AH → Prop} (h : ∀ R x σ, F R x σ → F' R x σ) {x : X} {σ : AH} (k : lp F x σ) : lp F' x σ := by
  obtain ⟨I, μ, hI, hr⟩ := k
  exact ⟨I, μ, hI, fun x σ hi => h _ _ _ (hr x σ hi)⟩
theorem thn_mono {n n' : List AV → AH → Prop} {Q Q' : QT} (h : ∀ t σ, n t σ → n' t σ) (k : ∀ x t σ, Q x t σ → Q' x t σ) : ∀ x t σ, thn n Q x t σ → thn n' Q' x t σ := by
  intro x t σ hx
  cases x <;> first | exact h _ _ hx | exact k _ _ _ hx
/-! ### functions -/
/-- What is known of one state is known of another one. -/
def Imp (v : AV) (σ : AH) (v' : AV) (σ' : AH) : Prop := ∀ κ w u, Rel κ σ w → VR κ v u → ∃ κ', Stp κ σ w κ' σ' w ∧ VR κ' v' u
def aret (v : AV) (σ : AH) (R : AEnd → AH → Prop) : Prop := ∃ v' σ', Imp v σ v' σ' ∧ R (.ret v') σ'
def apan (v : AV) (σ : AH) (R : AEnd → AH → Prop) : Prop := ∃ v' σ', Imp v σ v' σ' ∧ R (.pan v') σ'
theorem Imp.sub {v : AV} {σ σ' : AH} (h : AH.Sub σ' σ) : Imp v σ v σ' := fun κ _ _ hr hv => ⟨κ, Stp.sub hr h, hv⟩
theorem Imp.trans {a b c : AV} {σ σ' σ'' : AH} (h : Imp a σ b σ') (k : Imp b σ' c σ'') : Imp a σ c σ'' := by
  intro κ w u hr hv
  obtain ⟨κ1, h1, h2⟩ := h κ w u hr hv
  obtain ⟨κ2, k1, k2⟩ := k κ1 w u h1.rel h2
  exact ⟨κ2, h1.trans k1, k2⟩
theorem aret_sub {v : AV} {σ σ' : AH} {R : AEnd → AH → Prop} (h : AH.Sub σ' σ) (k : R (.ret v) σ') : aret v σ R := ⟨v, σ', .sub h, k⟩
theorem apan_sub {v : AV} {σ σ' : AH} {R : AEnd → AH → Prop} (h : AH.Sub σ' σ) (k : R (.pan v) σ') : apan v σ R := ⟨v, σ', .sub h, k⟩
def aone (T : Tab) (t : List AV) (σ : AH) : ResultVar → Option AV
  | .tmp s => some (t.getD s .any)
  | .cell s ty => aload T ty (t.getD s .any) σ
def amany (T : Tab) (t : List AV) (σ : AH) : List ResultVar → Option (List AV)
  | [] => some []
  | r :: rs => match aone T t σ r, amany T t σ rs with
    | some v, some vs => some (v :: vs)
    | _, _ => none
def ares (T : Tab) (rs : List ResultVar) (t : List AV) (σ : AH) : Option AV :=
  match rs with
  | [r] => aone T t σ r
  | rs => (amany T t σ rs).map .tup
section
variable {P : Program} {T : Tab} (hT : TabOk P T)
include hT
theorem run_one {κ : Kap} {σ : AH} {w : World} (hr : Rel κ σ w) {t : List AV} {a : Array Value} (he : EnvR κ t a) {r : ResultVar} {v : AV} (h : aone T t σ r = some v) :
    ∃ u, ((match r with | .tmp t => pure (a.getD t undef) | .cell x t => do loadVar t (← asAddr (a.getD x undef))) : Sem Value).run P w = .ok u w ∧ VR κ v u := by
  cases r with
  | tmp s => obtain rfl := Option.some.inj h; exact ⟨_, rfl, he.at s⟩
  | cell s ty =>
    obtain ⟨b, o, g0, u, g1, g2⟩ := run_loadVar hT (w := w) hr (he.at s) h
    exact ⟨u, by simp only [g0, asAddr, Sem.run_bind, Sem.run_pure, Result.andThen_ok]; exact g1, g2⟩
theorem run_many {κ : Kap} {σ : AH} {w : World} (hr : Rel κ σ w) {t : List AV} {a : Array Value} (he : EnvR κ t a) (rs : List ResultVar) : ∀ vs, amany T t σ rs = some vs →
    ∃ us, (rs.mapM fun r => ((match r with | .tmp t => pure (a.getD t undef) | .cell x t => do loadVar t (← asAddr (a.getD x undef))) : Sem Value)).run P w = .ok us w ∧ VRs κ vs us := by
  induction rs with
  | nil => intro vs h; obtain rfl := Option.some.inj h; exact ⟨[], rfl, .nil κ⟩
  | cons r rs ih =>
    intro vs h
    simp only [amany] at h
    split at h
    case h_2 => cases h
    rename_i v vs' h1 h2
    obtain rfl := Option.some.inj h
    obtain ⟨u, g1, g2⟩ := run_one hT (w := w) hr he h1
    obtain ⟨us, k1, k2⟩ := ih _ h2
    refine ⟨u :: us, ?_, .cons g2 k2⟩
    rw [List.mapM_cons]
    simp only [Sem.run_bind, g1, Result.andThen_ok]
    rw [k1]; rfl
theorem run_results {κ : Kap} {σ : AH} {w : World} (hr : Rel κ σ w) {t : List AV} {a : Array Value} (he : EnvR κ t a) {fn : Func} {v : AV} (h : ares T fn.results.toList t σ = some v) :
    ∃ u, (results fn a).run P w = .ok u w ∧ VR κ v u := by
  have key : ∀ vs us, amany T t σ fn.results.toList = some vs → (fn.results.toList.mapM fun r => ((match r with | .tmp t => pure (a.getD t undef) | .cell x t => do loadVar t (← asAddr (a.getD x undef))) : Sem Value)).run P w = .ok us w →
      (results fn a).run P w = .ok (if h : us.toArray.size = 1 then us.toArray[0] else .tuple us.toArray) w := by
    intro vs us _ hm
    unfold results
    have hm' := hm
    rw [Array.mapM_eq_mapM_toList, Sem.run_bind, Sem.run_map]
    unfold Sem.run at hm' ⊢
    erw [hm']
    rfl
  unfold ares at h
  split at h
  · rename_i r hrs
    obtain ⟨us, k1, k2⟩ := run_many hT (w := w) hr he fn.results.toList [v] (by rw [hrs]; simp [amany, h])
    obtain ⟨u, us', rfl, g1, g2⟩ := k2.uncons
    obtain rfl := g2.unnil
    exact ⟨u, key [v] [u] (by rw [hrs]; simp [amany, h]) k1, g1⟩
  · rename_i hne
    obtain ⟨vs, h1, rfl⟩ := Option.map_eq_some_iff.mp h
    obtain ⟨us, k1, k2⟩ := run_many hT (w := w) hr he fn.results.toList vs h1
    refine ⟨.tuple us.toArray, ?_, .tup k2.1 k2.2⟩
    rw [key vs us h1 k1]
    have hl : us.length ≠ 1 := by
      rw [← k2.1]
      intro h
      have : ∀ (rs : List ResultVar) vs, amany T t σ rs = some vs → vs.length = rs.length := by
        intro rs
        induction rs with
        | nil => intro vs h; obtain rfl := Option.some.inj h; rfl
        | cons r rs ih =>
          intro vs h
          simp only [amany] at h
          split at h
          case h_2 => cases h
          rename_i v vs' _ h2
          obtain rfl := Option.some.inj h
          simp [ih _ h2]
      have h3 := this _ _ h1
      rw [h] at h3
      match hh : fn.results.toList, h3 with
      | [r], _ => exact hne r hh
    rw [dif_neg (by simpa using hl)]
end
end Go.Proofs.Ytjfdgijgkbojnaa.E
