/- The engine, part 32: functions checked against syntax. -/
import Derived.Test.YtjfdgijgkbojnaaE31
set_option linter.unusedSectionVars false
namespace Go.Proofs.Ytjfdgijgkbojnaa.E
open Go Go.RowKit
variable [Lam]

def okOne (T : Tab) (r : ResultVar) (t : List SV) (d : Nat) (x : Sx) (K : SV → Nat → Sx → Bool) : Bool := match r with
  | .tmp s => K (t.getD s .any) d x
  | .cell s ty => match symE T (.load ty (.tmp s)) (evS t), x with
    | some e, .og e' k => eqE d e e' && K (.var d) (d + 1) k
    | _, _ => false
def okMany (T : Tab) (t : List SV) : List ResultVar → List SV → Nat → Sx → Bool
  | [], acc, d, x => match x with
    | .rets xs => eqvs d acc xs
    | _ => false
  | r :: rs, acc, d, x => okOne T r t d x fun s d x => okMany T t rs (acc ++ [s]) d x
def okRes (T : Tab) (rs : List ResultVar) (t : List SV) (d : Nat) (x : Sx) : Bool := match rs with
  | [r] => okOne T r t d x fun s d x => match x with
    | .ret v => eqv d s v
    | _ => false
  | rs => okMany T t rs [] d x
def initS (k n : Nat) : List SV := (List.range k).map .var ++ List.replicate (n - k) .unit
def endK (T : Tab) (rs : List ResultVar) : KS := fun ax t d _ x => match ax with
  | .normal => okRes T rs t d x
  | .ret => okRes T rs t d x
  | .exit _ => false
def okF (T : Tab) (fn : Func) (k : Nat) (x : Sx) : Bool := match fn.body with
  | some c => okC T 1 c (initS k fn.ntmps) k 0 (endK T fn.results.toList) x
  | none => false

section
variable {P : Program} {T : Tab} {R : AEnd → AH → Prop} {ks : List Kont}
theorem okOne_ok {r : ResultVar} {t : List SV} {ρ : List AV} {x : Sx} {σ : AH} {K : SV → Nat → Sx → Bool} {k : AV → Prop} (h : okOne T r t ρ.length x K = true) (hw : WF ρ.length t) (hd : den P T R x ρ ks σ)
    (hk : ∀ s ρ' x', K s ρ'.length x' = true → (s.lt ρ'.length) → (∀ u ∈ t, dv ρ' u = dv ρ u) → ρ.length ≤ ρ'.length → (∀ u : SV, u.lt ρ.length → dv ρ' u = dv ρ u) → den P T R x' ρ' ks σ → k (dv ρ' s)) : bone T (t.map (dv ρ)) σ k r := by
  cases r with
  | tmp s =>
    simp only [bone, map_getD]
    exact hk _ ρ x h (hw.at s) (fun _ _ => rfl) (Nat.le_refl _) (fun _ _ => rfl) hd
  | cell s ty =>
    simp only [okOne] at h
    split at h
    case h_2 => cases h
    rename_i e e' k' he
    simp only [Bool.and_eq_true] at h
    simp only [den] at hd
    have hb : bload T ty ((t.map (dv ρ)).getD s .any) σ = bval T (.load ty (.tmp s)) (aeval (t.map (dv ρ))) σ := rfl
    simp only [bone, hb]
    rw [← symE_ok he (dv ρ) (aeval_map ρ t) σ, ← eqE_ok h.1]
    refine og_mono (fun _ h => h) (fun v hv => ?_) hd
    have := hk (.var ρ.length) (v :: ρ) _ h.2 (Nat.lt_succ_self _) (fun u hu => dv_push v (hw u hu)) (Nat.le_succ _) (fun u hu => dv_push v hu) hv
    rw [dv_top] at this
    exact this
theorem okMany_ok {σ : AH} (rs : List ResultVar) : ∀ {t : List SV} {acc : List SV} {ρ : List AV} {x : Sx} {k : List AV → Prop}, okMany T t rs acc ρ.length x = true → WF ρ.length t → WF ρ.length acc → den P T R x ρ ks σ →
    (∀ vs, aret (.tup (acc.map (dv ρ) ++ vs)) σ R → k vs) → bmany T (t.map (dv ρ)) σ rs k := by
  induction rs with
  | nil =>
    intro t acc ρ x k h hw ha hd hk
    simp only [okMany] at h
    split at h
    case h_2 => cases h
    refine hk [] ?_
    rw [List.append_nil, ← eqvs_ok h]
    exact hd
  | cons r rs ih =>
    intro t acc ρ x k h hw ha hd hk
    simp only [bmany]
    simp only [okMany] at h
    refine okOne_ok h hw hd ?_
    intro s ρ' x' h' hs ht hl hu hd'
    have e : t.map (dv ρ) = t.map (dv ρ') := List.map_congr_left fun u hu' => (ht u hu').symm
    rw [e]
    refine ih h' (hw.mono hl) ?_ hd' ?_
    · intro u hu'
      rcases List.mem_append.mp hu' with hu' | hu'
      · exact SV.lt_mono (ha u hu') hl
      · obtain rfl := List.mem_singleton.mp hu'; exact hs
    · intro vs hr
      refine hk _ ?_
      have e2 : acc.map (dv ρ') = acc.map (dv ρ) := List.map_congr_left fun u hu' => hu u (ha u hu')
      rw [List.map_append, e2, List.map_cons, List.map_nil, List.append_assoc] at hr
      exact hr
theorem okRes_ok {rs : List ResultVar} {t : List SV} {ρ : List AV} {x : Sx} {σ : AH} (h : okRes T rs t ρ.length x = true) (hw : WF ρ.length t) (hd : den P T R x ρ ks σ) : bres T rs (t.map (dv ρ)) σ fun v => aret v σ R := by
  unfold okRes at h
  unfold bres
  split at h
  · refine okOne_ok h hw hd ?_
    intro s ρ' x' h' hs ht hl hu hd'
    split at h'
    case h_2 => cases h'
    rw [← eqv_ok h']
    exact hd'
  · rename_i hne
    split
    · exact absurd rfl (hne _)
    · exact okMany_ok _ h hw (fun _ h => by cases h) hd (fun vs hr => by simpa using hr)
theorem initS_map (args : List AV) (n : Nat) : (initS args.length n).map (dv args.reverse) = pad n args := by
  unfold initS pad
  rw [List.map_append, List.map_map, List.map_replicate]
  congr 1
  apply List.ext_getElem (by simp)
  intro i h1 h2
  simp only [List.getElem_map, List.getElem_range, Function.comp, dv, List.length_reverse]
  simp at h1
  simp [List.getD, List.getElem?_reverse (show args.length - 1 - i < args.length by omega), show args.length - 1 - (args.length - 1 - i) = i by omega, h2]
theorem initS_wf (k n : Nat) : WF k (initS k n) := by
  intro s hs
  rcases List.mem_append.mp hs with hs | hs
  · obtain ⟨i, hi, rfl⟩ := List.mem_map.mp hs
    exact List.mem_range.mp hi
  · obtain rfl := List.eq_of_mem_replicate hs; trivial
/-- A mark that was laid since is turned: nothing that is looked at. -/
theorem Stp.mark {κ0 κ : Kap} {σ0 σ : AH} {w0 w : World} {k : Nat} (hr0 : Rel κ0 σ0 w0) (h : Stp κ0 σ0 w0 κ σ w) (hk : w0.heap.size ≤ k) (hm : w.heap[k]? = some (.deferred (some []))) : Stp κ0 σ0 w0 κ σ (w.putObj k (.deferred none)) := by
  have hr := h.rel
  have other : ∀ b, b ≠ k → (w.putObj k (.deferred none)).heap[b]? = w.heap[b]? := fun b hb => World.putObj_heap_other hb
  have hsz : (w.putObj k (.deferred none)).heap.size = w.heap.size := by simp [World.putObj]
  have cellne : ∀ b o v, w.cell? ⟨b, o, none⟩ = some v → b ≠ k := by
    rintro b o v hc rfl
    unfold World.cell? at hc
    rw [hm] at hc; cases hc
  have famne : ∀ φ F r, σ φ = some F → κ.ρ φ F.st = some r → r.b ≠ k := by
    rintro φ F r hF hρ rfl
    obtain ⟨r', g1, _, g3⟩ := hr.has φ F hF
    rw [hρ] at g1; obtain rfl := Option.some.inj g1
    obtain ⟨c, e, fz, hh, _⟩ := g3.row
    rw [hm] at hh; cases hh
  refine ⟨h.ext, ⟨?_, hr.inj, ?_, hr.off, hr.up, hr.fin, ?_, hr.bw, ?_, hr.kp⟩, ⟨by rw [hsz]; exact h.fra.size, ?_, h.fra.ids⟩⟩
  · intro φ F hF
    obtain ⟨r, h1, h2, h3⟩ := hr.has φ F hF
    exact ⟨r, h1, h2, h3.same (.refl κ) (other _ (famne φ F r hF h1))⟩
  · intro b o v hM
    have hc := hr.mem b o v hM
    rw [cell?_heap (other b (cellne b o v hc))]; exact hc
  · refine hr.bel.trans ⟨rfl, rfl, rfl, Nat.le_of_eq hsz.symm, fun b hb => other b ?_⟩
    have h1 := h.ext.B
    have h2 := hr0.bsize
    have : b < κ.B := hb
    omega
  · intro l o hl
    obtain ⟨h1, h2⟩ := hr.obj l o hl
    have hlt := (Array.getElem?_eq_some_iff.1 (hr0.obj l o hl).1).1
    exact ⟨by rw [other l (by omega)]; exact h1, h2⟩
  · intro b hb hu
    obtain ⟨c1, c2, c3⟩ := h.fra.blk b hb hu
    exact ⟨by rw [other b (by omega)]; exact c1, c2, c3⟩
theorem leaves_marks {P : Program} {fn : Func} {tmps : Array Value} {R' : Ending → World → Prop} {u : FrameMode} (hu : u ≠ .run) {κ κ' : Kap} {σ σ' : AH} {w : World} (hr0 : Rel κ σ w) (l : List Deferred) : ∀ w', Stp κ σ w κ' σ' w' →
    (∀ d, d ∈ l → ∃ k, d = { target := .collected k, args := #[] } ∧ w.heap.size ≤ k ∧ w'.heap[k]? = some (.deferred (some []))) → l.Pairwise (· ≠ ·) →
    (∀ w2, Stp κ σ w κ' σ' w2 → LeavesInM (FR none) 0 P fn tmps R' [] u w2) → LeavesInM (FR none) 0 P fn tmps R' l u w' := by
  induction l with
  | nil => intro w' h _ _ fin; exact fin w' h
  | cons d l ih =>
    intro w' h hm hp fin
    obtain ⟨k, rfl, h2, h3⟩ := hm d List.mem_cons_self
    obtain ⟨p1, p2⟩ := List.pairwise_cons.1 hp
    refine ⟨hu, .inl ⟨k, _, rfl, run_takeDeferred h3, ih _ (h.mark hr0 h2 h3) ?_ p2 fin⟩⟩
    intro d hd
    obtain ⟨k', rfl, g2, g3⟩ := hm d (List.mem_cons_of_mem _ hd)
    refine ⟨k', rfl, g2, ?_⟩
    rw [World.putObj_heap_other]; · exact g3
    rintro rfl
    exact p1 _ hd rfl
/-- A function by syntax that its code was checked against. -/
theorem acall_okF (hT : TabOk P T) {f : FuncId} {fn : Func} {args ρ : List AV} {σ : AH} (hf : P.funcs[f]? = some fn) (hn : (fn.name == "runtime.NumGoroutine") = false) (x : Sx) (h : okF T fn ρ.length x = true) (hρ : args.reverse = ρ)
    (hd : den P T R x ρ [] σ) : acall P f args σ R := by
  subst hρ
  unfold okF at h
  split at h
  case h_2 => cases h
  rename_i c hb
  have hl : args.reverse.length = args.length := List.length_reverse
  refine ⟨fn, hf, by rw [hb]; rfl, hn, fun κ w vs hr hv => ?_⟩
  refine (callsIn_FR (r := none) (n := 0)).1 (callsIn_of_wp_marks (F := FR none) (n := 0) hf hb trivial ?_ rfl)
  have he : EnvR κ (pad fn.ntmps args) (vs.toArray ++ Array.replicate (fn.ntmps - vs.toArray.size) undef) := by
    refine .ofList ?_
    have : (vs.toArray ++ Array.replicate (fn.ntmps - vs.toArray.size) undef).toList = vs ++ List.replicate (fn.ntmps - args.length) undef := by simp [hv.1]
    rw [this]
    refine hv.append ⟨by simp, fun i hi => ?_⟩
    have hi' : i < fn.ntmps - args.length := by simpa using hi
    simp only [List.getD, List.getElem?_replicate, hi', if_true, Option.getD_some]
    exact undefR κ
  have hs : swp P c (bqq T fn.results.toList R) (pad fn.ntmps args) σ := by
    rw [← initS_map]
    refine okC_ok hT c R 1 _ args.reverse _ x _ [] σ (by rw [hl] at h ⊢; exact h) (by rw [hl]; exact initS_wf _ _) hd ?_ (fun v a σ g => g)
    intro ax t' ρ' ks' x' σ' _ g1 g2 g3
    cases ax with
    | normal => exact okRes_ok g1 g2 g3
    | ret => exact okRes_ok g1 g2 g3
    | exit id => cases g1
  refine Code.wpIn_mono ?_ (hs none 0 w.heap.size κ w _ hr he ⟨Nat.le_refl _, (fun d hd => by cases hd), .nil, (fun l hl => by cases hl)⟩)
  rintro e a w' ⟨κ', x, t', σ', h1, h2, h3, h4, h5⟩
  have fin : ∀ (hq : og (ares T fn.results.toList t' σ') fun v => aret v σ' R), LeavesInM (FR none) 0 P fn a.tmps (fun e w' => ∃ κ' ae σ', R ae σ' ∧ Stp κ σ w κ' σ' w' ∧ EdR κ' ae e) a.defers .returning w' := by
    intro hq
    obtain ⟨v, hv1, v', σ'', hi, hR⟩ := og_some hq
    refine leaves_marks (by simp) hr _ _ h2 h4.mark h4.apart fun w2 r2 => ?_
    obtain ⟨u, g1, g2⟩ := run_results hT (w := w2) r2.rel h3 hv1
    obtain ⟨κ2, k1, k2⟩ := hi κ' w2 u r2.rel g2
    exact ⟨u, g1, κ2, .ret v', σ'', hR, r2.trans k1, k2⟩
  cases e <;> cases x <;> try exact h5.elim
  · exact fin (bres_ok h1)
  · exact h1.elim
  · exact fin (bres_ok h1)
  · obtain ⟨u, rfl, hv⟩ := h5
    obtain ⟨v', σ'', hi, hR⟩ := h1
    refine leaves_marks (by simp) hr _ _ h2 h4.mark h4.apart fun w2 r2 => ?_
    obtain ⟨κ2, k1, k2⟩ := hi κ' w2 u r2.rel hv
    exact ⟨κ2, .pan v', σ'', hR, r2.trans k1, u, rfl, k2⟩
end
end Go.Proofs.Ytjfdgijgkbojnaa.E
