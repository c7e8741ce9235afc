/- The engine, part 27: operations, checked against syntax. -/
import Derived.Test.YtjfdgijgkbojnaaE26
set_option linter.unusedSectionVars false
namespace Go.Proofs.Ytjfdgijgkbojnaa.E
open Go Go.RowKit
variable [Lam]

def evS (t : List SV) : Operand → SV
  | .tmp i => t.getD i .any
  | .const v => .cst v
  | .global g => .glo g
  | .func f => .fn f
def sput (t : List SV) (d : Option Tmp) (s : SV) : List SV := match d with | some d => t.set d s | none => t
def WF (d : Nat) (t : List SV) : Prop := ∀ s ∈ t, s.lt d
theorem map_getD (ρ : List AV) (t : List SV) (i : Nat) : (t.map (dv ρ)).getD i .any = dv ρ (t.getD i .any) := by
  simp only [List.getD, List.getElem?_map]
  cases t[i]? <;> rfl
theorem aeval_map (ρ : List AV) (t : List SV) (x : Operand) : aeval (t.map (dv ρ)) x = dv ρ (evS t x) := by
  cases x with
  | tmp i => exact map_getD ρ t i
  | _ => rfl
theorem map_sput (ρ : List AV) (t : List SV) (d : Option Tmp) (s : SV) : (sput t d s).map (dv ρ) = aput (t.map (dv ρ)) d (dv ρ s) := by
  cases d with
  | none => rfl
  | some d => exact List.map_set
theorem map_push {ρ : List AV} {t : List SV} (h : WF ρ.length t) (v : AV) : t.map (dv (v :: ρ)) = t.map (dv ρ) :=
  List.map_congr_left fun s hs => dv_push v (h s hs)
theorem WF.mono {d e : Nat} {t : List SV} (h : WF d t) (hde : d ≤ e) : WF e t := fun s hs => SV.lt_mono (h s hs) hde
theorem WF.set {d : Nat} {t : List SV} (h : WF d t) (i : Nat) {s : SV} (hs : s.lt d) : WF d (t.set i s) := by
  intro u hu
  rcases List.mem_or_eq_of_mem_set hu with hu | rfl
  · exact h u hu
  · exact hs
theorem WF.put {d : Nat} {t : List SV} (h : WF d t) (i : Option Tmp) {s : SV} (hs : s.lt d) : WF d (sput t i s) := by
  cases i with
  | none => exact h
  | some i => exact h.set i hs
theorem WF.at {d : Nat} {t : List SV} (h : WF d t) (i : Nat) : (t.getD i .any).lt d := by
  by_cases c : i < t.length
  · rw [show t.getD i .any = t[i] by simp [List.getD, c]]; exact h _ (List.getElem_mem c)
  · rw [show t.getD i .any = .any by simp [List.getD, List.getElem?_eq_none (Nat.le_of_not_lt c)]]; trivial
theorem WF.ev {d : Nat} {t : List SV} (h : WF d t) (x : Operand) : (evS t x).lt d := by
  cases x with
  | tmp i => exact h.at i
  | _ => trivial
def eqB (a b : Bool) : Bool := match a, b with | true, true => true | false, false => true | _, _ => false
theorem eqB_ok {a b : Bool} (h : eqB a b = true) : a = b := by cases a <;> cases b <;> first | rfl | cases h

def okLoud (T : Tab) (o : Oper) (t : List SV) (d : Nat) (x : Sx) (K : List SV → Nat → Sx → Bool) : Bool :=
  match o.op, x with
  | .alloc ty, .new zs k => (match T ty with | some ti => eqVals ti.zero.cells.toList zs | none => false) && K (sput t o.dst (.var d)) (d + 1) k
  | .box _ a, .box a' k => eqv d (evS t a) a' && K (sput t o.dst (.var d)) (d + 1) k
  | .buildSlice ty n ps, .bsl sz z n' ps' k => (match sliceOf T ty with | some te => Nat.beq te.size sz && eqVals te.zero.cells.toList z | none => false) && Nat.beq n n' &&
      eqPs d (ps.toList.map fun p => (p.1, evS t p.2)) ps' && K (sput t o.dst (.var d)) (d + 1) k
  | .store ty a v, .sto n p' v' k => (match T ty with | some ti => Nat.beq ti.size n | none => false) && eqv d (evS t a) p' && eqv d (evS t v) v' && K (sput t o.dst .any) d k
  | .makeSlice ty l c, .mks ty' l' c' k => Nat.beq ty ty' && eqv d (evS t l) l' && eqv d (evS t c) c' && K (sput t o.dst (.var d)) (d + 1) k
  | .makeFunc fn fs cs, .clo fn' fs' cs' k => decide (fn = fn') && eqvs d (fs.toList.map (evS t)) fs' && eqvs d (cs.toList.map (evS t)) cs' && K (sput t o.dst (.var d)) (d + 1) k
  | .makeInterface ty a, .ifc ty' a' k => Nat.beq ty ty' && eqv d (evS t a) a' && K (sput t o.dst (.var d)) (d + 1) k
  | .typeAssert a _ ty ok, .typ a' ty' ok' k => eqv d (evS t a) a' && Nat.beq ty ty' && eqB ok ok' && K (sput t o.dst (.var d)) (d + 1) k
  | .panic a, .pan a' => eqv d (evS t a) a'
  | .call c, .call f xs k => (match c.callee with | .value (.func g) => Nat.beq g f | _ => false) && eqvs d (c.args.toList.map (evS t)) xs && K (sput t o.dst (.var d)) (d + 1) k
  | .call c, .callv f xs k => (match c.callee with | .value h => eqv d (evS t h) f | _ => false) && eqvs d (c.args.toList.map (evS t)) xs && K (sput t o.dst (.var d)) (d + 1) k
  | .call c, .app sz s a k => (match c.callee, c.args.toList with
      | .builtin .append, [s', a'] => (match appOk T c.argTypes with | some n => Nat.beq n sz | none => false) && eqv d (evS t s') s && eqv d (evS t a') a
      | _, _ => false) && K (sput t o.dst (.var d)) (d + 1) k
  | _, _ => false

section
variable {P : Program} {T : Tab} {R : AEnd → AH → Prop} {ks : List Kont}
/-- What holds of the rest. -/
def Goes (P : Program) (T : Tab) (R : AEnd → AH → Prop) (ks : List Kont) (K : List SV → Nat → Sx → Bool) (a : List AV) (σ : AH) : Prop :=
  ∃ ρ t x, K t ρ.length x = true ∧ WF ρ.length t ∧ t.map (dv ρ) = a ∧ den P T R x ρ ks σ
theorem Goes.push {K : List SV → Nat → Sx → Bool} {ρ : List AV} {t : List SV} {dst : Option Tmp} {k : Sx} {v : AV} {σ : AH} (hw : WF ρ.length t) (hk : K (sput t dst (.var ρ.length)) (ρ.length + 1) k = true) (hd : den P T R k (v :: ρ) ks σ) :
    Goes P T R ks K (aput (t.map (dv ρ)) dst v) σ := by
  refine ⟨v :: ρ, _, k, hk, ?_, ?_, hd⟩
  · exact (hw.mono (Nat.le_succ _)).put dst (Nat.lt_succ_self _)
  · rw [map_sput, map_push hw, dv_top]
theorem args_map (ρ : List AV) (t : List SV) (xs : List Operand) : xs.map (aeval (t.map (dv ρ))) = (xs.map (evS t)).map (dv ρ) := by
  rw [List.map_map]; exact List.map_congr_left fun x _ => aeval_map ρ t x
theorem ps_map (ρ : List AV) (t : List SV) (ps : List (Nat × Operand)) : (ps.map fun p => (p.1, aeval (t.map (dv ρ)) p.2)) = (ps.map fun p => (p.1, evS t p.2)).map fun p => (p.1, dv ρ p.2) := by
  rw [List.map_map]; exact List.map_congr_left fun p _ => by simp only [Function.comp, aeval_map]
theorem okLoud_ok {o : Oper} {t : List SV} {ρ : List AV} {x : Sx} {K : List SV → Nat → Sx → Bool} {σ : AH} (h : okLoud T o t ρ.length x K = true) (hw : WF ρ.length t) (hd : den P T R x ρ ks σ) :
    bop P T o.op (aeval (t.map (dv ρ))) σ (onr (fun v σ' => Goes P T R ks K (aput (t.map (dv ρ)) o.dst v) σ') (fun v σ' => apan v σ' R)) := by
  unfold okLoud at h
  split at h
  · rename_i ty zs k ho
    rw [ho]
    simp only [Bool.and_eq_true] at h
    obtain ⟨h1, h2⟩ := h
    split at h1
    case h_2 => cases h1
    rename_i ti ht
    simp only [bop, ht]
    rw [eqVals_ok h1] at hd
    exact fun φ hφ => Goes.push hw h2 (hd φ hφ)
  · rename_i e a a' k ho
    rw [ho]
    simp only [Bool.and_eq_true] at h
    simp only [bop, aeval_map]
    rw [← eqv_ok h.1]
    simp only [den] at hd
    unfold abox at hd ⊢
    split at hd
    · exact fun φ hφ => Goes.push hw h.2 (hd φ hφ)
    · exact hd.elim
  · rename_i ty n ps sz z n' ps' k ho
    rw [ho]
    simp only [Bool.and_eq_true] at h
    obtain ⟨⟨⟨h1, h2⟩, h3⟩, h4⟩ := h
    split at h1
    case h_2 => cases h1
    rename_i te hte
    simp only [Bool.and_eq_true] at h1
    simp only [bop, hte, ps_map]
    rw [← eqPs_ok h3, Nat.eq_of_beq_eq_true h1.1, Nat.eq_of_beq_eq_true h2]
    simp only [den] at hd
    rw [eqVals_ok h1.2] at hd
    unfold bsl at hd ⊢
    split at hd
    · exact ⟨hd.1, fun φ hφ => Goes.push hw h4 (hd.2 φ hφ)⟩
    · exact hd.elim
  · rename_i ty a v n p' v' k ho
    rw [ho]
    simp only [Bool.and_eq_true] at h
    obtain ⟨⟨⟨h1, h2⟩, h3⟩, h4⟩ := h
    split at h1
    case h_2 => cases h1
    rename_i ti ht
    simp only [bop, ht, aeval_map]
    rw [← eqv_ok h2, ← eqv_ok h3, Nat.eq_of_beq_eq_true h1]
    simp only [den] at hd
    unfold sto at hd ⊢
    split at hd
    · obtain ⟨a1, a2, F, a3, a4, a5, a6, a7⟩ := hd
      exact ⟨a1, a2, F, a3, a4, a5, a6, ρ, _, k, h4, hw.put _ trivial, map_sput .., a7⟩
    · exact hd.elim
  · rename_i ty l c ty' l' c' k ho
    rw [ho]
    simp only [Bool.and_eq_true] at h
    obtain ⟨⟨⟨h1, h2⟩, h3⟩, h4⟩ := h
    simp only [bop, aop, aeval_map]
    rw [← eqv_ok h2, ← eqv_ok h3, Nat.eq_of_beq_eq_true h1]
    simp only [den] at hd
    unfold amake at hd ⊢
    split at hd
    · split at hd
      · split at hd
        · obtain ⟨a1, a2, a3, a4, a5⟩ := hd
          exact ⟨a1, a2, a3, a4, fun φ hφ => Goes.push hw h4 (a5 φ hφ)⟩
        · exact hd.elim
      · exact hd.elim
    · exact hd.elim
  · rename_i fn fs cs fn' fs' cs' k ho
    rw [ho]
    simp only [Bool.and_eq_true, decide_eq_true_eq] at h
    obtain ⟨⟨⟨h1, h2⟩, h3⟩, h4⟩ := h
    simp only [bop, aop, args_map]
    rw [← eqvs_ok h2, ← eqvs_ok h3, h1]
    exact Goes.push hw h4 hd
  · rename_i ty a ty' a' k ho
    rw [ho]
    simp only [Bool.and_eq_true] at h
    obtain ⟨⟨h1, h2⟩, h3⟩ := h
    simp only [bop, aop, aeval_map]
    rw [← eqv_ok h2, Nat.eq_of_beq_eq_true h1]
    exact og_mono (fun _ h => h) (fun v hv => Goes.push hw h3 hv) hd
  · rename_i a _ ty ok a' ty' ok' k ho
    rw [ho]
    simp only [Bool.and_eq_true] at h
    obtain ⟨⟨⟨h1, h2⟩, h3⟩, h4⟩ := h
    simp only [bop, aop, aeval_map]
    rw [← eqv_ok h1, Nat.eq_of_beq_eq_true h2, eqB_ok h3]
    exact og_mono (fun _ h => h) (fun v hv => Goes.push hw h4 hv) hd
  · rename_i a a' ho
    rw [ho]
    simp only [bop, aop, aeval_map]
    rw [← eqv_ok h]
    exact hd
  · rename_i c f xs k ho
    rw [ho]
    simp only [Bool.and_eq_true] at h
    obtain ⟨⟨h1, h2⟩, h3⟩ := h
    split at h1
    case h_2 => cases h1
    rename_i g hc
    simp only [bop, hc, args_map]
    rw [← eqvs_ok h2]
    simp only [den] at hd
    rw [← Nat.eq_of_beq_eq_true h1] at hd
    show acall P g ([] ++ (_ ++ [])) σ _
    rw [List.nil_append, List.append_nil]
    exact acall.mono hd (onr_mono (fun v σ' hv => Goes.push hw h3 hv) (fun _ _ h => h))
  · rename_i c f xs k ho
    rw [ho]
    simp only [Bool.and_eq_true] at h
    obtain ⟨⟨h1, h2⟩, h3⟩ := h
    split at h1
    case h_2 => cases h1
    rename_i g hc
    simp only [bop, hc, args_map, aeval_map]
    rw [← eqvs_ok h2, ← eqv_ok h1]
    simp only [den] at hd
    exact acallv_mono hd (onr_mono (fun v σ' hv => Goes.push hw h3 hv) (fun _ _ h => h))
  · rename_i c sz s a k ho
    rw [ho]
    simp only [Bool.and_eq_true] at h
    obtain ⟨h1, h3⟩ := h
    split at h1
    case h_2 => cases h1
    rename_i s' a' hc hx
    simp only [Bool.and_eq_true] at h1
    obtain ⟨⟨h1, h4⟩, h5⟩ := h1
    split at h1
    case h_2 => cases h1
    rename_i n hn
    simp only [bop, hc, hx, hn, aeval_map]
    rw [← eqv_ok h4, ← eqv_ok h5, Nat.eq_of_beq_eq_true h1]
    simp only [den] at hd
    unfold app at hd ⊢
    split at hd
    · obtain ⟨g, hd⟩ := hd
      refine ⟨g, ?_⟩
      split at hd
      · split at hd
        · obtain ⟨a1, a2, a3, a4, a5, a6⟩ := hd
          exact ⟨a1, a2, a3, a4, a5, Goes.push hw h3 a6⟩
        · exact hd.elim
      · exact ⟨hd.1, fun e => Goes.push hw h3 (hd.2.1 e), fun e φ hφ => Goes.push hw h3 (hd.2.2 e φ hφ)⟩
      · exact ⟨hd.1, fun e => Goes.push hw h3 (hd.2.1 e), fun e φ hφ => Goes.push hw h3 (hd.2.2 e φ hφ)⟩
      · exact hd.elim
    · exact hd.elim
  · cases h
end
end Go.Proofs.Ytjfdgijgkbojnaa.E
