/- From the library's contract on slices.DeleteFunc to a call in abstract values. -/
import Derived.Test.YtohmmedckdialaaDoorW1
import Derived.Lib.SortBridge
set_option linter.unusedSectionVars false
set_option linter.unusedSimpArgs false
set_option linter.unusedVariables false
namespace Go.Proofs.YtohmmedckdialaaDoor.E
open Go Go.RowKit
set_option maxRecDepth 100000
section
variable [L : Lam]
/-- Texts put into a family, one cell behind the other. -/
def putS (es : List (List AV)) : Nat → List ByteArray → List (List AV)
  | _, [] => es
  | i, y :: ys => putS (es.set i [str y]) (i + 1) ys
theorem Stp.strs {κ : Kap} {φ st : Nat} {r : Reg} : ∀ (ys : List ByteArray) (i : Nat) (es : List (List AV)) (σ : AH) (w : World), Rel κ σ w → σ φ = some ⟨st, 1, es⟩ → κ.ρ φ st = some r → r.sz = 1 → r.lo ≤ i → i + ys.length ≤ es.length → (∀ c, c ∈ es → c.length = 1) →
    Stp κ σ w κ (σ.set φ ⟨st, 1, putS es i ys⟩) (w.setCells r.b (r.base + (i - r.lo)) (ys.map Value.string)) := by
  intro ys
  induction ys with
  | nil =>
    intro i es σ w hr hF _ _ _ _ _
    have : σ.set φ ⟨st, 1, putS es i []⟩ = σ := AH.set_self hF
    rw [this]
    exact .refl hr
  | cons y ys ih =>
    intro i es σ w hr hF hρ hsz hlo hl hz
    have hi : i < es.length := by simp at hl; omega
    have key := (Stp.cell (P := default) hr hF hρ hlo (j := 0) hi (by show 0 < 1; omega) (VR.val (Value.string y)) rfl).2
    have e1 : r.base + (i - r.lo) * r.sz + 0 = r.base + (i - r.lo) := by rw [hsz]; omega
    rw [e1] at key
    have e2 : Fam.cellSet ⟨st, 1, es⟩ i 0 (.val (.string y)) = ⟨st, 1, es.set i [str y]⟩ := by
      unfold Fam.cellSet
      have h1 : (es.getD i []).length = 1 := by
        have e : es.getD i [] = es[i] := by simp [List.getD, hi]
        rw [e]; exact hz _ (List.getElem_mem hi)
      simp only
      obtain ⟨x, hx⟩ : ∃ x, es.getD i [] = [x] := List.length_eq_one_iff.1 h1
      rw [hx]; rfl
    rw [e2] at key
    have h2 := ih (i + 1) (es.set i [str y]) _ _ key.rel (AH.set_same ..) hρ hsz (by omega) (by simp at hl ⊢; omega) (fun c hc => by
      rcases List.mem_or_eq_of_mem_set hc with h | rfl
      · exact hz c h
      · rfl)
    rw [AH.set_set] at h2
    have e3 : r.base + (i + 1 - r.lo) = r.base + (i - r.lo) + 1 := by omega
    rw [e3] at h2
    exact key.trans h2
theorem putS_all : ∀ (ys : List ByteArray) (pre es : List (List AV)), ys.length ≤ es.length → putS (pre ++ es) pre.length ys = pre ++ txs ys ++ es.drop ys.length := by
  intro ys
  induction ys with
  | nil => intro pre es _; simp [putS, txs]
  | cons y ys ih =>
    intro pre es h
    cases es with
    | nil => simp at h
    | cons e es =>
      simp only [putS]
      have : (pre ++ e :: es).set pre.length [str y] = (pre ++ [[str y]]) ++ es := by simp
      rw [this]
      have h2 := ih (pre ++ [[str y]]) es (by simpa using h)
      simp only [List.length_append, List.length_cons, List.length_nil, Nat.zero_add] at h2
      rw [h2]
      simp [txs]
/-- slices.DeleteFunc over a list of texts of one's own. -/
theorem acall_delete {P : Program} {f g : Nat} {fn : Func} {keep : ByteArray → Bool} (hf : P.funcs[f]? = some fn) (hb : fn.body.isNone = false) (hg : (fn.name == "runtime.NumGoroutine") = false)
    (h1 : ∀ (blk off cap : Nat) (zs : List ByteArray) (w : World), (∀ z, z ∈ zs → z.size ≤ 1048576) → Go.Sort.Holds Value.string w blk off zs.toArray → zs.length ≤ 9223372036854775807 → zs.length ≤ cap →
      Calls P f #[.slice (some ⟨blk, off, none⟩) zs.length cap, .func (.func g) #[] #[]] w fun e w' => e = .returned (.slice (some ⟨blk, off, none⟩) (zs.filter keep).length cap) ∧ ∃ q, w' = (w.drewN q).setCells blk off ((zs.filter keep ++ List.replicate (zs.length - (zs.filter keep).length) (⟨#[]⟩ : ByteArray)).map Value.string))
    {σ : AH} {R : AEnd → AH → Prop} {φ st : Nat} {xs : List ByteArray} (hF : σ φ = some ⟨st, 1, txs xs⟩) (hx : ∀ x, x ∈ xs → x.size ≤ 1048576) (h0 : 1 ≤ xs.length) (hl : xs.length ≤ 4194304)
    (h : R (.ret (.own φ st 0 (xs.filter keep).length)) (σ.set φ ⟨st, 1, txs (xs.filter keep ++ List.replicate (xs.length - (xs.filter keep).length) (⟨#[]⟩ : ByteArray))⟩)) : acall P f [.own φ st 0 xs.length, .clo (.func g) [] []] σ R := by
  refine ⟨fn, hf, hb, hg, fun κ w vs hr hv => ?_⟩
  obtain ⟨v, u, rfl⟩ : ∃ v u, vs = [v, u] := by
    have := hv.1
    match vs, this with
    | [a, b], _ => exact ⟨a, b, rfl⟩
  have hv0 : VR κ (.own φ st 0 xs.length) v := hv.2 0 (by simp)
  have hv1 : VR κ (.clo (.func g) [] []) u := hv.2 1 (by simp)
  have eu : u = .func (.func g) #[] #[] := by
    cases hv1 with
    | clo hl hl2 _ _ =>
      rw [List.length_eq_zero_iff.1 hl.symm, List.length_eq_zero_iff.1 hl2.symm]
  subst eu
  have hcl := List.length_filter_le keep xs
  generalize hn : xs.length = n at hv0
  cases hv0 with
  | ownEnd h' hoff => omega
  | own hρ hlo hle =>
    rename_i r
    subst hn
    obtain ⟨r', e1, hB, H⟩ := hr.has φ _ hF
    have e1' : κ.ρ φ st = some r' := e1
    rw [hρ] at e1'
    obtain rfl := Option.some.inj e1'
    have hlo0 : r.lo = 0 := by omega
    have hsz : r.sz = 1 := H.sz
    have hH : Go.Sort.Holds Value.string w r.b r.base xs.toArray := by
      intro j hj
      have hj' : j < xs.length := by simpa using hj
      obtain ⟨u, hc, hu⟩ := H.cell j 0 (by omega) (by simpa [txs] using hj') (by show 0 < 1; omega)
      have ej : ((txs xs).getD j []).getD 0 .any = str xs[j] := by simp [txs, List.getD, hj']
      have hu' : VR κ (str xs[j]) u := ej ▸ hu
      have e2 : r.base + (j - r.lo) * r.sz + 0 = r.base + j := by rw [hlo0, hsz]; omega
      rw [e2] at hc
      refine ⟨?_, H.free _ ?_⟩
      · rw [hc]
        cases hu'
        simp [hj']
      · have : r.cap * r.sz = r.cap := by rw [hsz]; omega
        omega
    have ev : (Value.slice (some ⟨r.b, r.base + (0 - r.lo) * r.sz, none⟩) xs.length (r.lo + r.cap - 0)) = .slice (some ⟨r.b, r.base, none⟩) xs.length r.cap := by simp [hlo0]
    rw [ev]
    refine (h1 r.b r.base r.cap xs w hx hH (by omega) (by omega)).mono fun e w' ⟨he, q, hw⟩ => ?_
    subst he
    have hlen : (xs.filter keep ++ List.replicate (xs.length - (xs.filter keep).length) (⟨#[]⟩ : ByteArray)).length = xs.length := by simp; omega
    subst hw
    refine ⟨κ, _, _, h, ?_, ?_⟩
    · have hd : Stp κ σ w κ σ (w.drewN q) := .world hr rfl rfl rfl rfl
      have hs := Stp.strs (xs.filter keep ++ List.replicate (xs.length - (xs.filter keep).length) (⟨#[]⟩ : ByteArray)) 0 _ σ (w.drewN q) hd.rel hF hρ hsz (by omega) (by rw [hlen]; simp [txs]) (fun c hc => by obtain ⟨x, _, rfl⟩ := List.mem_map.1 hc; rfl)
      have e := putS_all (xs.filter keep ++ List.replicate (xs.length - (xs.filter keep).length) (⟨#[]⟩ : ByteArray)) [] (txs xs) (by rw [hlen]; simp [txs])
      simp only [List.nil_append, List.length_nil] at e
      rw [e] at hs
      have e2 : ((txs xs).drop (xs.filter keep ++ List.replicate (xs.length - (xs.filter keep).length) (⟨#[]⟩ : ByteArray)).length) = ([] : List (List AV)) := List.drop_eq_nil_of_le (by rw [hlen]; simp [txs])
      rw [e2, List.append_nil] at hs
      have e3 : r.base + (0 - r.lo) = r.base := by omega
      rw [e3] at hs
      exact hd.trans hs
    · have := VR.own (κ := κ) (φ := φ) (st := st) (off := 0) (n := (xs.filter keep).length) hρ (by omega) (by omega)
      show VR κ _ _
      simpa [hlo0] using this
end
end Go.Proofs.YtohmmedckdialaaDoor.E
