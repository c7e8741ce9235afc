/- The engine, part 36: what is new in a heap. -/
import Derived.Test.YtjfdgijgkbojnaaE35
set_option linter.unusedSectionVars false
namespace Go.Proofs.Ytjfdgijgkbojnaa.E
open Go Go.RowKit
variable [Lam]
/-- What a heap has beyond another one. -/
def dif (σ σ' : AH) : AH := fun φ => match σ φ with
  | none => σ' φ
  | some _ => none
theorem dif_at {σ σ' : AH} {φ : Nat} (h : σ φ = none) : dif σ σ' φ = σ' φ := by simp [dif, h]
theorem dif_some {σ σ' : AH} {φ : Nat} {F : Fam} (h : dif σ σ' φ = some F) : σ φ = none ∧ σ' φ = some F := by
  unfold dif at h
  split at h
  · rename_i e; exact ⟨e, h⟩
  · cases h
theorem dif_sub (σ σ' : AH) : AH.Sub (dif σ σ') σ' := fun _ _ h => (dif_some h).2
theorem dif_mono {σ σ1 τ τ1 : AH} (h : AH.Sub σ σ1) (k : AH.Sub τ τ1) : AH.Sub (dif σ1 τ) (dif σ τ1) := by
  intro φ F hF
  obtain ⟨h1, h2⟩ := dif_some hF
  rw [dif_at (h.none h1)]; exact k φ F h2
/-- Writing into a family that the base has changes nothing of what is new. -/
theorem dif_set {σ σ' : AH} {φ : Nat} {F G : Fam} (h : σ φ = some F) : dif σ (σ'.set φ G) = dif σ σ' := by
  funext ψ
  unfold dif
  by_cases e : ψ = φ
  · subst e; rw [h]
  · rw [AH.set_ne _ _ e]
theorem dif_keep {σ σ' σ'' : AH} (h : ∀ φ, σ φ = none → σ' φ ≠ none → σ'' φ = σ' φ) : AH.Sub (dif σ σ') (dif σ σ'') := by
  intro φ F hF
  obtain ⟨h1, h2⟩ := dif_some hF
  rw [dif_at h1, h φ h1 (by rw [h2]; simp)]; exact h2
theorem dif_keep' {σ σ1 σ' σ'' : AH} (hs : AH.Sub σ σ1) (h : ∀ φ, σ1 φ = none → σ' φ ≠ none → σ'' φ = σ' φ) : AH.Sub (dif σ1 σ') (dif σ σ'') := by
  intro φ F hF
  obtain ⟨h1, h2⟩ := dif_some hF
  rw [dif_at (hs.none h1), h φ h1 (by rw [h2]; simp)]; exact h2
theorem Sl.fz {σ σ' : AH} {sz : Nat} {a : AV} {es fs : List (List AV)} (h : Sl (dif σ σ') sz a es) (hn : es.length = fs.length) (hz : ∀ i, i < es.length → (es.getD i []).length = (fs.getD i []).length)
    (hf : ∀ i j, i < es.length → j < (es.getD i []).length → Fz σ σ' ((es.getD i []).getD j .any) ((fs.getD i []).getD j .any)) : Fz σ σ' a (.ro fs) := by
  cases h with
  | ro _ h => exact .ro hn hz hf
  | own φ st off n F hF hst hsz hl h =>
    obtain ⟨h0, hF⟩ := dif_some hF
    have hlen : ((F.es.drop off).take n).length = n := by simp; omega
    have hget : ∀ i, i < n → ((F.es.drop off).take n).getD i [] = F.es.getD (off + i) [] := by
      intro i hi; rw [getD_take _ _ _ _ hi, getD_drop]
    have hsize : ∀ i, i < n → (F.es.getD (off + i) []).length = F.sz := by
      intro i hi
      rw [hsz]; exact h _ (by rw [getD_eq (by omega)]; exact List.getElem_mem _)
    refine .own hF h0 hst hl (by omega) (fun i hi => ?_) (fun i j hi hj => ?_)
    · rw [← hz i (by omega), hget i hi, hsize i hi]
    · have := hf i j (by omega) (by rw [hget i hi, hsize i hi]; exact hj)
      rw [hget i hi] at this; exact this
  | emp =>
    obtain rfl := List.eq_nil_of_length_eq_zero hn.symm
    exact .emp
  | nil =>
    obtain rfl := List.eq_nil_of_length_eq_zero hn.symm
    exact .nil
theorem Cs.fz {X : Type} {f g : X → AV} {σ σ' : AH} {a : AV} {xs : List X} (h : Cs f (dif σ σ') a xs) (hg : ∀ x, x ∈ xs → Fz σ σ' (f x) (g x)) : Fz σ σ' a (.ro (xs.map fun x => [g x])) := by
  refine Sl.fz h (by simp) (fun i hi => ?_) (fun i j hi hj => ?_)
  · have hi : i < xs.length := by simpa using hi
    simp [hi]
  · have hi : i < xs.length := by simpa using hi
    have e1 : (xs.map fun x => [f x]).getD i [] = [f xs[i]] := by simp [hi]
    have e2 : (xs.map fun x => [g x]).getD i [] = [g xs[i]] := by simp [hi]
    rw [e1] at hj ⊢
    rw [e2]
    obtain rfl : j = 0 := by simpa using hj
    exact hg _ (List.getElem_mem hi)
theorem Fz.agg2 {σ σ' : AH} {a b c d : AV} (h : Fz σ σ' a c) (k : Fz σ σ' b d) : Fz σ σ' (.agg [a, b]) (.agg [c, d]) := by
  refine .agg rfl fun i hi => ?_
  match i, hi with
  | 0, _ => exact h
  | 1, _ => exact k
theorem Fz.agg3 {σ σ' : AH} {a b c a' b' c' : AV} (h : Fz σ σ' a a') (k : Fz σ σ' b b') (l : Fz σ σ' c c') : Fz σ σ' (.agg [a, b, c]) (.agg [a', b', c']) := by
  refine .agg rfl fun i hi => ?_
  match i, hi with
  | 0, _ => exact h
  | 1, _ => exact k
  | 2, _ => exact l
theorem Fz.agg4 {σ σ' : AH} {a b c d a' b' c' d' : AV} (h : Fz σ σ' a a') (k : Fz σ σ' b b') (l : Fz σ σ' c c') (m : Fz σ σ' d d') : Fz σ σ' (.agg [a, b, c, d]) (.agg [a', b', c', d']) := by
  refine .agg rfl fun i hi => ?_
  match i, hi with
  | 0, _ => exact h
  | 1, _ => exact k
  | 2, _ => exact l
  | 3, _ => exact m

/-! ### more rounds, and what is at a pointer -/
theorem lp_rel {X : Type} {F : (X → AH → Prop) → X → AH → Prop} {x : X} {σ : AH} (n : Nat) (I : Nat → X → AH → Prop) (h0 : I 0 x σ)
    (step : ∀ i x σ, i ≤ n → I i x σ → ∀ R : X → AH → Prop, (∀ x' σ' σ'', i < n → AH.Sub σ'' σ' → I (i + 1) x' σ'' → R x' σ') → F R x σ) : lp F x σ := by
  refine lp_by (fun k x σ => ∃ i, i ≤ n ∧ k = n - i ∧ I i x σ) n ⟨0, Nat.zero_le _, rfl, h0⟩ ?_
  rintro k x σ ⟨i, hi, rfl, hI⟩ R hR
  exact step i x σ hi hI R fun x' σ' σ'' hlt hs hI' => hR x' σ' (n - (i + 1)) σ'' (by omega) hs ⟨i + 1, hlt, rfl, hI'⟩
theorem lod_at {σ : AH} {φ st i off : Nat} {F : Fam} {c : AV} (hF : σ φ = some F) (hst : F.st = st) (h : (F.es.getD i [])[off]? = some c) : lod (.ptr φ st i off) σ = some c := by
  have hi : i < F.es.length := by
    rcases Nat.lt_or_ge i F.es.length with hi | hi
    · exact hi
    · rw [show F.es.getD i [] = [] from by simp [List.getD, List.getElem?_eq_none hi]] at h; cases h
  have ho := (List.getElem?_eq_some_iff.1 h).1
  have e : acellsAt σ (.ptr φ st i off) = some ((F.es.getD i []).drop off) := by simp [acellsAt, hF, hst, hi]
  unfold lod
  rw [e, List.drop_eq_getElem_cons ho]
  simp only [(List.getElem?_eq_some_iff.1 h).2]
theorem lodA_at {σ : AH} {φ st i n : Nat} {F : Fam} {cs : List AV} (hF : σ φ = some F) (hst : F.st = st) (h : F.es[i]? = some cs) (hn : cs.length = n) : lodA n (.ptr φ st i 0) σ = some (.agg cs) := by
  have hi := (List.getElem?_eq_some_iff.1 h).1
  have e : acellsAt σ (.ptr φ st i 0) = some cs := by simp [acellsAt, hF, hst, hi]; exact (List.getElem?_eq_some_iff.1 h).2
  unfold lodA
  rw [e]; subst hn; simp
theorem Buf.sub {σ σ' : AH} {sz : Nat} {a : AV} {es : List (List AV)} (h : Buf σ sz a es) (s : AH.Sub σ σ') : Buf σ' sz a es := by
  rcases h with h | ⟨φ, st, rfl, hF⟩
  · exact .inl h
  · exact .inr ⟨φ, st, rfl, s.at hF⟩
theorem Buf.fam_some {σ : AH} {sz : Nat} {a : AV} {es : List (List AV)} (h : Buf σ sz a es) {ψ : Nat} (hf : Buf.fam a ψ) : ∃ F, σ ψ = some F := by
  obtain ⟨_, _, _, rfl⟩ := hf
  rcases h with ⟨e | e, _⟩ | ⟨φ, st, e, hF⟩
  · cases e
  · cases e
  · cases e; exact ⟨_, hF⟩
theorem Buf.keep {σ σ' : AH} {sz : Nat} {a : AV} {es : List (List AV)} (h : Buf σ sz a es) (hk : ∀ ψ, Buf.fam a ψ → σ' ψ = σ ψ) : Buf σ' sz a es := by
  rcases h with h | ⟨φ, st, rfl, hF⟩
  · exact .inl h
  · exact .inr ⟨φ, st, rfl, by rw [hk φ ⟨_, _, _, rfl⟩]; exact hF⟩
theorem Buf.dif {σ σ' : AH} {sz : Nat} {a : AV} {es : List (List AV)} (h : Buf σ' sz a es) (hf : ∀ ψ, Buf.fam a ψ → σ ψ = none) : Buf (dif σ σ') sz a es := by
  rcases h with h | ⟨φ, st, rfl, hF⟩
  · exact .inl h
  · exact .inr ⟨φ, st, rfl, by rw [dif_at (hf φ ⟨_, _, _, rfl⟩)]; exact hF⟩
theorem sto_fld {σ : AH} {φ st i off sz : Nat} {es : List (List AV)} {v : AV} {cs : List AV} {k : AH → Prop} (hF : σ φ = some ⟨st, sz, es⟩) (hi : es[i]? = some cs) (ho : off < sz)
    (hv : acells v = some [v]) (h1 : v.one = true) (h : k (σ.set φ ⟨st, sz, es.set i (cs.set off v)⟩)) : sto 1 (.ptr φ st i off) v σ k := by
  unfold sto
  simp only [hv]
  refine ⟨rfl, by simpa using h1, _, hF, rfl, (List.getElem?_eq_some_iff.1 hi).1, ho, ?_⟩
  have : Fam.splice ⟨st, sz, es⟩ i off [v] = ⟨st, sz, es.set i (cs.set off v)⟩ := by
    unfold Fam.splice
    have e : es.getD i [] = cs := by simp [List.getD, hi]
    simp only [e]; rfl
  rw [this]; exact h
theorem Sl.one {σ : AH} {sz : Nat} {a : AV} {es : List (List AV)} (h : Sl σ sz a es) : acells a = some [a] ∧ a.one = true := by
  cases h <;> exact ⟨rfl, rfl⟩
theorem getD_end {α : Type} {l : List α} {z d : α} {m i : Nat} (hl : l.length = i) (hm : 0 < m) : (l ++ List.replicate m z).getD i d = z := by
  simp only [List.getD]
  rw [List.getElem?_append_right (by omega), List.getElem?_replicate, if_pos (by omega)]; rfl
theorem set_end {α : Type} {l : List α} {z x : α} {m i : Nat} (hl : l.length = i) (hm : 0 < m) : (l ++ List.replicate m z).set i x = l ++ x :: List.replicate (m - 1) z := by
  rw [List.set_append_right _ _ (by omega), show i - l.length = 0 from by omega]
  obtain ⟨k, rfl⟩ : ∃ k, m = k + 1 := ⟨m - 1, by omega⟩
  rw [List.replicate_succ, List.set_cons_zero, Nat.add_sub_cancel]
/-- A slice that may be written into. -/
def Wr : AV → Prop
  | .own _ _ _ _ => True
  | .emp => True
  | .val (.slice none 0 0) => True
  | _ => False
theorem Buf.wr {σ : AH} {sz : Nat} {a : AV} {es : List (List AV)} (h : Buf σ sz a es) : Wr a := by
  rcases h with ⟨rfl | rfl, _⟩ | ⟨φ, st, rfl, hF⟩ <;> trivial
theorem Buf.cs {X : Type} {f : X → AV} {σ : AH} {a : AV} {xs : List X} (h : Buf σ 1 a (xs.map fun x => [f x])) : Cs f σ a xs :=
  Buf.sl h (by intro c hc; obtain ⟨x, _, rfl⟩ := List.mem_map.1 hc; rfl)
end Go.Proofs.Ytjfdgijgkbojnaa.E
