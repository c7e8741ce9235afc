/- Code that is owned: growing; copies that the program makes. -/
import Derived.Test.YtmmhaiidcfgbbaaGreatDoorO4
set_option linter.unusedSectionVars false
set_option linter.unusedSimpArgs false
set_option linter.unusedVariables false
namespace Go.Proofs.YtmmhaiidcfgbbaaGreatDoor.E
open Go Go.RowKit
set_option maxRecDepth 100000
variable [L : Lam]
variable {σ τ τ' : AH} {R : AEnd → AH → Prop}
def isSl (T : Tab) (t : TypeId) : Bool := match T t with
  | some ti => match ti.under with | .slice _ => true | _ => false
  | none => false
theorem eql_ro {T : Tab} {t : TypeId} {es : List (List AV)} {k : AV → Prop} (hu : isSl T t = true) (h : ∀ b : Bool, (es ≠ [] → b = false) → k (bv b)) : abin T .eql t (.ro es) (.val (.slice none 0 0)) k := by
  unfold isSl at hu
  split at hu
  case h_2 => cases hu
  rename_i ti ht
  split at hu
  case h_2 => cases hu
  rename_i e he
  unfold abin aeql
  simp only [ht, he]
  exact h
/-- What stays: all that was there, but these families. -/
def Kp (F : List Nat) (τ τ' : AH) : Prop := ∀ ψ, ψ ∉ F → τ ψ ≠ none → τ' ψ = τ ψ
theorem Kp.refl (F : List Nat) (τ : AH) : Kp F τ τ := fun _ _ _ => rfl
theorem Kp.of_sub {F : List Nat} (h : AH.Sub τ τ') : Kp F τ τ' := fun ψ _ hn => by
  cases e : τ ψ with
  | none => exact absurd e hn
  | some G => exact h _ _ e
theorem Kp.trans {F F' : List Nat} {a b c : AH} (h : Kp F a b) (k : Kp F' b c) (hF : ∀ ψ, ψ ∈ F' → ψ ∈ F ∨ a ψ = none) : Kp F a c := fun ψ hψ hn => by
  have e := h ψ hψ hn
  rw [k ψ (fun c => (hF ψ c).elim hψ hn) (by rw [e]; exact hn), e]
theorem Kp.sub {F : List Nat} (h : Kp F τ τ') (hs : AH.Sub σ τ) (hf : ∀ ψ, ψ ∈ F → σ ψ = none) : AH.Sub σ τ' := fun ψ G hG => by
  have h1 := hs _ _ hG
  rw [h ψ (fun c => by rw [hf ψ c] at hG; cases hG) (by rw [h1]; simp), h1]
theorem live_ne {ψ : Nat} (h : ∃ F, τ ψ = some F) : τ ψ ≠ none := by obtain ⟨F, e⟩ := h; rw [e]; simp
theorem Kp.ops {F : List Nat} {v : AV} {its : Its} (k : Kp F τ τ') (h : OpsH τ v its) (hd : ∀ ψ, ψ ∈ opsF' v its → ψ ∉ F) : OpsH τ' v its := h.keep fun ψ hψ => k ψ (hd ψ hψ) (live_ne (h.live hψ))
theorem Kp.its {F : List Nat} {its : Its} (k : Kp F τ τ') (h : ItsH τ its) (hd : ∀ ψ, ψ ∈ itsF its → ψ ∉ F) : ItsH τ' its := h.keep fun ψ hψ => k ψ (hd ψ hψ) (live_ne (h.live hψ))
theorem Kp.blks {F : List Nat} {v : AV} {B : List BI} (k : Kp F τ τ') (h : BlksH τ v B) (hd : ∀ ψ, ψ ∈ blksF v B → ψ ∉ F) : BlksH τ' v B := h.keep fun ψ hψ => k ψ (hd ψ hψ) (live_ne (h.live hψ))
theorem Kp.buf {F : List Nat} {sz : Nat} {a : AV} {es : List (List AV)} (k : Kp F τ τ') (h : Buf τ sz a es) (hd : ∀ ψ, ψ ∈ famL a → ψ ∉ F) : Buf τ' sz a es := buf_keep h fun ψ hψ => k ψ (hd ψ hψ) (live_ne (buf_live h hψ))
theorem buf_app {sz : Nat} {a x : AV} {es xs : List (List AV)} {k : AV → AH → Prop} (h : Buf τ sz a es) (hx : aelems τ x = some xs) (hs : ∀ c, c ∈ xs → c.length = sz) (ho : ∀ c, c ∈ xs → ∀ y, y ∈ c → y.one = true) (hn : es.length + xs.length ≤ 4294967296)
    (hk : ∀ a' τ', Buf τ' sz a' (es ++ xs) → Kp (famL a) τ τ' → (∀ ψ, ψ ∈ famL a' → ψ ∈ famL a ∨ τ ψ = none) → k a' τ') : app sz a x τ k :=
  h.app hx hs ho hn fun a' τ' h1 h2 h3 _ => hk a' τ' h1 (fun ψ hψ hn => h2 ψ (fun c => hψ (famL_mem.2 c)) hn) fun ψ hψ => (h3 ψ (famL_mem.1 hψ)).imp famL_mem.2 id
theorem NewO.app {v x : AV} {its qs : Its} {k : AV → AH → Prop} (h : NewO σ τ v its) (hx : aelems τ x = some (qs.map encIt)) (hq : ItsH τ qs) (hnd : (itsF its ++ itsF qs).Nodup) (hd : ∀ ψ, ψ ∈ itsF qs → ψ ∉ famL v) (hf : ∀ ψ, ψ ∈ itsF qs → σ ψ = none)
    (ho : ∀ p, p ∈ qs → p.2.one = true) (hn : its.length + qs.length ≤ 4294967296)
    (hk : ∀ v' τ', NewO σ τ' v' (its ++ qs) → Kp (famL v) τ τ' → (∀ ψ, ψ ∈ famL v' → ψ ∈ famL v ∨ τ ψ = none) → k v' τ') : E.app 7 v x τ k := by
  refine buf_app h.own.1 hx (by intro c hc; obtain ⟨p, _, rfl⟩ := List.mem_map.1 hc; rfl) ?_ (by simpa using hn) fun v' τ' hB hK hfam => hk v' τ' ?_ hK hfam
  · intro c hc y hy
    obtain ⟨p, hp, rfl⟩ := List.mem_map.1 hc
    simp only [encOpA, List.mem_cons, List.not_mem_nil, or_false] at hy
    rcases hy with rfl | rfl | rfl | rfl | rfl | rfl | rfl <;> first | rfl | exact ho p hp
  obtain ⟨n1, n2, n3⟩ := nodup_app.1 h.nd
  have hdd : ∀ ψ, ψ ∈ itsF (its ++ qs) → ψ ∉ famL v := by
    intro ψ hψ c
    rw [itsF_append] at hψ
    rcases List.mem_append.1 hψ with hψ | hψ
    · exact n3 ψ c hψ
    · exact hd ψ hψ c
  have hI : ItsH τ (its ++ qs) := by
    intro p hp
    rcases List.mem_append.1 hp with hp | hp
    · exact h.own.2 p hp
    · exact hq p hp
  refine ⟨⟨by rw [List.map_append]; exact hB, hK.its hI hdd⟩, ?_, ?_, hK.sub h.sub fun ψ hψ => h.fr ψ (List.mem_append_left _ hψ)⟩
  · rw [opsF', nodup_app]
    refine ⟨famL_nodup _, by rw [itsF_append]; exact hnd, fun ψ hψ c => ?_⟩
    rcases hfam ψ hψ with h1 | h1
    · exact hdd ψ c h1
    · obtain ⟨F, e⟩ := hI.live c
      rw [h1] at e; cases e
  · intro ψ hψ
    rcases List.mem_append.1 hψ with hψ | hψ
    · rcases hfam ψ hψ with h1 | h1
      · exact h.fr ψ (List.mem_append_left _ h1)
      · exact h.sub.none h1
    · rw [itsF_append] at hψ
      rcases List.mem_append.1 hψ with hψ | hψ
      · exact h.fr ψ (List.mem_append_right _ hψ)
      · exact hf ψ hψ
theorem NewO.grow {v : AV} {its : Its} (h : NewO σ τ v its) (hs : AH.Sub τ τ') : NewO σ τ' v its :=
  ⟨(Kp.of_sub (F := []) hs).ops h.own (fun _ _ c => by cases c), h.nd, h.fr, h.sub.trans hs⟩
theorem NewB.grow {v : AV} {B : List BI} (h : NewB σ τ v B) (hs : AH.Sub τ τ') : NewB σ τ' v B :=
  ⟨(Kp.of_sub (F := []) hs).blks h.own (fun _ _ c => by cases c), h.nd, h.fr, h.sub.trans hs⟩
/-- A literal of one row. -/
theorem bsl1 {sz : Nat} {z row : List AV} {x : AV} {k : AV → AH → Prop} (he : afillS sz [z] [(0, x)] = some [row]) (hs : sz ≤ 16777216) (h : ∀ ψ, τ ψ = none → k (.own ψ 0 0 1) (τ.set ψ ⟨0, sz, [row]⟩)) : bsl sz z 1 [(0, x)] τ k := by
  unfold bsl
  have e : List.replicate 1 z = [z] := rfl
  rw [e, he]
  exact ⟨by omega, by rw [if_neg (by decide)]; exact h⟩
theorem bsl0 {sz : Nat} {z : List AV} {k : AV → AH → Prop} (h : k .emp τ) : bsl sz z 0 [] τ k := ⟨by omega, by rw [if_pos rfl]; exact h⟩
theorem ael1 {ψ sz : Nat} {row : List AV} : aelems (τ.set ψ ⟨0, sz, [row]⟩) (.own ψ 0 0 1) = some [row] := by simp [aelems]
/-- One operation more. -/
theorem NewO.push {v : AV} {its : Its} {p : OpD × AV} {z : List AV} {k : AV → AH → Prop} (h : NewO σ τ v its) (he : afillS 7 [z] [(0, .agg (encIt p))] = some [encIt p]) (hq : Buf τ 4 p.2 (p.1.data.map encDat)) (hd : ∀ ψ, ψ ∈ famL p.2 → ψ ∉ opsF' v its) (hf : ∀ ψ, ψ ∈ famL p.2 → σ ψ = none)
    (ho : p.2.one = true) (hn : its.length + 1 ≤ 4294967296)
    (hk : ∀ v' τ', NewO σ τ' v' (its ++ [p]) → Kp (famL v) τ τ' → (∀ ψ, ψ ∈ famL v' → ψ ∈ famL v ∨ τ ψ = none) → k v' τ') : bsl 7 z 1 [(0, .agg (encIt p))] τ fun x τ => E.app 7 v x τ k := by
  refine bsl1 he (by omega) fun ψ hψ => ?_
  have hs : AH.Sub τ (τ.set ψ ⟨0, 7, [encIt p]⟩) := .set (.refl τ) _ hψ
  have e1 : itsF [p] = famL p.2 := by simp [itsF]
  refine (h.grow hs).app (qs := [p]) ael1 ?_ ?_ ?_ (by rw [e1]; exact hf) (by intro q hq; obtain rfl : q = p := by simpa using hq
                                                                              exact ho) hn fun v' τ' h1 h2 h3 => hk v' τ' h1 ?_ ?_
  · intro q hq'
    obtain rfl : q = p := by simpa using hq'
    exact (Kp.of_sub (F := []) hs).buf hq (fun _ _ c => by cases c)
  · rw [e1, nodup_app]
    exact ⟨(nodup_app.1 h.nd).2.1, famL_nodup _, fun x hx c => hd x c (List.mem_append_right _ hx)⟩
  · rw [e1]; exact fun ψ hψ c => hd ψ hψ (List.mem_append_left _ c)
  · exact fun χ hχ hn => by rw [h2 χ hχ (by rw [AH.set_ne' (by rintro rfl; exact hn hψ)]; exact hn), AH.set_ne' (by rintro rfl; exact hn hψ)]
  · intro χ hχ
    rcases h3 χ hχ with c | c
    · exact .inl c
    · exact .inr (hs.none c)
theorem NewO.emp (h : AH.Sub σ τ) : NewO σ τ .emp [] := ⟨⟨.inl ⟨.inr rfl, rfl⟩, fun p hp => by cases hp⟩, .nil, (fun ψ c => by cases c), h⟩
theorem NewB.emp (h : AH.Sub σ τ) : NewB σ τ .emp [] := ⟨⟨.inl ⟨.inr rfl, rfl⟩, fun p hp => by cases hp⟩, .nil, (fun ψ c => by cases c), h⟩
/-- One block more. -/
theorem NewB.push {v a : AV} {B : List BI} {its : Its} {n : Int} {z : List AV} {k : AV → AH → Prop} (h : NewB σ τ v B) (he : afillS 2 [z] [(0, .agg [iv n, a])] = some [[iv n, a]]) (hq : OpsH τ a its) (hqn : (opsF' a its).Nodup) (hd : ∀ ψ, ψ ∈ opsF' a its → ψ ∉ blksF v B)
    (hf : ∀ ψ, ψ ∈ opsF' a its → σ ψ = none) (ho : a.one = true) (hn : B.length + 1 ≤ 4294967296) (hk : ∀ v' τ', NewB σ τ' v' (B ++ [⟨n, a, its⟩]) → k v' τ') : bsl 2 z 1 [(0, .agg [iv n, a])] τ fun x τ => E.app 2 v x τ k := by
  refine bsl1 he (by omega) fun ψ hψ => ?_
  have hs : AH.Sub τ (τ.set ψ ⟨0, 2, [[iv n, a]]⟩) := .set (.refl τ) _ hψ
  have h' := h.grow hs
  have hq' : OpsH (τ.set ψ ⟨0, 2, [[iv n, a]]⟩) a its := (Kp.of_sub (F := []) hs).ops hq (fun _ _ c => by cases c)
  refine buf_app h'.own.1 ael1 (by intro c hc; obtain rfl : c = [iv n, a] := by simpa using hc
                                   rfl) ?_ (by simpa using hn) fun v' τ' hB hK hfam => hk v' τ' ?_
  · intro c hc y hy
    obtain rfl : c = [iv n, a] := by simpa using hc
    simp only [List.mem_cons, List.not_mem_nil, or_false] at hy
    rcases hy with rfl | rfl
    · rfl
    · exact ho
  obtain ⟨n1, n2, n3⟩ := nodup_app.1 h.nd
  have e1 : bsF (B ++ [⟨n, a, its⟩]) = bsF B ++ opsF' a its := by rw [bsF_app]; simp [bsF, biF]
  have hdd : ∀ ψ, ψ ∈ bsF (B ++ [⟨n, a, its⟩]) → ψ ∉ famL v := by
    intro ψ hψ c
    rw [e1] at hψ
    rcases List.mem_append.1 hψ with hψ | hψ
    · exact n3 ψ c hψ
    · exact hd ψ hψ (List.mem_append_left _ c)
  have hI : BisH (τ.set ψ ⟨0, 2, [[iv n, a]]⟩) (B ++ [⟨n, a, its⟩]) := by
    intro p hp
    rcases List.mem_append.1 hp with hp | hp
    · exact h'.own.2 p hp
    · obtain rfl : p = ⟨n, a, its⟩ := by simpa using hp
      exact hq'
  refine ⟨⟨by rw [List.map_append]; exact hB, hI.keep fun χ hχ => hK χ (hdd χ hχ) (live_ne (hI.live hχ))⟩, ?_, ?_, hK.sub h'.sub fun ψ hψ => h.fr ψ (List.mem_append_left _ hψ)⟩
  · show (famL v' ++ bsF (B ++ [⟨n, a, its⟩])).Nodup
    rw [nodup_app]
    refine ⟨famL_nodup _, ?_, fun χ hχ c => ?_⟩
    · rw [e1, nodup_app]
      exact ⟨n2, hqn, fun x hx c => hd x c (List.mem_append_right _ hx)⟩
    rcases hfam χ hχ with h1 | h1
    · exact hdd χ c h1
    · obtain ⟨F, e⟩ := hI.live c
      rw [h1] at e; cases e
  · intro χ hχ
    have hχ : χ ∈ famL v' ++ bsF (B ++ [⟨n, a, its⟩]) := hχ
    rcases List.mem_append.1 hχ with hχ | hχ
    · rcases hfam χ hχ with h1 | h1
      · exact h.fr χ (List.mem_append_left _ h1)
      · exact h'.sub.none h1
    · rw [e1] at hχ
      rcases List.mem_append.1 hχ with hχ | hχ
      · exact h.fr χ (List.mem_append_right _ hχ)
      · exact hf χ hχ
theorem sl_data : isSl TT ty_LRiiisE = true := by kernel_rfl
theorem c_slices_Clone {ds : List Dat} (hl : ds.length ≤ 4294967296) (h : ∀ a τ', Buf τ' 4 a (ds.map encDat) → (∀ ψ, ψ ∈ famL a → σ ψ = none) → AH.Sub σ τ' → R (.ret a) τ') : acall TP fn_slices_Clone [roD ds] σ R := by
  refine s_slices_Clone_ok ?_
  unfold s_slices_Clone
  refine eql_ro sl_data fun b hb => ?_
  cases b with
  | true =>
    have e : ds = [] := by
      refine Classical.byContradiction fun c => ?_
      have := hb (by simpa using c)
      cases this
    subst e
    simp only [RR]
    exact ret_here (h _ σ (.inl ⟨.inl rfl, rfl⟩) (fun ψ c => by cases c) (.refl σ))
  | false =>
    simp only [RR]
    refine bsl0 ?_
    refine buf_app (es := []) (.inl ⟨.inr rfl, rfl⟩) (xs := ds.map encDat) rfl (by intro c hc; obtain ⟨x, _, rfl⟩ := List.mem_map.1 hc; rfl) (by intro c hc y hy; obtain ⟨x, _, rfl⟩ := List.mem_map.1 hc; exact one_encDat x y hy) (by simpa using hl) fun a τ' h1 h2 h3 => ?_
    refine ret_here (h a τ' (by simpa using h1) (fun ψ hψ => (h3 ψ hψ).elim (fun c => by cases c) id) ?_)
    exact h2.sub (.refl σ) fun ψ c => by cases c
end Go.Proofs.YtmmhaiidcfgbbaaGreatDoor.E
