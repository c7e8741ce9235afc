/- Code that is taken apart: the program's way. -/
import Derived.Test.YtlggnigbemghgaaGreatDoorO7
import Derived.Test.YtlggnigbemghgaaGreatDoorP17
set_option linter.unusedSectionVars false
set_option linter.unusedSimpArgs false
set_option linter.unusedVariables false
namespace Go.Proofs.YtlggnigbemghgaaGreatDoor.E
open Go Go.RowKit
set_option maxRecDepth 100000
variable [L : Lam]
variable {σ τ τ' : AH} {R : AEnd → AH → Prop}
def plcN (os : List OpD) (j : Nat) : List Int := (List.range j).map fun i => (((os.take i).flatMap splitO).length : Int)
theorem plcN_succ (os : List OpD) (j : Nat) : plcN os (j + 1) = plcN os j ++ [(((os.take j).flatMap splitO).length : Int)] := by simp [plcN, List.range_succ]
theorem plcN_len (os : List OpD) (j : Nat) : (plcN os j).length = j := by simp [plcN]
def unfO (os : List OpD) : List OpD := (os.flatMap splitO).map (turnO (plcN os os.length))
def unfL (os : List OpD) : Nat := (os.flatMap splitO).length
def unfB (b : Blk) : Blk := ⟨b.args, unfO b.ops⟩
open Classical in
noncomputable def unfC (bs : List Blk) : Int := if codeF bs ≠ 0 then codeF bs else if ∃ b, b ∈ bs ∧ 200 < unfL b.ops then 2 else 0
theorem split_ok {n : Nat} {o q : OpD} (hs : smO o) (ht : tgtN o < n) (hq : q ∈ splitO o) : 0 ≤ q.a ∧ 0 ≤ q.c ∧ okT n q := by
  obtain ⟨h1, h2, h3, h4, h5, h6, h7, h8⟩ := hs
  unfold tgtN at ht
  unfold splitO at hq
  unfold okT
  split at hq
  · simp only [List.mem_cons, List.not_mem_nil, or_false] at hq
    rcases hq with rfl | rfl <;> simp [conO, retO, tgtN] <;> omega
  split at hq
  · simp only [List.mem_cons, List.not_mem_nil, or_false] at hq
    rcases hq with rfl | rfl <;> simp [locO, retO, tgtN] <;> omega
  split at hq
  · simp only [List.mem_cons, List.not_mem_nil, or_false] at hq
    rcases hq with rfl | rfl <;> simp [locO, loc2, tgtN] <;> omega
  split at hq
  · rename_i c
    rw [if_neg (by omega), if_pos c] at ht
    simp only [List.mem_cons, List.not_mem_nil, or_false] at hq
    rcases hq with rfl | rfl <;> simp [locO, ifnO, tgtN] <;> omega
  · obtain rfl : q = o := by simpa using hq
    refine ⟨h1, h5, ?_, ?_⟩
    · unfold tgtN; repeat' split <;> omega
    · exact ht
theorem buf_push {sz : Nat} {z row : List AV} {x a : AV} {es : List (List AV)} {k : AV → AH → Prop} (h : Buf τ sz a es) (he : afillS sz [z] [(0, x)] = some [row]) (hl : row.length = sz) (ho : ∀ y, y ∈ row → y.one = true) (hs : sz ≤ 16777216) (hn : es.length + 1 ≤ 4294967296)
    (hk : ∀ a' τ', Buf τ' sz a' (es ++ [row]) → Kp (famL a) τ τ' → (∀ ψ, ψ ∈ famL a' → ψ ∈ famL a ∨ τ ψ = none) → k a' τ') : bsl sz z 1 [(0, x)] τ fun v τ => E.app sz a v τ k := by
  refine bsl1 he hs fun ψ hψ => ?_
  have hs : AH.Sub τ (τ.set ψ ⟨0, sz, [row]⟩) := .set (.refl τ) _ hψ
  have e1 : ∀ c, c ∈ [row] → c.length = sz := fun c hc => by rw [List.mem_singleton.1 hc]; exact hl
  have e2 : ∀ c, c ∈ [row] → ∀ y, y ∈ c → y.one = true := fun c hc => by rw [List.mem_singleton.1 hc]; exact ho
  refine buf_app ((Kp.of_sub (F := []) hs).buf h fun _ _ c => by cases c) ael1 e1 e2 (by simpa using hn) fun a' τ' h1 h2 h3 => hk a' τ' h1 ?_ ?_
  · exact fun χ hχ hn => by rw [h2 χ hχ (by rw [AH.set_ne' (by rintro rfl; exact hn hψ)]; exact hn), AH.set_ne' (by rintro rfl; exact hn hψ)]
  · exact fun χ hχ => (h3 χ hχ).imp id hs.none
theorem NewO.kp {v : AV} {its : Its} {F : List Nat} (h : NewO σ τ v its) (k : Kp F τ τ') (hd : ∀ ψ, ψ ∈ opsF' v its → ψ ∉ F) (hf : ∀ ψ, ψ ∈ F → σ ψ = none) : NewO σ τ' v its :=
  ⟨k.ops h.own hd, h.nd, h.fr, k.sub h.sub hf⟩
theorem nodup_repl {V A y X X' C w : List Nat} (h : (V ++ (A ++ ((y ++ X) ++ C))).Nodup) (hs : X'.Sublist X) (hw : w.Nodup) (hd : ∀ ψ, ψ ∈ w → ψ ∉ V ∧ ψ ∉ A ∧ ψ ∉ X' ∧ ψ ∉ C) : (V ++ (A ++ ((w ++ X') ++ C))).Nodup := by
  have h0 : (V ++ (A ++ (X' ++ C))).Nodup := h.sublist ((List.Sublist.refl V).append ((List.Sublist.refl A).append ((hs.trans (List.sublist_append_right y X)).append (List.Sublist.refl C))))
  have hp : (V ++ (A ++ ((w ++ X') ++ C))).Perm (w ++ (V ++ (A ++ (X' ++ C)))) := List.perm_iff_count.2 fun a => by simp only [List.count_append]; omega
  rw [hp.nodup_iff, nodup_app]
  refine ⟨hw, h0, fun x hx c => ?_⟩
  obtain ⟨d1, d2, d3, d4⟩ := hd x hx
  simp only [List.mem_append] at c
  rcases c with c | c | c | c
  · exact d1 c
  · exact d2 c
  · exact d3 c
  · exact d4 c
/-- A block's operations are put in the place of others. -/
theorem NewB.repl {v w : AV} {BA BC : List BI} {b : BI} {W : Its} {τ0 : AH} (h : NewB σ τ0 v (BA ++ b :: BC)) (hO : OpsH τ w W) (hsub : (itsF W).Sublist (itsF b.its)) (hw : ∀ ψ, ψ ∈ famL w → τ0 ψ = none) (hk : ∀ ψ, ψ ∉ famL w → τ0 ψ ≠ none → τ ψ = τ0 ψ)
    (h1 : w.one = true) : ∃ φ st, v = .own φ st 0 (BA.length + (BC.length + 1)) ∧ τ0 φ ≠ none ∧ (σ φ = none) ∧ idx 2 v (iv (BA.length : Int)) τ = some (.ptr φ st BA.length 0) ∧ ∀ k : AH → Prop, (∀ τ', NewB σ τ' v (BA ++ ⟨b.args, w, W⟩ :: BC) → k τ') → sto 1 (.ptr φ st BA.length 1) w τ k := by
  obtain ⟨φ, st, hv, hF⟩ := buf_own h.own.1 (by simp)
  have hl : ((BA ++ b :: BC).map encBI).length = BA.length + (BC.length + 1) := by simp
  have hl' : ((BA ++ b :: BC).map fun b => [iv b.args, b.av]).length = BA.length + (BC.length + 1) := by simp
  rw [hl'] at hv
  subst hv
  have hlive : ∀ ψ, ψ ∈ blksF (.own φ st 0 (BA.length + (BC.length + 1))) (BA ++ b :: BC) → τ0 ψ ≠ none := fun ψ hψ => live_ne (h.own.live hψ)
  have hφv : φ ∈ blksF (.own φ st 0 (BA.length + (BC.length + 1))) (BA ++ b :: BC) := List.mem_append_left _ (by simp [famL])
  have hnd : (famL (.own φ st 0 (BA.length + (BC.length + 1))) ++ (bsF BA ++ ((famL b.av ++ itsF b.its) ++ bsF BC))).Nodup := by
    have := h.nd
    rw [blksF] at this
    have e : bsF (BA ++ b :: BC) = bsF BA ++ ((famL b.av ++ itsF b.its) ++ bsF BC) := by rw [bsF_app, bsF_cons]; rfl
    rw [← e]
    exact this
  have mem : ∀ ψ, ψ ∈ blksF (.own φ st 0 (BA.length + (BC.length + 1))) (BA ++ b :: BC) ↔ ψ = φ ∨ ψ ∈ bsF BA ∨ ψ ∈ famL b.av ∨ ψ ∈ itsF b.its ∨ ψ ∈ bsF BC := by
    intro ψ
    have e : bsF (BA ++ b :: BC) = bsF BA ++ ((famL b.av ++ itsF b.its) ++ bsF BC) := by rw [bsF_app, bsF_cons]; rfl
    have e2 : blksF (.own φ st 0 (BA.length + (BC.length + 1))) (BA ++ b :: BC) = famL (.own φ st 0 (BA.length + (BC.length + 1))) ++ bsF (BA ++ b :: BC) := rfl
    rw [e2, e]
    simp [famL]
  have hwn : ∀ ψ, ψ ∈ famL w → ψ ∉ blksF (.own φ st 0 (BA.length + (BC.length + 1))) (BA ++ b :: BC) := fun ψ hψ c => hlive ψ c (hw ψ hψ)
  have hφw : φ ∉ famL w := fun c => hwn φ c hφv
  have hFτ : τ φ = some ⟨st, 2, (BA ++ b :: BC).map encBI⟩ := by rw [hk φ hφw (hlive φ hφv)]; exact hF
  have ix := idx_own (st := st) (off := 0) hFτ (show BA.length < BA.length + (BC.length + 1) by omega)
  rw [Nat.zero_add] at ix
  refine ⟨φ, st, rfl, hlive φ hφv, h.fr φ hφv, ix, fun k hR => ?_⟩
  have hset : τ = τ.set φ ⟨st, 2, BA.map encBI ++ encBI b :: BC.map encBI⟩ := by rw [AH.set_self]; rw [hFτ]; simp
  rw [hset]
  refine sto_at (by simp) (by omega) h1 ?_
  have er : (encBI b).set 1 w = [iv b.args, w] := rfl
  rw [er]
  have h2 : ∀ ψ, ψ ≠ φ → (τ.set φ ⟨st, 2, BA.map encBI ++ [iv b.args, w] :: BC.map encBI⟩) ψ = τ ψ := fun ψ hψ => AH.set_ne' hψ
  obtain ⟨_, hnd3, hnd4⟩ := nodup_app.1 hnd
  have keep : ∀ q, q ∈ BA ++ b :: BC → q ≠ b ∨ True → (q ∈ BA ∨ q ∈ BC) → OpsH (τ.set φ ⟨st, 2, BA.map encBI ++ [iv b.args, w] :: BC.map encBI⟩) q.av q.its := by
    intro q hq _ hq2
    refine (h.own.2 q hq).keep fun ψ hψ => ?_
    have hm : ψ ∈ bsF BA ∨ ψ ∈ bsF BC := hq2.imp (fun c => List.mem_flatMap.2 ⟨q, c, hψ⟩) fun c => List.mem_flatMap.2 ⟨q, c, hψ⟩
    have hmb : ψ ∈ blksF (.own φ st 0 (BA.length + (BC.length + 1))) (BA ++ b :: BC) := (mem ψ).2 (by rcases hm with c | c <;> simp [c])
    have hne : ψ ≠ φ := by
      rintro rfl
      refine hnd4 ψ (by simp [famL]) ?_
      rcases hm with c | c <;> simp [c]
    rw [h2 ψ hne]
    exact hk ψ (fun c => hwn ψ c hmb) (hlive ψ hmb)
  refine hR _ ⟨⟨.inr ⟨φ, st, by simp, by rw [AH.set_same]; simp⟩, ?_⟩, ?_, ?_, ?_⟩
  · intro q hq
    rcases List.mem_append.1 hq with c | c
    · exact keep q (List.mem_append_left _ c) (.inr trivial) (.inl c)
    rcases List.mem_cons.1 c with rfl | c
    · refine hO.keep fun ψ hψ => h2 ψ ?_
      rintro rfl
      rcases List.mem_append.1 hψ with c | c
      · exact hφw c
      · exact hnd4 ψ (by simp [famL]) (by simp [hsub.subset c])
    · exact keep q (List.mem_append_right _ (List.mem_cons_of_mem _ c)) (.inr trivial) (.inr c)
  · have := nodup_repl hnd hsub (famL_nodup w) fun ψ hψ => ⟨fun c => ?_, fun c => ?_, fun c => ?_, fun c => ?_⟩
    · have e : blksF (.own φ st 0 (BA.length + (BC.length + 1))) (BA ++ ⟨b.args, w, W⟩ :: BC) = famL (.own φ st 0 (BA.length + (BC.length + 1))) ++ (bsF BA ++ ((famL w ++ itsF W) ++ bsF BC)) := by
        have : bsF (BA ++ ⟨b.args, w, W⟩ :: BC) = bsF BA ++ ((famL w ++ itsF W) ++ bsF BC) := by rw [bsF_app, bsF_cons]; rfl
        rw [← this]; rfl
      rw [e]; exact this
    · obtain rfl : ψ = φ := by simpa [famL] using c
      exact hφw hψ
    · exact hwn ψ hψ ((mem ψ).2 (by simp [c]))
    · exact hwn ψ hψ ((mem ψ).2 (by simp [hsub.subset c]))
    · exact hwn ψ hψ ((mem ψ).2 (by simp [c]))
  · intro ψ hψ
    have e : blksF (.own φ st 0 (BA.length + (BC.length + 1))) (BA ++ ⟨b.args, w, W⟩ :: BC) = famL (.own φ st 0 (BA.length + (BC.length + 1))) ++ (bsF BA ++ ((famL w ++ itsF W) ++ bsF BC)) := by
      have : bsF (BA ++ ⟨b.args, w, W⟩ :: BC) = bsF BA ++ ((famL w ++ itsF W) ++ bsF BC) := by rw [bsF_app, bsF_cons]; rfl
      rw [← this]; rfl
    rw [e] at hψ
    simp only [List.mem_append] at hψ
    rcases hψ with c | c | (c | c) | c
    · exact h.fr ψ ((mem ψ).2 (by simp only [famL, List.mem_singleton] at c; simp [c]))
    · exact h.fr ψ ((mem ψ).2 (by simp [c]))
    · exact h.sub.none (hw ψ c)
    · exact h.fr ψ ((mem ψ).2 (by simp [hsub.subset c]))
    · exact h.fr ψ ((mem ψ).2 (by simp [c]))
  · intro ψ G hG
    have hn : ψ ≠ φ := by rintro rfl; rw [h.fr ψ hφv] at hG; cases hG
    have h0 := h.sub _ _ hG
    rw [h2 ψ hn, hk ψ (fun c => by rw [hw ψ c] at h0; cases h0) (by rw [h0]; simp), h0]
end Go.Proofs.YtlggnigbemghgaaGreatDoor.E
