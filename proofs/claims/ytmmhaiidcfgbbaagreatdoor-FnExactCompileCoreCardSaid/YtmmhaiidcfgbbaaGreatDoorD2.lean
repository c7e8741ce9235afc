/- The calls that are put off: what they do. -/
import Derived.Test.YtmmhaiidcfgbbaaGreatDoorD1
import Derived.Test.YtmmhaiidcfgbbaaGreatDoorGZ
import Derived.Tactics
import Derived.Test.YtmmhaiidcfgbbaaGreatDoorP1
set_option linter.unusedSectionVars false
set_option linter.unusedSimpArgs false
set_option linter.unusedVariables false
namespace Go.Proofs.YtmmhaiidcfgbbaaGreatDoor.E
open Go Go.RowKit
set_option maxRecDepth 100000
variable [L : Lam]
def ordK : Sx → Sx
  | .ord _ _ k => k
  | x => x
def isEnd : Sx → Bool
  | .rets [] => true
  | _ => false
theorem wf_c : WF 3 ([.var 0, .var 1, .var 2, .cst (.bool true)] ++ List.replicate 8 .any) := by
  intro s hs
  rcases List.mem_append.1 hs with hs | hs
  · rcases List.mem_cons.1 hs with rfl | hs
    · exact (show 0 < 3 by omega)
    rcases List.mem_cons.1 hs with rfl | hs
    · exact (show 1 < 3 by omega)
    rcases List.mem_cons.1 hs with rfl | hs
    · exact (show 2 < 3 by omega)
    obtain rfl := List.mem_singleton.1 hs
    exact True.intro
  · obtain rfl := List.eq_of_mem_replicate hs
    exact True.intro
theorem ta0_35 (w : World) : Sem.run TP (Instr.typeAssert Value.nilIface 20 70 true) w = .ok (.tuple #[.agg #[.int .i64 0], .bool false]) w := rfl
theorem ta1_35 (c : Int) (w : World) : Sem.run TP (Instr.typeAssert (Value.iface 70 (.agg #[.int .i64 c])) 20 70 true) w = .ok (.tuple #[.agg #[.int .i64 c], .bool true]) w := rfl
theorem al_35 (w : World) : Sem.run TP (zeroValue 70) w = .ok (.agg #[.int .i64 0]) w := rfl
set_option maxHeartbeats 1000000 in
theorem idle_35 (v2 v3 : Value) (w : World) : CallsDIn (FR none) 0 TP 35 #[v2, v3] .returning w fun e u' w' => (∃ t, e = .returned t) ∧ u' = .returning ∧ ∃ o, w' = w.alloc o := by
  refine callsDIn_of_wpSIn Tryz.func35 rfl trivial fun c₀ cs hu => ?_
  apply wpSIn_seq
  apply wpSIn_region
  simp [wpOpsSIn, go_sem, recoverD, hu, Tryz.ntmps35, Exit.thenS, ta0_35, al_35]
  apply wpSIn_seq
  apply wpSIn_region
  simp [wpOpsSIn, go_sem, Exit.thenS]
  refine wpSIn_cond (t := false) (by simp [Act.eval, Array.replicate]) ?_
  simp only [Bool.false_eq_true, if_false]
  refine wpSIn_of_wpIn rfl (wpIn_skip ?_)
  cases c₀
  simp_all [bodyPostS, results, Tryz.results35]
  exact ⟨_, rfl⟩
set_option maxHeartbeats 1000000 in
theorem caught_35 (κ : Kap) (σ : AH) (w : World) (c : Int) (φa φb : Nat) (x y : AV) (v2 v3 : Value) (hr : Rel κ σ w) (h2 : VR κ (.ptr φa 0 0 0) v2) (h3 : VR κ (.ptr φb 0 0 0) v3) (hne : φa ≠ φb) (ha : σ φa = some ⟨0, 1, [[x]]⟩) (hb : σ φb = some ⟨0, 1, [[y]]⟩) :
    CallsDIn (FR none) 0 TP 35 #[v2, v3] (.panicking [{ v := .iface 70 (.agg #[.int .i64 c]), recovered := false }]) w fun e u' w' => (∃ t, e = .returned t) ∧ settle u' = .returning ∧
      ∃ κ', Stp κ σ w κ' ((σ.set φa ⟨0, 1, [[.val (.slice none 0 0)]]⟩).set φb ⟨0, 1, [[.val (.int .i64 c)]]⟩) w' := by
  refine callsDIn_of_wpSIn Tryz.func35 rfl trivial fun c₀ cs hu => ?_
  apply wpSIn_seq
  apply wpSIn_region
  simp [wpOpsSIn, go_sem, recoverD, hu, Tryz.ntmps35, Exit.thenS, ta1_35, al_35]
  obtain ⟨φ5, h50, h51⟩ := hr.newId
  obtain ⟨κ1, hs1, hv5⟩ := Stp.newVar hr h51 70 (xs := [.val (.int .i64 c)]) (vs := [.int .i64 c]) (VRs.cons (.val _) (.nil _))
  have n5a : φa ≠ φ5 := by rintro rfl; rw [ha] at h50; cases h50
  have n5b : φb ≠ φ5 := by rintro rfl; rw [hb] at h50; cases h50
  generalize htm : (#[v2, v3] ++ _ : Array Value) = tm
  have htt : tm = #[v2, v3, .pointer (some ⟨w.heap.size, 0, none⟩), .bool true, .tuple #[.agg #[.int .i64 c], .bool true], .iface 70 (.agg #[.int .i64 c]), .tuple #[.agg #[.int .i64 c], .bool true], .agg #[.int .i64 c], .bool true, undef, undef, undef] := by rw [← htm]; simp [Array.replicate, List.replicate]
  have he : EnvR κ1 ([.ptr φa 0 0 0, .ptr φb 0 0 0, .ptr φ5 0 0 0, .val (.bool true)] ++ List.replicate 8 .any) tm := by
    have ht := htt
    rw [ht]
    exact .ofList (VRs.cons (h2.mono hs1.ext) (VRs.cons (h3.mono hs1.ext) (VRs.cons hv5 (VRs.cons (.val _) (VRs.cons (.any _) (VRs.cons (.any _) (VRs.cons (.any _) (VRs.cons (.any _) (VRs.cons (.any _) (VRs.cons (.any _) (VRs.cons (.any _) (VRs.cons (.any _) (.nil _)))))))))))))
  apply wpSIn_seq
  apply wpSIn_region
  simp only [Array.size, List.length_cons, List.length_nil]
  simp only [List.range, List.range.loop, wpOpsSIn]
  simp [go_sem, Exit.thenS, Region.wanted]
  generalize htm2 : tm.setIfInBounds 9 _ = tm2
  have he2 : EnvR κ1 (([.ptr φa 0 0 0, .ptr φb 0 0 0, .ptr φ5 0 0 0, .val (.bool true)] ++ List.replicate 8 .any : List AV).set 9 .any) tm2 := by rw [← htm2]; exact he.set 9 (.any _)
  refine wpSIn_cond (t := true) (by simp only [Act.eval, ← htm2, htt]; rfl) ?_
  rw [if_pos rfl]
  refine wpSIn_of_wpIn rfl ?_
  have hmap : (([.var 0, .var 1, .var 2, .cst (.bool true)] ++ List.replicate 8 .any : List SV).set 9 .any).map (dv [.ptr φ5 0 0 0, .ptr φb 0 0 0, .ptr φa 0 0 0]) = ([.ptr φa 0 0 0, .ptr φb 0 0 0, .ptr φ5 0 0 0, .val (.bool true)] ++ List.replicate 8 .any : List AV).set 9 .any := rfl
  rw [← hmap] at he2
  have hden : den TP TT (fun e σ' => e = .ret (.tup []) ∧ AH.Sub ((σ.set φa ⟨0, 1, [[.val (.slice none 0 0)]]⟩).set φb ⟨0, 1, [[.val (.int .i64 c)]]⟩) σ') (ordK x35) [.ptr φ5 0 0 0, .ptr φb 0 0 0, .ptr φa 0 0 0] [] (σ.set φ5 ⟨0, 1, [[.val (.int .i64 c)]]⟩) := by
    unfold x35 ordK
    simp only [den, di, List.getD_cons_zero, List.getD_cons_succ]
    refine (?_ : og (fldA 0 (.ptr φ5 0 0 0)) fun v => og (lod v (σ.set φ5 ⟨0, 1, [[.val (.int .i64 c)]]⟩)) fun v1 => sto 1 (.ptr φa 0 0 0) (.val (.slice none 0 0)) (σ.set φ5 ⟨0, 1, [[.val (.int .i64 c)]]⟩) fun σ1 => (lod v σ1 = some v1 ∧ True) ∧ sto 1 (.ptr φb 0 0 0) v1 σ1 fun σ2 => True ∧ aret (.tup []) σ2 fun e σ' => e = .ret (.tup []) ∧ AH.Sub ((σ.set φa ⟨0, 1, [[.val (.slice none 0 0)]]⟩).set φb ⟨0, 1, [[.val (.int .i64 c)]]⟩) σ')
    have l0 : lod (.ptr φ5 0 0 0) (σ.set φ5 ⟨0, 1, [[.val (.int .i64 c)]]⟩) = some (.val (.int .i64 c)) := lod_at (AH.set_same ..) rfl rfl
    simp only [RR, l0]
    refine sto_fld (cs := [x]) (by rw [AH.set_ne' n5a]; exact ha) rfl (by decide) rfl rfl ?_
    refine ⟨⟨lod_at (F := ⟨0, 1, [[.val (.int .i64 c)]]⟩) (by rw [AH.set_ne' (Ne.symm n5a)]; exact AH.set_same ..) rfl rfl, trivial⟩, ?_⟩
    refine sto_fld (cs := [y]) (by rw [AH.set_ne' (Ne.symm hne), AH.set_ne' n5b]; exact hb) rfl (by decide) rfl rfl ?_
    refine ⟨trivial, aret_sub (.refl _) ⟨rfl, fun ψ F hF => ?_⟩⟩
    by_cases cb : ψ = φb
    · subst cb; rw [AH.set_same] at hF ⊢; exact hF
    · rw [AH.set_ne' cb] at hF ⊢
      by_cases ca : ψ = φa
      · subst ca; rw [AH.set_same] at hF ⊢; exact hF
      · rw [AH.set_ne' ca] at hF ⊢
        rw [AH.set_ne' (by rintro rfl; rw [h50] at hF; cases hF)]; exact hF
  refine cw_ok TT_ok (C := [0, 1, 2, 3]) (ancs := [0, 1, 0, 7]) (T := TT) (K := fun _ σ' => ∃ σ'', Imp (.tup []) σ' (.tup []) σ'' ∧ AH.Sub ((σ.set φa ⟨0, 1, [[.val (.slice none 0 0)]]⟩).set φb ⟨0, 1, [[.val (.int .i64 c)]]⟩) σ'') (Kp := fun _ _ => False) (by kernel_rfl) hs1.rel he2 rfl ?_ (fun _ _ _ _ _ _ _ h => h.elim) (okCw_ok (R := fun e σ' => e = .ret (.tup []) ∧ AH.Sub ((σ.set φa ⟨0, 1, [[.val (.slice none 0 0)]]⟩).set φb ⟨0, 1, [[.val (.int .i64 c)]]⟩) σ') (ks := []) (K := fun _ _ x => isEnd x) ?_ ?_ [0, 1, 2, 3] [] _ _ ⟨[.ptr φ5 0 0 0, .ptr φb 0 0 0, .ptr φa 0 0 0], (([.var 0, .var 1, .var 2, .cst (.bool true)] ++ List.replicate 8 .any : List SV).set 9 .any), ordK x35, by kernel_rfl, wf_c.set (s := .any) 9 True.intro, rfl, hden⟩)
  · rintro κ' t' σ' a' w' ⟨σ'', hi, hsub⟩ hs he' hd'
    obtain ⟨κ2, k1, _⟩ := hi κ' w' _ hs.rel (.tup (vs := []) rfl fun i hi => by cases hi)
    exact ⟨hd', _, rfl, .tuple #[], by simp [results, Tryz.results35], ⟨_, rfl⟩, rfl, κ2, (hs1.trans (hs.trans k1)).trans (Stp.sub k1.rel hsub)⟩
  · rintro a σ' ⟨ρ', t', x', g1, g2, rfl, g3⟩
    replace g1 : isEnd x' = true := g1
    unfold isEnd at g1
    split at g1
    case h_2 => cases g1
    obtain ⟨v', σ'', hi, hv, hsub⟩ := g3
    obtain rfl : v' = .tup [] := by injection hv
    exact ⟨σ'', hi, hsub⟩
  · rintro v σ' ⟨v', σ'', _, h, _⟩
    cases h
theorem catch_35 : Catch TP 35 70 := ⟨⟨_, Tryz.func35, rfl, rfl⟩, idle_35, caught_35⟩
end Go.Proofs.YtmmhaiidcfgbbaaGreatDoor.E
