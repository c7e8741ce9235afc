/- Functions that put off a call which recovers: their contracts. -/
import Derived.Test.YtmmhaiidcfgbbaaGreatDoorD0
set_option linter.unusedSectionVars false
set_option linter.unusedSimpArgs false
set_option linter.unusedVariables false
namespace Go.Proofs.YtmmhaiidcfgbbaaGreatDoor.E
open Go Go.RowKit
set_option maxRecDepth 100000
variable [L : Lam]
section
variable {P : Program} {T : Tab} {R : AEnd → AH → Prop}
/-- The ends of a function that puts off a call that recovers: a panic of its own turns to a result. -/
def RD (φa φb : Nat) (tF : TypeId) (R : AEnd → AH → Prop) : AEnd → AH → Prop := fun e σ => match e with
  | .ret v => R (.ret v) σ
  | .pan v => ∃ (c : Int) (x y : AV), v = .ifc tF (.agg [.val (.int .i64 c)]) ∧ σ φa = some ⟨0, 1, [[x]]⟩ ∧ σ φb = some ⟨0, 1, [[y]]⟩ ∧ R (.ret (.tup [.val (.slice none 0 0), .val (.int .i64 c)])) ((σ.set φa ⟨0, 1, [[.val (.slice none 0 0)]]⟩).set φb ⟨0, 1, [[.val (.int .i64 c)]]⟩)
/-- What the call that is put off does: nothing, or it turns the panic to a result. -/
structure Catch (P : Program) (g : FuncId) (tF : TypeId) : Prop where
  fn : ∃ gfn, P.funcs[g]? = some gfn ∧ gfn.body.isNone = false ∧ (gfn.name == "runtime.NumGoroutine") = false
  idle : ∀ (v2 v3 : Value) (w : World), CallsDIn (FR none) 0 P g #[v2, v3] .returning w fun e u' w' => (∃ t, e = .returned t) ∧ u' = .returning ∧ ∃ o, w' = w.alloc o
  caught : ∀ (κ : Kap) (σ : AH) (w : World) (c : Int) (φa φb : Nat) (x y : AV) (v2 v3 : Value), Rel κ σ w → VR κ (.ptr φa 0 0 0) v2 → VR κ (.ptr φb 0 0 0) v3 → φa ≠ φb → σ φa = some ⟨0, 1, [[x]]⟩ → σ φb = some ⟨0, 1, [[y]]⟩ →
    CallsDIn (FR none) 0 P g #[v2, v3] (.panicking [{ v := .iface tF (.agg #[.int .i64 c]), recovered := false }]) w fun e u' w' => (∃ t, e = .returned t) ∧ settle u' = .returning ∧
      ∃ κ', Stp κ σ w κ' ((σ.set φa ⟨0, 1, [[.val (.slice none 0 0)]]⟩).set φb ⟨0, 1, [[.val (.int .i64 c)]]⟩) w'
instance : Inhabited TI := ⟨⟨.struct #[], 0, 0, .agg #[], false⟩⟩
theorem wp_defer {o : Oper} {a : Act} {w : World} {g : FuncId} {v2 v3 : Value} {d : Nat} {next : Act → World → Prop} {Q : Exit → Act → World → Prop} (ho : o.op = .defer { callee := .value (.tmp d), args := #[], argTypes := #[] }) (hd : o.dst = none) (ha : a.eval (.tmp d) = .func (.func g) #[] #[v2, v3])
    (h : next { a with defers := { target := .fn (.func g) #[v2, v3], args := #[] } :: a.defers } w) : o.wpIn (FR none) 0 P a w next Q := by
  simp only [Act.eval] at ha
  unfold Oper.wpIn
  simp [Oper.uponIn, execOp, ho, resolve, go_sem, ha, hd]
  simpa using h
theorem wp_make {o : Oper} {a : Act} {w : World} {g : FuncId} {v2 v3 : Value} {d2 d3 : Nat} {next : Act → World → Prop} {Q : Exit → Act → World → Prop} (ho : o.op = .makeFunc (.func g) #[] #[.tmp d2, .tmp d3]) (h2 : a.eval (.tmp d2) = v2) (h3 : a.eval (.tmp d3) = v3)
    (h : next (a.put o.dst (.func (.func g) #[] #[v2, v3])) w) : o.wpIn (FR none) 0 P a w next Q := by
  simp only [Act.eval] at h2 h3
  unfold Oper.wpIn
  have hmf : Sem.run P (Instr.makeFunc (.func g) #[] #[v2, v3]) w = .ok (.func (.func g) #[] #[v2, v3]) w := rfl
  simp [Oper.uponIn, execOp, ho, go_sem, h2, h3, hmf]
  exact h
set_option maxHeartbeats 2000000 in
/-- A function that puts off a call that recovers, its code checked against syntax. -/
theorem acall_okD (hT : TabOk P T) {f : FuncId} {fn : Func} {args : List AV} {σ : AH} (hf : P.funcs[f]? = some fn) (hn : (fn.name == "runtime.NumGoroutine") = false) {iA iB : Nat} {oA oB oF oD : Oper} {C : Code} (x : Sx)
    (hb : fn.body = some ((Code.region iA #[oA, oB] false).seq ((Code.region iB #[oF, oD] false).seq C))) {tA tB tF : TypeId} {dA dB dF g : Nat} {nA nB : TI}
    (hA : oA.op = .alloc tA ∧ oA.dst = some dA ∧ oA.guard = none) (hB : oB.op = .alloc tB ∧ oB.dst = some dB ∧ oB.guard = none)
    (hF : oF.op = .makeFunc (.func g) #[] #[.tmp dA, .tmp dB] ∧ oF.dst = some dF ∧ oF.guard = none) (hD : oD.op = .defer { callee := .value (.tmp dF), args := #[], argTypes := #[] } ∧ oD.dst = none ∧ oD.guard = none)
    (hTA : T tA = some nA) (hTB : T tB = some nB) (hzA : nA.zero.cells = #[.slice none 0 0]) (hzB : nB.zero.cells = #[.int .i64 0]) (hrs : fn.results.toList = [.cell dA tA, .cell dB tB]) (hnA : nA.size = 1 ∧ isAggD nA.under = false) (hnB : nB.size = 1 ∧ isAggD nB.under = false)
    (hd3 : dA ≠ dB ∧ dA ≠ dF ∧ dB ≠ dF ∧ dA < fn.ntmps ∧ dB < fn.ntmps ∧ dF < fn.ntmps) (hc : Catch P g tF)
    (h : okC T 1 C ((((initS args.length fn.ntmps).set dA (.var args.length)).set dB (.var (args.length + 1))).set dF .any) (args.length + 2) 0 (endK T fn.results.toList) x = true) (hl : linC [dA, dB] C = true)
    (hd : ∀ φa φb, σ φa = none → (σ.set φa ⟨0, 1, [[.val (.slice none 0 0)]]⟩) φb = none → den P T (RD φa φb tF R) x (.ptr φb 0 0 0 :: .ptr φa 0 0 0 :: args.reverse) [] ((σ.set φa ⟨0, 1, [[.val (.slice none 0 0)]]⟩).set φb ⟨0, 1, [[.val (.int .i64 0)]]⟩)) :
    acall P f args σ R := by
  refine ⟨fn, hf, by rw [hb]; rfl, hn, fun κ w vs hr hv => ?_⟩
  refine (callsIn_FR (r := none) (n := 0)).1 (callsIn_of_wp_marks (F := FR none) (n := 0) hf hb trivial ?_ rfl)
  have he : EnvR κ (pad fn.ntmps args) (vs.toArray ++ Array.replicate (fn.ntmps - vs.toArray.size) undef) := by
    refine .ofList ?_
    have : (vs.toArray ++ Array.replicate (fn.ntmps - vs.toArray.size) undef).toList = vs ++ List.replicate (fn.ntmps - args.length) undef := by simp [hv.1]
    rw [this]
    refine hv.append ⟨by simp, fun i hi => ?_⟩
    have hi' : i < fn.ntmps - args.length := by simpa using hi
    simp only [List.getD, List.getElem?_replicate, hi', if_true, Option.getD_some]
    exact undefR κ
  have hlen : (pad fn.ntmps args).length = fn.ntmps ∨ fn.ntmps < args.length := by unfold pad; simp; omega
  have hbops : bops P T #[oA, oB] [] 0 [oA, oB] (pad fn.ntmps args) σ (fun t σ' => ∃ φa φb, σ φa = none ∧ (σ.set φa ⟨0, 1, [[.val (.slice none 0 0)]]⟩) φb = none ∧ t = ((pad fn.ntmps args).set dA (.ptr φa 0 0 0)).set dB (.ptr φb 0 0 0) ∧ σ' = (σ.set φa ⟨0, 1, [[.val (.slice none 0 0)]]⟩).set φb ⟨0, 1, [[.val (.int .i64 0)]]⟩) (fun _ _ _ => False) := by
    simp only [bops, hA.1, hB.1, hA.2.1, hB.2.1, hA.2.2, hB.2.2, silent, bgd, bop, hTA, hTB, hzA, hzB, onr, fgm, lk, aput]
    intro φa h1 φb h2
    exact ⟨φa, φb, h1, h2, rfl, rfl⟩
  refine wpIn_seq (wpIn_region_list (bops_ok hT [] [oA, oB] 0 _ σ _ _ hbops [] none 0 κ w _ hr he rfl _ ?_ (fun _ _ _ _ _ _ _ h => h.elim)))
  rintro κ1 _ _ a1 w1 ⟨φa, φb, hφa, hφb, rfl, rfl⟩ hs1 he1 hd1
  have hlt : dA < (pad fn.ntmps args).length ∧ dB < (pad fn.ntmps args).length := by unfold pad; simp; omega
  have hva : VR κ1 (.ptr φa 0 0 0) (a1.tmps.getD dA undef) := by
    have := he1.at dA
    rw [show (((pad fn.ntmps args).set dA (.ptr φa 0 0 0)).set dB (.ptr φb 0 0 0)).getD dA .any = .ptr φa 0 0 0 by rw [List.getD, List.getElem?_set_ne hd3.1.symm, List.getElem?_set_self hlt.1]; rfl] at this
    exact this
  have hvb : VR κ1 (.ptr φb 0 0 0) (a1.tmps.getD dB undef) := by
    have := he1.at dB
    rw [show (((pad fn.ntmps args).set dA (.ptr φa 0 0 0)).set dB (.ptr φb 0 0 0)).getD dB .any = .ptr φb 0 0 0 by rw [List.getD, List.getElem?_set_self (by rw [List.length_set]; exact hlt.2)]; rfl] at this
    exact this
  generalize hv2 : a1.tmps.getD dA undef = v2 at hva
  generalize hv3 : a1.tmps.getD dB undef = v3 at hvb
  have hsz : a1.tmps.size = (pad fn.ntmps args).length := by have := he1.size; simpa using this.symm
  have hne : φa ≠ φb := by rintro rfl; rw [AH.set_same] at hφb; cases hφb
  refine wpIn_seq (wpIn_region_list ?_)
  have hwF : Region.wanted oF (yielded #[oF, oD] a1.tmps) = true := by simp [Region.wanted, hF.2.2]
  have hwD : ∀ t, Region.wanted oD (yielded #[oF, oD] t) = true := fun t => by simp [Region.wanted, hD.2.2]
  have hdF : dF < a1.tmps.size := by rw [hsz]; unfold pad; simp; omega
  show wpListIn (FR none) 0 P #[oF, oD] _ [oF, oD] a1 w1
  unfold wpListIn
  rw [if_pos hwF]
  refine wp_make (v2 := v2) (v3 := v3) hF.1 (by simpa [Act.eval] using hv2) (by simpa [Act.eval] using hv3) ?_
  unfold wpListIn
  rw [if_pos (hwD _)]
  refine wp_defer (v2 := v2) (v3 := v3) (g := g) hD.1 hD.2.1 (by rw [hF.2.1]; simp [Act.eval, Act.put, hdF]) ?_
  unfold wpListIn
  rw [hF.2.1]
  show Code.wpIn _ _ _ _ _ _ _
  generalize ha2 : ({ a1.put (some dF) (.func (.func g) #[] #[v2, v3]) with defers := { target := .fn (.func g) #[v2, v3], args := #[] } :: (a1.put (some dF) (.func (.func g) #[] #[v2, v3])).defers } : Act) = a2
  have hdef : a2.defers = [{ target := .fn (.func g) #[v2, v3], args := #[] }] := by rw [← ha2]; show _ :: (a1.put _ _).defers = _; rw [defers_put, hd1]
  have htm : a2.tmps = a1.tmps.setIfInBounds dF (.func (.func g) #[] #[v2, v3]) := by rw [← ha2]; rfl
  have he2 : EnvR κ1 ((((pad fn.ntmps args).set dA (.ptr φa 0 0 0)).set dB (.ptr φb 0 0 0)).set dF .any) a2.tmps := by rw [htm]; exact he1.set dF (.any _)
  have hh2 : Hold [(dA, v2), (dB, v3)] a2 := by
    intro p hp
    rw [htm]
    simp only [List.mem_cons, List.not_mem_nil, or_false] at hp
    have hd : ∀ d, d < a1.tmps.size → a1.tmps[d]? = some (a1.tmps.getD d undef) := fun d hd => by simp [Array.getD, hd]
    rcases hp with rfl | rfl
    · rw [Array.getElem?_setIfInBounds_ne (Ne.symm hd3.2.1), hd dA (by rw [hsz]; exact hlt.1), hv2]
    · rw [Array.getElem?_setIfInBounds_ne (Ne.symm hd3.2.2.1), hd dB (by rw [hsz]; exact hlt.2), hv3]
  have hmap : (((((initS args.length fn.ntmps).set dA (.var args.length)).set dB (.var (args.length + 1))).set dF .any).map (dv (.ptr φb 0 0 0 :: .ptr φa 0 0 0 :: args.reverse))) = (((pad fn.ntmps args).set dA (.ptr φa 0 0 0)).set dB (.ptr φb 0 0 0)).set dF .any := by
    rw [List.map_set, List.map_set, List.map_set]
    have e0 : (initS args.length fn.ntmps).map (dv (.ptr φb 0 0 0 :: .ptr φa 0 0 0 :: args.reverse)) = pad fn.ntmps args := by
      rw [← initS_map]
      refine List.map_congr_left fun s hs => ?_
      have hlt := initS_wf args.length fn.ntmps s hs
      rw [dv_push _ (by simpa using SV.lt_mono hlt (Nat.le_succ _)), dv_push _ (by simpa using hlt)]
    have e1 : dv (.ptr φb 0 0 0 :: .ptr φa 0 0 0 :: args.reverse) (.var args.length) = .ptr φa 0 0 0 := by simp [dv]
    have e2 : dv (.ptr φb 0 0 0 :: .ptr φa 0 0 0 :: args.reverse) (.var (args.length + 1)) = .ptr φb 0 0 0 := by simp [dv]
    rw [e0, e1, e2]; rfl
  have hwf : WF (args.length + 2) ((((initS args.length fn.ntmps).set dA (.var args.length)).set dB (.var (args.length + 1))).set dF .any) := by
    intro s hs
    rcases List.mem_or_eq_of_mem_set hs with hs | rfl
    · rcases List.mem_or_eq_of_mem_set hs with hs | rfl
      · rcases List.mem_or_eq_of_mem_set hs with hs | rfl
        · exact SV.lt_mono (initS_wf _ _ s hs) (by omega)
        · exact Nat.lt_succ_of_lt (Nat.lt_succ_self _)
      · exact Nat.lt_succ_self _
    · trivial
  have hlr : (.ptr φb 0 0 0 :: .ptr φa 0 0 0 :: args.reverse : List AV).length = args.length + 2 := by simp
  have hsC : swpI [(dA, v2), (dB, v3)] P C (bqq T fn.results.toList (RD φa φb tF R)) ((((pad fn.ntmps args).set dA (.ptr φa 0 0 0)).set dB (.ptr φb 0 0 0)).set dF .any) ((σ.set φa ⟨0, 1, [[.val (.slice none 0 0)]]⟩).set φb ⟨0, 1, [[.val (.int .i64 0)]]⟩) := by
    rw [← hmap]
    refine okC_okI (W := [(dA, v2), (dB, v3)]) hT C hl (RD φa φb tF R) 1 _ (.ptr φb 0 0 0 :: .ptr φa 0 0 0 :: args.reverse) _ x _ [] _ (by rw [hlr]; exact h) (by rw [hlr]; exact hwf) (hd φa φb hφa hφb) ?_ (fun v a σ g => g)
    intro ax t' ρ' ks' x' σ' _ g1 g2 g3
    cases ax with
    | normal => exact okRes_ok g1 g2 g3
    | ret => exact okRes_ok g1 g2 g3
    | exit id => cases g1
  refine Code.wpIn_mono ?_ (hsC none 0 (w1.heap.size, [{ target := .fn (.func g) #[v2, v3], args := #[] }]) κ1 w1 a2 hs1.rel he2 ⟨Nat.le_refl _, ⟨[], by rw [hdef]; rfl, (fun d hd => by cases hd), .nil⟩, (fun l hl => by cases hl)⟩ hh2)
  rintro e a w' ⟨⟨κ', x, t', σ', h1, h2, h3, h4, h5⟩, h6⟩
  obtain ⟨ms, m1, m2, m3⟩ := h4.mark
  have hcall : ∀ {u : FrameMode} {w2 : World} {R' : Ending → World → Prop}, u ≠ .run → CallsDIn (FR none) 0 P g #[v2, v3] u w2 (fun
          | .returned _, u', w' => LeavesInM (FR none) 0 P fn a.tmps R' [] (settle u') w'
          | .panicked chain, u', w' => LeavesInM (FR none) 0 P fn a.tmps R' [] (raised u' chain) w'
          | .outgrown, _, w' => R' .outgrown w') → LeavesInM (FR none) 0 P fn a.tmps R' [{ target := .fn (.func g) #[v2, v3], args := #[] }] u w2 := by
    intro u w2 R' hu hk
    refine ⟨hu, .inr ⟨(fun h => by cases h), .func g, #[v2, v3], g, #[v2, v3], rfl, ?_, (fun _ _ => trivial), hk⟩⟩
    obtain ⟨gfn, q1, q2, q3⟩ := hc.fn
    simp only [invoke, callFunc, Sem.run_bind, Sem.run_pure, Result.andThen_ok, run_program, q1, q2, q3, Bool.false_eq_true, if_false]
    rfl
  have fin : ∀ (hq : og (ares T fn.results.toList t' σ') fun v => aret v σ' (RD φa φb tF R)), LeavesInM (FR none) 0 P fn a.tmps (fun e w' => ∃ κ' ae σ', R ae σ' ∧ Stp κ σ w κ' σ' w' ∧ EdR κ' ae e) a.defers .returning w' := by
    intro hq
    obtain ⟨v, hv1, v', σ'', hi, hR⟩ := og_some hq
    rw [m1]
    refine leaves_marks (by simp) hs1.rel ms _ h2 m2 m3 fun w2 r2 => hcall (by simp) ?_
    refine (hc.idle v2 v3 w2).mono ?_
    rintro e u' w3 ⟨⟨tt, rfl⟩, rfl, o, rfl⟩
    have r3 := r2.lay o
    obtain ⟨u, g1, g2⟩ := run_results hT (w := w2.alloc o) r3.rel h3 hv1
    obtain ⟨κ2, k1, k2⟩ := hi κ' _ u r3.rel g2
    exact ⟨u, g1, κ2, .ret v', σ'', hR, (hs1.trans r3).trans k1, k2⟩
  cases e <;> cases x <;> try exact h5.elim
  · exact fin (bres_ok h1)
  · exact h1.elim
  · exact fin (bres_ok h1)
  · obtain ⟨u, rfl, hv⟩ := h5
    obtain ⟨v', σ'', hi, hR⟩ := h1
    show LeavesInM (FR none) 0 P fn a.tmps _ a.defers _ w'
    rw [m1]
    refine leaves_marks (by simp) hs1.rel ms _ h2 m2 m3 fun w2 r2 => ?_
    obtain ⟨κ2, k1, k2⟩ := hi κ' w2 u r2.rel hv
    obtain ⟨c, x, y, rfl, e1, e2, hR⟩ := hR
    have hu : u = .iface tF (.agg #[.int .i64 c]) := by
      cases k2 with
      | ifc k =>
        cases k with
        | agg hl hh =>
          rename_i vs
          match vs, hl with
          | [v1], _ =>
            have := hh 0 (by simp)
            cases this
            rfl
    subst hu
    have hS := hs1.trans (r2.trans k1)
    refine hcall (by simp) ((hc.caught κ2 σ'' w2 c φa φb x y v2 v3 hS.rel (hva.mono (r2.trans k1).ext) (hvb.mono (r2.trans k1).ext) hne e1 e2).mono ?_)
    rintro e u' w3 ⟨⟨tt, rfl⟩, hu', κ3, hS3⟩
    show LeavesInM (FR none) 0 P fn a.tmps _ [] (settle u') w3
    rw [hu']
    have heX : EnvR κ3 (((List.replicate a.tmps.size AV.any).set dA (.ptr φa 0 0 0)).set dB (.ptr φb 0 0 0)) a.tmps := by
      have hat : ∀ d v, (d, v) ∈ [(dA, v2), (dB, v3)] → d < a.tmps.size ∧ a.tmps.getD d undef = v := fun d v hm => by
        have := h6 (d, v) hm
        obtain ⟨k1, k2⟩ := Array.getElem?_eq_some_iff.1 this
        exact ⟨k1, by rw [Array.getD_eq_getD_getElem?, this]; rfl⟩
      obtain ⟨a1, a2⟩ := hat dA v2 (by simp)
      obtain ⟨b1, b2⟩ := hat dB v3 (by simp)
      refine ⟨by simp, fun i hi => ?_⟩
      have hi' : i < a.tmps.size := by simpa using hi
      by_cases cB : dB = i
      · subst cB
        rw [List.getD, List.getElem?_set_self (by simpa using hi'), Option.getD_some, b2]
        exact hvb.mono ((r2.trans k1).ext.trans hS3.ext)
      · rw [List.getD, List.getElem?_set_ne cB]
        by_cases cA : dA = i
        · subst cA
          rw [List.getElem?_set_self (by simpa using hi'), Option.getD_some, a2]
          exact hva.mono ((r2.trans k1).ext.trans hS3.ext)
        · rw [List.getElem?_set_ne cA]
          simp only [List.getElem?_replicate, hi', if_true, Option.getD_some]
          exact .any _
    have hres : ares T fn.results.toList (((List.replicate a.tmps.size AV.any).set dA (.ptr φa 0 0 0)).set dB (.ptr φb 0 0 0)) ((σ''.set φa ⟨0, 1, [[.val (.slice none 0 0)]]⟩).set φb ⟨0, 1, [[.val (.int .i64 c)]]⟩) = some (.tup [.val (.slice none 0 0), .val (.int .i64 c)]) := by
      have hA2 : dA < a.tmps.size := (Array.getElem?_eq_some_iff.1 (h6 (dA, v2) (by simp))).1
      have hB2 : dB < a.tmps.size := (Array.getElem?_eq_some_iff.1 (h6 (dB, v3) (by simp))).1
      have gA : (((List.replicate a.tmps.size AV.any).set dA (.ptr φa 0 0 0)).set dB (.ptr φb 0 0 0)).getD dA .any = .ptr φa 0 0 0 := by
        rw [List.getD, List.getElem?_set_ne (Ne.symm hd3.1), List.getElem?_set_self (by simpa using hA2)]; rfl
      have gB : (((List.replicate a.tmps.size AV.any).set dA (.ptr φa 0 0 0)).set dB (.ptr φb 0 0 0)).getD dB .any = .ptr φb 0 0 0 := by
        rw [List.getD, List.getElem?_set_self (by simpa using hB2)]; rfl
      have lA : aload T tA (.ptr φa 0 0 0) ((σ''.set φa ⟨0, 1, [[.val (.slice none 0 0)]]⟩).set φb ⟨0, 1, [[.val (.int .i64 c)]]⟩) = some (.val (.slice none 0 0)) := by
        refine bload_ok _ ?_
        unfold bload
        rw [hTA]
        simp only [hnA.1, hnA.2]
        exact lod_at (i := 0) (by rw [AH.set_ne' hne]; exact AH.set_same ..) rfl rfl
      have lB : aload T tB (.ptr φb 0 0 0) ((σ''.set φa ⟨0, 1, [[.val (.slice none 0 0)]]⟩).set φb ⟨0, 1, [[.val (.int .i64 c)]]⟩) = some (.val (.int .i64 c)) := by
        refine bload_ok _ ?_
        unfold bload
        rw [hTB]
        simp only [hnB.1, hnB.2]
        exact lod_at (i := 0) (AH.set_same ..) rfl rfl
      rw [hrs]
      simp only [ares, amany, aone, gA, gB, lA, lB, Option.map_some]
    obtain ⟨u, g1, g2⟩ := run_results hT (w := w3) hS3.rel heX hres
    exact ⟨u, g1, κ3, .ret _, _, hR, hS.trans hS3, g2⟩
end
end Go.Proofs.YtmmhaiidcfgbbaaGreatDoor.E
