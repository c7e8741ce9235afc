/- The engine, part 23b: ranges over functions. -/
import Derived.Test.YtjfdgijgkbojnaaE23
set_option linter.unusedSectionVars false
namespace Go.Proofs.Ytjfdgijgkbojnaa.E
open Go Go.RowKit

/-- One range more under way. -/
@[reducible] def addLam (L : Lam) (l : Nat) (o : Obj) (κ0 : Kap) : Lam :=
  ⟨fun k => if k = l then some o else L.lo k, fun κ => L.kp κ ∧ Ext κ0 κ, fun _ _ E h => ⟨L.kpm _ _ E h.1, h.2.trans E⟩⟩

section
variable [L : Lam]
theorem Rel.less {l : Nat} {o : Obj} {κ0 κ : Kap} {σ : AH} {w : World} (hl : L.lo l = none) (h : @Rel (addLam L l o κ0) κ σ w) : Rel κ σ w := by
  obtain ⟨h1, h2, h3, h4, h5, h6, h7, h8, h9, h10⟩ := h
  refine ⟨h1, h2, h3, h4, h5, h6, h7, h8, fun k o' hk => h9 k o' ?_, h10.1⟩
  show (if k = l then some o else L.lo k) = some o'
  rw [if_neg]; · exact hk
  rintro rfl; rw [hl] at hk; cases hk
theorem Rel.more {l : Nat} {o : Obj} {κ0 κ : Kap} {σ : AH} {w : World} (h : Rel κ σ w) (ho : w.heap[l]? = some o) (hc : o.isCells = false) (E : Ext κ0 κ) : @Rel (addLam L l o κ0) κ σ w :=
  @Rel.mk (addLam L l o κ0) κ σ w h.has h.inj h.mem h.off h.up h.fin h.bel h.bw (fun k o' hk => by
    have hk : (if k = l then some o else L.lo k) = some o' := hk
    split at hk
    · rename_i e; cases hk; rw [e]; exact ⟨ho, hc⟩
    · exact h.obj k o' hk) ⟨h.kp, E⟩
theorem Rel.last {l : Nat} {o : Obj} {κ0 κ : Kap} {σ : AH} {w : World} (h : @Rel (addLam L l o κ0) κ σ w) : w.heap[l]? = some o ∧ Ext κ0 κ := by
  obtain ⟨h1, h2, h3, h4, h5, h6, h7, h8, h9, h10⟩ := h
  exact ⟨(h9 l o (if_pos rfl)).1, h10.2⟩
theorem Stp.less {l : Nat} {o : Obj} {κ0 κ κ' : Kap} {σ σ' : AH} {w w' : World} (hl : L.lo l = none) (h : @Stp (addLam L l o κ0) κ σ w κ' σ' w') : Stp κ σ w κ' σ' w' := by
  obtain ⟨h1, h2, h3⟩ := h
  exact ⟨h1, h2.less hl, h3⟩
theorem Stp.rel' {l : Nat} {o : Obj} {κ0 κ κ' : Kap} {σ σ' : AH} {w w' : World} (h : @Stp (addLam L l o κ0) κ σ w κ' σ' w') : @Rel (addLam L l o κ0) κ' σ' w' := by
  obtain ⟨h1, h2, h3⟩ := h
  exact h2
/-- No family lies in a block that holds no cells. -/
theorem Rel.nocell {κ : Kap} {σ : AH} {w : World} (h : Rel κ σ w) {b : Nat} {o : Obj} (ho : w.heap[b]? = some o) (hc : o.isCells = false) : ∀ φ F r, σ φ = some F → κ.ρ φ F.st = some r → r.b ≠ b := by
  rintro φ F r hF hρ rfl
  obtain ⟨r', g1, _, g3⟩ := h.has φ F hF
  rw [hρ] at g1; obtain rfl := Option.some.inj g1
  obtain ⟨c, e, fz, hh, _⟩ := g3.row
  rw [ho] at hh; cases hh; cases hc
/-- A block that holds no cells is turned. -/
theorem Rel.put {κ : Kap} {σ : AH} {w : World} (hr : Rel κ σ w) {k : Nat} {o o' : Obj} (ho : w.heap[k]? = some o) (hc : o.isCells = false) (hB : κ.B ≤ k) (hl : L.lo k = none) : Rel κ σ (w.putObj k o') := by
  have other : ∀ b, b ≠ k → (w.putObj k o').heap[b]? = w.heap[b]? := fun b hb => World.putObj_heap_other hb
  have cellne : ∀ b o v, w.cell? ⟨b, o, none⟩ = some v → b ≠ k := by
    rintro b o1 v hv rfl
    unfold World.cell? at hv
    rw [ho] at hv
    cases o <;> simp_all [Obj.isCells]
  refine ⟨?_, hr.inj, ?_, hr.off, hr.up, hr.fin, ?_, hr.bw, ?_, hr.kp⟩
  · intro φ F hF
    obtain ⟨r, h1, h2, h3⟩ := hr.has φ F hF
    exact ⟨r, h1, h2, h3.same (.refl κ) (other _ (hr.nocell ho hc φ F r hF h1))⟩
  · intro b o v hM
    have hc := hr.mem b o v hM
    rw [cell?_heap (other b (cellne b o v hc))]; exact hc
  · refine hr.bel.trans ⟨rfl, rfl, rfl, Nat.le_of_eq World.putObj_size.symm, fun b hb => other b ?_⟩
    have : b < κ.B := hb
    omega
  · intro l o hl2
    obtain ⟨h1, h2⟩ := hr.obj l o hl2
    exact ⟨by rw [other l (by rintro rfl; rw [hl] at hl2; cases hl2)]; exact h1, h2⟩
/-- A block that holds no cells, and that was laid since, is turned. -/
theorem Stp.put {κ0 κ : Kap} {σ0 σ : AH} {w0 w : World} {k : Nat} {o o' : Obj} (hr0 : Rel κ0 σ0 w0) (h : Stp κ0 σ0 w0 κ σ w) (hk : w0.heap.size ≤ k) (ho : w.heap[k]? = some o) (hc : o.isCells = false) : Stp κ0 σ0 w0 κ σ (w.putObj k o') := by
  have hl : L.lo k = none := by
    cases e : L.lo k with
    | none => rfl
    | some o => have := (Array.getElem?_eq_some_iff.1 (hr0.obj k o e).1).1; omega
  have hB : κ.B ≤ k := by rw [h.ext.B]; have := hr0.bsize; omega
  refine ⟨h.ext, h.rel.put ho hc hB hl, ⟨by simpa using h.fra.size, ?_, h.fra.ids⟩⟩
  intro b hb hu
  obtain ⟨c1, c2, c3⟩ := h.fra.blk b hb hu
  exact ⟨by rw [World.putObj_heap_other (by omega)]; exact c1, c2, c3⟩
/-- A block that holds no cells is laid. -/
theorem Stp.lay {κ0 κ : Kap} {σ0 σ : AH} {w0 w : World} (h : Stp κ0 σ0 w0 κ σ w) (o : Obj) : Stp κ0 σ0 w0 κ σ (w.alloc o) := by
  have hr := h.rel
  have other : ∀ b, b < w.heap.size → (w.alloc o).heap[b]? = w.heap[b]? := fun b hb => Below.heap_alloc w o b hb
  refine ⟨h.ext, ⟨?_, hr.inj, ?_, hr.off, hr.up, hr.fin, ?_, hr.bw, ?_, hr.kp⟩, ⟨by have := h.fra.size; simp; omega, ?_, h.fra.ids⟩⟩
  · intro φ F hF
    obtain ⟨r, h1, h2, h3⟩ := hr.has φ F hF
    exact ⟨r, h1, h2, h3.same (.refl κ) (other _ (hr.block_lt hF h1))⟩
  · intro b o v hM
    rw [cell?_heap (other b (hr.mem_lt hM))]; exact hr.mem b o v hM
  · exact hr.bel.alloc hr.bsize o
  · intro l o hl
    obtain ⟨h1, h2⟩ := hr.obj l o hl
    exact ⟨by rw [other l (Array.getElem?_eq_some_iff.1 h1).1]; exact h1, h2⟩
  · intro b hb hu
    obtain ⟨c1, c2, c3⟩ := h.fra.blk b hb hu
    exact ⟨by rw [other b (Nat.lt_of_lt_of_le hb h.fra.size)]; exact c1, c2, c3⟩
/-- A range over a function is entered. -/
theorem enter_ok {P : Program} {κ : Kap} {σ : AH} {w : World} {r : Option Nat} {n0 : Nat} {a : Act} (hr : Rel κ σ w) (hd : DF r n0 a w) (fn : FuncId) (ps : Array Tmp) (assign body : Code) :
    ∃ l mark w1 D, (Instr.enterLoop fn a.tmps ps assign body r).run P w = .ok (l, mark) w1 ∧ w.heap.size ≤ l ∧
      w1.heap[l]? = some (.loop { state := .ready, pending := none, fn, tmps := a.tmps, params := ps, assign, body, defers := D }) ∧ Stp κ σ w κ σ w1 ∧ DF r n0 { a with defers := mark ++ a.defers } w1 := by
  cases r with
  | none =>
    refine ⟨_, _, _, w.heap.size, run_enterLoop_outer fn a.tmps ps assign body, by omega, ?_, ((Stp.refl hr).lay _).lay _, ?_⟩
    · have := World.alloc_heap_new (w.alloc (.deferred (some []))) (.loop { state := .ready, pending := none, fn, tmps := a.tmps, params := ps, assign, body, defers := w.heap.size })
      rwa [World.size_alloc] at this
    · have hK : ∀ o, ((w.alloc (.deferred (some []))).alloc o).heap[w.heap.size]? = some (.deferred (some [])) := fun o =>
        (Below.heap_alloc _ _ _ (by simp)).trans (World.alloc_heap_new w _)
      have keep : ∀ o (k : Nat) (u : Obj), w.heap[k]? = some u → ((w.alloc (.deferred (some []))).alloc o).heap[k]? = some u := fun o k u hu => by
        have hlt := (Array.getElem?_eq_some_iff.1 hu).1
        rw [Below.heap_alloc _ _ _ (by simp; omega), Below.heap_alloc _ _ _ hlt]; exact hu
      refine ⟨by have := hd.le; simp; omega, ?_, ?_, fun l hl => by cases hl⟩
      · intro d hm
        rcases List.mem_append.1 hm with hm | hm
        · obtain rfl := List.mem_singleton.1 hm
          exact ⟨_, rfl, hd.le, hK _⟩
        · obtain ⟨k, h1, h2, h3⟩ := hd.mark d hm
          exact ⟨k, h1, h2, keep _ _ _ h3⟩
      · refine List.pairwise_cons.2 ⟨fun d hm e => ?_, hd.apart⟩
        obtain ⟨k, h1, h2, h3⟩ := hd.mark d hm
        rw [h1] at e
        have hk : w.heap.size = k := by injection e with e1 _; injection e1
        have := (Array.getElem?_eq_some_iff.1 h3).1
        omega
  | some l0 =>
    obtain ⟨c, hc⟩ := hd.ro l0 rfl
    refine ⟨_, _, _, c.defers, run_enterLoop_inner hc fn a.tmps ps assign body, Nat.le_refl _, World.alloc_heap_new w _, (Stp.refl hr).lay _, ?_⟩
    have keep : ∀ o (k : Nat) (u : Obj), w.heap[k]? = some u → (w.alloc o).heap[k]? = some u := fun o k u hu => by
      rw [Below.heap_alloc _ _ _ (Array.getElem?_eq_some_iff.1 hu).1]; exact hu
    refine ⟨by have := hd.le; simp; omega, ?_, hd.apart, ?_⟩
    · intro d hm
      obtain ⟨k, h1, h2, h3⟩ := hd.mark d hm
      exact ⟨k, h1, h2, keep _ _ _ h3⟩
    · intro l hl
      obtain ⟨c, hc⟩ := hd.ro l hl
      exact ⟨c, keep _ _ _ hc⟩
theorem DF.put {r : Option Nat} {n0 : Nat} {a : Act} {w : World} {l : Nat} {c c' : Loop} (hd : DF r n0 a w) (hl : w.heap[l]? = some (.loop c)) : DF r n0 a (w.putObj l (.loop c')) := by
  refine ⟨by simpa using hd.le, ?_, hd.apart, ?_⟩
  · intro d hm
    obtain ⟨k, h1, h2, h3⟩ := hd.mark d hm
    refine ⟨k, h1, h2, ?_⟩
    rw [World.putObj_heap_other]; · exact h3
    rintro rfl; rw [hl] at h3; cases h3
  · intro k hk
    obtain ⟨u, hu⟩ := hd.ro k hk
    by_cases e : k = l
    · subst e; exact ⟨c', World.putObj_heap_same (Array.getElem?_eq_some_iff.1 hl).1⟩
    · exact ⟨u, by rw [World.putObj_heap_other e]; exact hu⟩
end

/-- A round of a range over a function: to its end. -/
def rndE (N : AH → Prop) : QT := fun x _ σ => match x with
  | .normal => N σ
  | _ => False
section
variable [L : Lam]
/-- A range over a function: Y says what a round comes to. -/
def arange (P : Program) (g : AV) (Y : AV → AH → (AH → Prop) → Prop) (σ : AH) (K : AH → Prop) (Kp : AV → AH → Prop) : Prop :=
  match g with
  | .clo (.func gf) [] cap => ∀ (L' : Lam) (l : Nat),
      (∀ x σ1 N, Y x σ1 N → @ayield L' P l [x] σ1 (onr (fun v σ' => v = .val (.bool true) ∧ N σ') (fun _ _ => False))) →
        @acall L' P gf (.yld l :: cap) σ (onr (fun _ σ' => K σ') Kp)
  | _ => False
theorem arange_mono {P : Program} {g : AV} {Y Y' : AV → AH → (AH → Prop) → Prop} {σ : AH} {K : AH → Prop} {Kp : AV → AH → Prop} (h : arange P g Y σ K Kp) (k : ∀ x σ N, Y x σ N → Y' x σ N) : arange P g Y' σ K Kp := by
  unfold arange at h ⊢
  split at h
  · intro L' l hY
    exact h L' l fun x σ1 N hy => hY x σ1 N (k x σ1 N hy)
  · exact h
theorem swp_range {P : Program} {g : Operand} {p : Nat} {assign body : Code} {Q : QT} {t : List AV} {σ : AH} {K : AH → Prop} {Kp : AV → AH → Prop}
    (h : arange P (aeval t g) (fun x σ1 N => swp P assign (thn (fun t σ => swp P body (rndE N) t σ) (fun _ _ _ => False)) (t.set p x) σ1) σ K Kp)
    (hK : ∀ σ', K σ' → Q .normal t σ') (hKp : ∀ v σ', Kp v σ' → Q (.pan v) t σ') : swp P (.rangeFunc g #[p] assign body) Q t σ := by
  intro r m n0 κ w a hr he hd
  unfold arange at h
  split at h
  case h_2 => exact h.elim
  rename_i gf cap hg
  have hv := he.eval g
  rw [hg] at hv
  generalize hav : a.eval g = fv at hv
  cases hv with
  | @clo _ _ _ fs cs hl1 hl2 g1 g2 =>
  obtain rfl : fs = [] := List.eq_nil_of_length_eq_zero hl1.symm
  refine wpIn_rangeFunc ?_
  intro fn _
  obtain ⟨l, mark, w1, D, e1, e2, e3, e4, e5⟩ := enter_ok (P := P) hr hd fn #[p] assign body
  generalize hrec : (fun st : LoopState => ({ state := st, pending := none, fn, tmps := a.tmps, params := #[p], assign, body, defers := D } : Loop)) = rec
  have e3 : w1.heap[l]? = some (.loop (rec .ready)) := by rw [← hrec]; exact e3
  have hLl : L.lo l = none := by
    cases e : L.lo l with
    | none => rfl
    | some o => have := (Array.getElem?_eq_some_iff.1 (hr.obj l o e).1).1; omega
  have hB : κ.B ≤ l := Nat.le_trans hr.bsize e2
  have R1 : @Rel (addLam L l (.loop (rec .ready)) κ) κ σ w1 := e4.rel.more e3 rfl (.refl κ)
  have hcall := h (addLam L l (.loop (rec .ready)) κ) l (by
    intro x σ1 N hY m κ1 w2 vs hr2 hvs
    obtain ⟨v, us, rfl, hx, hus⟩ := hvs.uncons
    obtain rfl := hus.unnil
    obtain ⟨hl2, hE⟩ := hr2.last
    have hr2' : Rel κ1 σ1 w2 := hr2.less hLl
    have hlt2 : l < w2.heap.size := (Array.getElem?_eq_some_iff.1 hl2).1
    have hnc2 := hr2'.nocell hl2 rfl
    refine ⟨_, _, _, _, run_yield hl2 (by rw [← hrec]; rfl), roundIn_of_wpIn trivial ?_⟩
    have het : EnvR κ1 (t.set p x) (((rec .ready).params.zip [v].toArray).foldl (fun tmps (t, a) => tmps.setIfInBounds t a) (rec .ready).tmps) := by
      have e0 : ((rec .ready).params.zip #[v]).foldl (fun tmps (t, a) => tmps.setIfInBounds t a) (rec .ready).tmps = a.tmps.setIfInBounds p v := by rw [← hrec]; simp
      rw [show [v].toArray = #[v] from rfl, e0]; exact (he.mono hE).set p hx
    have has : (rec .ready).assign = assign := by rw [← hrec]
    have hbo : (rec .ready).body = body := by rw [← hrec]
    rw [has, hbo]
    refine Code.wpIn_mono ?_ (hY (some l) m w2.heap.size κ1 w2 { tmps := _, defers := [] } hr2' het ⟨Nat.le_refl _, (fun d hd => by cases hd), .nil, fun k hk => by cases hk; exact ⟨_, hl2⟩⟩)
    rintro e a3 w3 ⟨κ3, z, t3, σ3, h1, h2, h3, h4, h5⟩
    cases e <;> cases z <;> first | exact h5.elim | exact h1.elim | skip
    have f3 := h2.fra.blk l hlt2 hnc2
    have hl3 : w3.heap[l]? = some (.loop (rec .ready)) := f3.1.trans hl2
    have hB3 : κ3.B ≤ l := by rw [h2.ext.B, hE.B]; exact hB
    refine ⟨_, run_beginRound hl3 (by rw [← hrec]), ?_⟩
    have hbusy : (({ rec .ready with state := .busy } : Loop)) = rec .busy := by rw [← hrec]
    rw [hbusy]
    have hr4 : Rel κ3 σ3 (w3.putObj l (.loop (rec .busy))) := h2.rel.put hl3 rfl hB3 hLl
    have hl4 : (w3.putObj l (.loop (rec .busy))).heap[l]? = some (.loop (rec .busy)) := World.putObj_heap_same (Array.getElem?_eq_some_iff.1 hl3).1
    refine Code.wpIn_mono ?_ (h1 (some l) m w2.heap.size κ3 _ a3 hr4 h3 (h4.put hl3))
    rintro e a5 w5 ⟨κ5, z, t5, σ5, k1, k2, k3, k4, k5⟩
    cases e <;> cases z <;> first | exact k5.elim | exact k1.elim | skip
    have f5 := k2.fra.blk l (Array.getElem?_eq_some_iff.1 hl4).1 (hr4.nocell hl4 rfl)
    have hl5 : w5.heap[l]? = some (.loop (rec .busy)) := f5.1.trans hl4
    refine ⟨_, _, run_endRound none hl5, ?_⟩
    have hback : ({ rec .busy with state := (if (none : Option Code).isNone then .ready else .done), pending := none } : Loop) = rec .ready := by rw [← hrec]; rfl
    rw [hback]
    have hB5 : κ5.B ≤ l := by rw [k2.ext.B]; exact hB3
    have hr6 : Rel κ5 σ5 (w5.putObj l (.loop (rec .ready))) := k2.rel.put hl5 rfl hB5 hLl
    have hl6 : (w5.putObj l (.loop (rec .ready))).heap[l]? = some (.loop (rec .ready)) := World.putObj_heap_same (Array.getElem?_eq_some_iff.1 hl5).1
    have hE5 : Ext κ1 κ5 := h2.ext.trans k2.ext
    refine ⟨κ5, .ret (.val (.bool true)), σ5, ⟨rfl, k1⟩, @Stp.mk (addLam L l (.loop (rec .ready)) κ) _ _ _ _ _ _ hE5 (hr6.more hl6 rfl (hE.trans hE5)) ⟨?_, ?_, ?_⟩, .val _⟩
    · have s1 := h2.fra.size
      have s2 := k2.fra.size
      simp at s2 ⊢; omega
    · intro b hb hu
      obtain ⟨c1, c2, c3⟩ := h2.fra.blk b hb hu
      by_cases eb : b = l
      · subst eb
        exact ⟨by rw [hl6, hl2], fun o => (f5.2.1 o).trans (c2 o), f5.2.2⟩
      · obtain ⟨d1, d2, d3⟩ := k2.fra.blk b (by have := h2.fra.size; simp; omega) c3
        exact ⟨by rw [World.putObj_heap_other eb, d1, World.putObj_heap_other eb, c1], fun o => (d2 o).trans (c2 o), d3⟩
    · intro φ hn hex
      obtain ⟨i1, i2⟩ := h2.fra.ids φ hn hex
      obtain ⟨st, q, hq⟩ := hex
      obtain ⟨j1, j2⟩ := k2.fra.ids φ i1 ⟨st, q, by rw [i2]; exact hq⟩
      exact ⟨j1, fun st => (j2 st).trans (i2 st)⟩)
  obtain ⟨gfn, q1, q2, q3, q4⟩ := hcall
  have hargs : VRs κ (.yld l :: cap) (Value.func (.yield l) #[] #[] :: cs) := VRs.cons (.yld l) ⟨hl2, g2⟩
  have hc := q4 κ w1 _ R1 hargs
  refine ⟨l, mark, w1, { target := .fn (.func gf) cs.toArray, args := #[.func (.yield l) #[] #[]] }, w1, gf, (Value.func (.yield l) #[] #[] :: cs).toArray, w1, e1, ?_, fun _ _ => trivial, ?_, (fun h => by cases h), callsIn_FR.2 (hc.mono ?_)⟩
  · simp only [resolve, hav]
    simp [go_sem]
  · simp only [invoke, callFunc, Sem.run_bind, Sem.run_pure, Result.andThen_ok, run_program, q1, q2, q3, Bool.false_eq_true, if_false]
    simp
  · rintro e w3 ⟨κ', ae, σ', k1, k2, k3⟩
    have k3' := k2.less hLl
    have k2' : Stp κ σ w κ' σ' w3 := e4.trans k3'
    have hl3 := k2.rel'.last.1
    have he' : EnvR κ' t a.tmps := he.mono k3'.ext
    have hd' : DF r n0 { a with defers := mark ++ a.defers } w3 := e5.stp (a := { a with defers := mark ++ a.defers }) e4.rel k3' rfl
    cases e <;> cases ae <;> first | exact k3.elim | skip
    · have hend := run_endLoop (P := P) hl3 (by rw [← hrec]; simp)
      rw [show (rec .ready).pending = none by rw [← hrec]] at hend
      exact ⟨none, _, hend, κ', .normal, t, σ', hK σ' k1, k2'.put hr e2 hl3 rfl, he', hd'.put hl3, trivial⟩
    · obtain ⟨v, rfl, hv⟩ := k3
      exact ⟨κ', .pan _, t, σ', hKp _ _ k1, k2', he', hd', v, rfl, hv⟩
end
end Go.Proofs.Ytjfdgijgkbojnaa.E
