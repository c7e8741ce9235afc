/- The engine, part 33: arguments of rows, as abstract values; from calls in abstract values to rows. -/
import Derived.Test.YtjfdgijgkbojnaaE32
import Derived.ChangeArms
import Derived.ReadAgain
import Derived.ChangeOld
import Derived.WideShapes
import Derived.Deep.Slices
set_option linter.unusedSectionVars false
namespace Go.Proofs.Ytjfdgijgkbojnaa.E
open Go Go.RowKit
/-- No range over a function is under way. -/
abbrev lam0 : Lam := ⟨fun _ => none, fun _ => True, fun _ _ _ _ => trivial⟩
def kap0 (W : World) : Kap := ⟨fun _ _ => none, fun b o => W.cell? ⟨b, o, none⟩, W.heap.size, W⟩
def ah0 : AH := fun _ => none
section
attribute [local instance] lam0
theorem rel0 (W : World) : Rel (kap0 W) ah0 W where
  has := fun _ _ h => by cases h
  inj := fun _ _ _ _ _ _ h => by cases h
  mem := fun _ _ _ h => h
  off := fun _ _ _ h => by cases h
  up := fun _ _ _ h => by cases h
  fin := ⟨0, fun _ _ => ⟨rfl, fun _ => rfl⟩⟩
  bel := Below.refl _ _
  bw := Nat.le_refl _
  obj := fun _ _ h => by cases h
  kp := trivial
theorem calls_row {P : Program} {f : FuncId} {args : List AV} {vs : List Value} {W : World} (h : acall P f args ah0 (fun e _ => e = .ret (.val (.bool true)))) (hv : VRs (kap0 W) args vs) :
    Calls P f vs.toArray W fun e w' => e = .returned (.bool true) ∧ Below W.heap.size W w' := by
  obtain ⟨fn, h1, h2, h3, h4⟩ := h
  refine (h4 (kap0 W) W vs (rel0 W) hv).mono ?_
  rintro e w' ⟨κ', ae, σ', rfl, hs, hE⟩
  have hb := hs.rel.bel
  rw [hs.ext.B, hs.ext.W] at hb
  cases e with
  | returned v => cases hE; exact ⟨rfl, hb⟩
  | _ => exact hE.elim

end
variable [Lam]
/-- What the cells of a type come to. -/
def Sh (P : Program) : Nat → TypeId → List AV → Prop
  | 0, _, _ => False
  | m + 1, t, as => match P.underlying t with
    | some .bool => ∃ b, as = [.val (.bool b)]
    | some (.int k) => ∃ n, as = [.val (.int k n)] ∧ (Lit.int k n).wf = true
    | some .string => ∃ s : ByteArray, as = [.val (.string s)] ∧ s.size ≤ maxLen
    | some (.slice e) => ∃ es, as = [.ro es] ∧ es.length ≤ maxLen ∧ ∀ c, c ∈ es → Sh P m e c
    | some (.struct fs) => as.length = P.cellsOf t ∧ ∀ f, f ∈ fs.toList → Sh P m f.type ((as.drop f.offset).take (P.cellsOf f.type))
    | _ => False
def laid (P : Program) : Nat → List Field → Nat → Bool
  | off, [], n => off == n
  | off, f :: fs, n => f.offset == off && laid P (off + P.cellsOf f.type) fs n
def flatT (P : Program) : Nat → TypeId → Bool
  | 0, _ => false
  | m + 1, t => match P.underlying t with
    | some .bool => true
    | some (.int _) => true
    | some .string => true
    | some (.slice e) => flatT P m e && decide (0 < P.cellsOf e)
    | some (.struct fs) => laid P 0 fs.toList (P.cellsOf t) && fs.toList.all fun f => flatT P m f.type
    | _ => false
theorem laid_le {P : Program} : ∀ (fs : List Field) (off n : Nat), laid P off fs n = true → off ≤ n := by
  intro fs
  induction fs with
  | nil => intro off n h; simp [laid] at h; omega
  | cons f fs ih => intro off n h; simp only [laid, Bool.and_eq_true] at h; have := ih _ _ h.2; omega
theorem glue {P : Program} {κ : Kap} {m : Nat} {cs : List Value} : ∀ (fs : List Field) (off : Nat), laid P off fs cs.length = true →
    (∀ f, f ∈ fs → ∃ as, Sh P m f.type as ∧ VRs κ as ((cs.drop f.offset).take (P.cellsOf f.type))) →
    ∃ as, VRs κ as (cs.drop off) ∧ ∀ f, f ∈ fs → off ≤ f.offset ∧ Sh P m f.type ((as.drop (f.offset - off)).take (P.cellsOf f.type)) := by
  intro fs
  induction fs with
  | nil =>
    intro off h _
    simp [laid] at h
    exact ⟨[], by rw [List.drop_eq_nil_of_le (by omega)]; exact .nil κ, fun f hf => by cases hf⟩
  | cons f fs ih =>
    intro off h hf
    simp only [laid, Bool.and_eq_true, beq_iff_eq] at h
    obtain ⟨h0, h1⟩ := h
    obtain ⟨a1, hs1, hv1⟩ := hf f (List.mem_cons_self ..)
    obtain ⟨a2, hv2, hs2⟩ := ih _ h1 (fun g hg => hf g (List.mem_cons_of_mem _ hg))
    have hle := laid_le _ _ _ h1
    rw [h0] at hv1
    have hl1 : a1.length = P.cellsOf f.type := by rw [hv1.1]; simp; omega
    refine ⟨a1 ++ a2, ?_, ?_⟩
    · have e : cs.drop off = (cs.drop off).take (P.cellsOf f.type) ++ cs.drop (off + P.cellsOf f.type) := by
        rw [← List.drop_drop]; exact (List.take_append_drop _ _).symm
      rw [e]; exact hv1.append hv2
    · intro g hg
      rcases List.mem_cons.1 hg with rfl | hg
      · refine ⟨by omega, ?_⟩
        rw [h0, Nat.sub_self, List.drop_zero, ← hl1, List.take_left]
        exact hs1
      · obtain ⟨k1, k2⟩ := hs2 g hg
        refine ⟨by omega, ?_⟩
        rw [show g.offset - off = a1.length + (g.offset - (off + P.cellsOf f.type)) by omega, ← List.drop_drop, List.drop_left]
        exact k2
theorem cells_at {W : World} {base : Nat} {a : Addr} {n : Nat} {cs : List Value} (h : W.cells? base a n = some cs) : cs.length = n ∧ ∀ j, j < n → W.cell? (a.add j) = some (cs.getD j undef) := by
  obtain ⟨_, h2, h3⟩ := World.cells?_some h
  refine ⟨h2, fun j hj => ?_⟩
  have := h3 j hj
  rw [this]; simp [List.getD, h2 ▸ hj]
theorem add_none {b off n : Nat} : (⟨b, off, none⟩ : Addr).add n = ⟨b, off + n, none⟩ := by
  unfold Addr.add; split
  · rename_i h; simp [h]
  · rfl
theorem read_ok {H : Type} {enc : TypeId × Value → H} {P : Program} {W : World} {base : Nat} {hd : Bool} : ∀ (n : Nat) (t : TypeId) (cs : List Value) (x : DataW H × List MemPlace),
    DataW.trod enc P W base (fun _ => true) hd n t cs = some x → ∀ m, flatT P m t = true → ∃ as, Sh P m t as ∧ VRs (kap0 W) as cs := by
  intro n
  induction n with
  | zero => intro t cs x h; simp [DataW.trod] at h
  | succ n ih =>
    intro t cs x h m hp
    cases m with
    | zero => cases hp
    | succ m =>
      unfold flatT at hp
      cases hu : P.underlying t with
      | none => rw [hu] at hp; cases hp
      | some d =>
        rw [hu] at hp
        cases d with
        | bool =>
          obtain ⟨b, rfl, _⟩ := DataW.trod_bool hu h
          exact ⟨[.val (.bool b)], by simp [Sh, hu], .one (.val _)⟩
        | int k =>
          obtain ⟨z, rfl, _, hw⟩ := DataW.trod_int hu h
          exact ⟨[.val (.int k z)], by simp [Sh, hu, hw], .one (.val _)⟩
        | string =>
          obtain ⟨s, rfl, _, hw⟩ := DataW.trod_string hu h
          exact ⟨[.val (.string s)], by simp [Sh, hu, hw], .one (.val _)⟩
        | slice e =>
          simp only [Bool.and_eq_true, decide_eq_true_eq] at hp
          obtain ⟨hpe, hpos⟩ := hp
          rcases DataW.trod_slice hu h with ⟨rfl, _⟩ | ⟨a, len, cap, elems, rest, n', hn, rfl, _, hb, hlc, hcap, hlen, hel, hsp, _⟩
          · exact ⟨[.ro []], by simp [Sh, hu], .one (.roEnd _)⟩
          · obtain rfl : n = n' := by omega
            obtain ⟨hrl, hrest⟩ := hsp rfl
            have hel' : ∀ i, i < len → ∃ cs' y, W.cells? base (a.add (i * P.cellsOf e)) (P.cellsOf e) = some cs' ∧ DataW.trod enc P W base (fun _ => true) hd n e cs' = some y := by
              intro i hi
              have h1 := hel i hi
              rw [List.getElem?_eq_getElem (by omega), Option.bind_eq_some_iff] at h1
              obtain ⟨cs', h2, h3⟩ := h1
              exact ⟨cs', _, h2, h3⟩
            by_cases hc0 : cap = 0
            · obtain rfl : len = 0 := by omega
              subst hc0
              exact ⟨[.ro []], by simp [Sh, hu], .one (.roEnd _)⟩
            have hspot : a.spot = none := by
              have h0 : ∃ cs', W.cells? base a (P.cellsOf e) = some cs' := by
                by_cases hl : 0 < len
                · obtain ⟨cs', _, h2, _⟩ := hel' 0 hl
                  refine ⟨cs', ?_⟩
                  rw [← h2]; simp [Addr.add]
                · have h1 := hrest 0 (by omega)
                  rw [List.getElem?_eq_getElem (by omega), Option.bind_eq_some_iff] at h1
                  obtain ⟨cs', h2, _⟩ := h1
                  refine ⟨cs', ?_⟩
                  obtain rfl : len = 0 := by omega
                  rw [← h2]; simp [Addr.add]
              obtain ⟨cs', h0⟩ := h0
              have := (cells_at h0).2 0 hpos
              simp only [Addr.add, if_true] at this
              unfold World.cell? at this
              cases hs : a.spot with
              | none => rfl
              | some z => rw [hs] at this; split at this <;> simp at this
            obtain ⟨ab, ao, as⟩ := a
            obtain rfl : as = none := hspot
            have hall : ∀ i, ∃ p : List AV × List Value, i < len → Sh P m e p.1 ∧ VRs (kap0 W) p.1 p.2 ∧ W.cells? base (⟨ab, ao + i * P.cellsOf e, none⟩) (P.cellsOf e) = some p.2 := by
              intro i
              by_cases hi : i < len
              · obtain ⟨cs', y, h2, h3⟩ := hel' i hi
                obtain ⟨as, k1, k2⟩ := ih _ _ _ h3 m hpe
                rw [add_none] at h2
                exact ⟨(as, cs'), fun _ => ⟨k1, k2, h2⟩⟩
              · exact ⟨([], []), fun h => absurd h hi⟩
            obtain ⟨f, hf⟩ := Classical.axiomOfChoice hall
            refine ⟨[.ro ((List.range len).map fun i => (f i).1)], ?_, .one ?_⟩
            · simp only [Sh, hu]
              refine ⟨_, rfl, by simp; omega, fun c hc => ?_⟩
              obtain ⟨i, hi, rfl⟩ := List.mem_map.1 hc
              exact (hf i (List.mem_range.1 hi)).1
            · have hget : ∀ i, i < len → ((List.range len).map fun i => (f i).1).getD i [] = (f i).1 := by
                intro i hi; simp [List.getD, hi]
              have key : VR (kap0 W) (.ro ((List.range len).map fun i => (f i).1)) (.slice (some ⟨ab, ao, none⟩) ((List.range len).map fun i => (f i).1).length cap) := by
                refine VR.ro (sz := P.cellsOf e) (vals := fun i j => (f i).2.getD j undef) (by simpa using hlc) ?_ ?_ ?_
                · intro i hi
                  have hi : i < len := by simpa using hi
                  obtain ⟨_, k2, k3⟩ := hf i hi
                  rw [hget i hi, k2.1, (cells_at k3).1]
                · intro i j hi hj
                  have hi : i < len := by simpa using hi
                  obtain ⟨_, k2, k3⟩ := hf i hi
                  have := (cells_at k3).2 j hj
                  rw [add_none] at this
                  exact this
                · intro i j hi hj
                  have hi : i < len := by simpa using hi
                  obtain ⟨_, k2, k3⟩ := hf i hi
                  rw [hget i hi]
                  exact k2.2 j (by rw [k2.1, (cells_at k3).1]; exact hj)
              simpa using key
        | struct fs =>
          simp only [Bool.and_eq_true, List.all_eq_true] at hp
          obtain ⟨hla, hpf⟩ := hp
          obtain ⟨xs, n', hn, _, hl, hxl, hg⟩ := DataW.trod_struct hu h
          obtain rfl : n = n' := by omega
          rw [← hl] at hla
          obtain ⟨as, h1, h2⟩ := glue (P := P) (κ := kap0 W) (m := m) fs.toList 0 hla (fun f hf => by
            obtain ⟨i, hi, rfl⟩ := List.getElem_of_mem hf
            have e1 : fs[i]? = some fs.toList[i] := by simp at hi; simp [hi]
            have e2 := hg i _ e1
            rw [List.getElem?_eq_getElem (by simp at hi; omega)] at e2
            exact ih _ _ _ e2 m (hpf _ hf))
          refine ⟨as, ?_, by simpa using h1⟩
          simp only [Sh, hu]
          refine ⟨by rw [h1.1, List.drop_zero, hl], fun f hf => ?_⟩
          have := (h2 f hf).2
          simpa using this
        | _ => cases hp
/-- A whole value: a struct stands in one. -/
def wrapA (P : Program) (t : TypeId) (as : List AV) : AV := match P.underlying t with
  | some (.struct _) => .agg as
  | _ => as.headD .any
theorem arg_ok {H : Type} {enc : TypeId × Value → H} {P : Program} {W : World} {base : Nat} {hd : Bool} {r : Reach} {b : Nat} {t : TypeId} {v : Value} {d : DataW H} {ps : List MemPlace} (m : Nat)
    (hp : flatT P m t = true) (hok : Value.okWide P W r b t v) (h : DataW.Trod enc P W base (fun _ => true) hd t v d ps) : ∃ as, Sh P m t as ∧ VR (kap0 W) (wrapA P t as) v := by
  obtain ⟨n, hn⟩ := h
  obtain ⟨as, h1, h2⟩ := read_ok n _ _ _ hn m hp
  refine ⟨as, h1, ?_⟩
  have one : ∀ u, v = u → v.cells.toList = [v] → VR (kap0 W) (as.headD .any) v := by
    intro u _ hc
    rw [hc] at h2
    obtain ⟨hl, hv⟩ := h2
    match as, hl with
    | [a], _ => exact hv 0 (by simp)
  cases m with
  | zero => cases hp
  | succ m =>
    unfold flatT at hp
    unfold wrapA
    cases hu : P.underlying t with
    | none => rw [hu] at hp; cases hp
    | some dd =>
      rw [hu] at hp
      cases dd with
      | bool => obtain ⟨_, rfl⟩ := WideShapes.okWide_bool hu hok; exact one _ rfl rfl
      | int k => obtain ⟨_, rfl⟩ := WideShapes.okWide_int hu hok; exact one _ rfl rfl
      | string => obtain ⟨_, rfl⟩ := WideShapes.okWide_string hu hok; exact one _ rfl rfl
      | slice e => obtain ⟨_, _, _, rfl⟩ := WideShapes.okWide_slice hu hok; exact one _ rfl rfl
      | struct fs =>
        obtain ⟨cs, rfl, _⟩ := WideShapes.okWide_struct hu hok
        have : VR (kap0 W) (.agg as) (.agg cs.toList.toArray) := .agg (by simpa [Value.cells] using h2.1) (by simpa [Value.cells] using h2.2)
        simpa using this
      | _ => cases hp
/-- Arguments are read again, behind the call. -/
theorem again_ok {H : Type} {enc : TypeId × Value → H} {P : Program} {W W' : World} (K : Kids P (· < P.types.size)) (hz : ∀ t e, t < P.types.size → P.underlying t = some (.slice e) → 0 < P.cellsOf e)
    {ts : List TypeId} {vs : List Value} {ds : List (DataW H)} {ps : List MemPlace} (hts : ∀ t, t ∈ ts → t < P.types.size)
    (h : DataW.TrodAll enc P W 0 (fun _ => true) true ts vs ds ps) (bel : Below W.heap.size W W') : DataW.TrodAll enc P W' 0 (fun b => decide (b < W.heap.size)) true ts vs ds ps := by
  have hlt := DataW.TrodAll.lt h
  refine DataW.TrodAll.respare K hz hts ?_ (fun p hp => by simpa using hlt p hp)
  clear hts
  induction ts generalizing vs ds ps with
  | nil =>
    match vs, ds, h with
    | [], [], h => exact h
  | cons t ts ih =>
    match vs, ds, h with
    | v :: vs, d :: ds, h =>
      obtain ⟨p, q, ⟨n, h1⟩, h2, e⟩ := h
      refine ⟨p, q, ⟨n, DataW.trod_carry n _ _ _ h1 fun x hx => bel.same (hlt x (by rw [e]; exact List.mem_append_left _ hx))⟩, ih h2 (fun x hx => hlt x (by rw [e]; exact List.mem_append_right _ hx)), e⟩
end Go.Proofs.Ytjfdgijgkbojnaa.E
