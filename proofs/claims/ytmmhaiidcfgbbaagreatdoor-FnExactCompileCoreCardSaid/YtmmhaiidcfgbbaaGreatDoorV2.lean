/- Cores that are made to code: the plain law. No program in sight. -/
import Derived.Test.YtmmhaiidcfgbbaaGreatDoorP9
set_option linter.unusedSectionVars false
set_option linter.unusedSimpArgs false
set_option linter.unusedVariables false
namespace Go.Proofs.YtmmhaiidcfgbbaaGreatDoor.E
open Go Go.RowKit
/-- The kids of a core. -/
def corAt (cs : List Cor) (i : Nat) : Cor := cs.getD i default
def kidsC (cs : List Cor) (x : Nat) : List Nat := (List.range cs.length).filter fun i => decide ((corAt cs i).parent = (x : Int))
abbrev St := List (Int × List OpD)
def putS (B : St) (i : Nat) (o : OpD) : St := B.modify i fun p => (p.1, p.2 ++ [o])
def setS (B : St) (i k : Nat) (a : Int) : St := B.modify i fun p => (p.1, p.2.modify k fun o => { o with a := a })
def lenS' (B : St) (i : Nat) : Nat := (B.getD i (0, [])).2.length
def oc0 (k : Int) : OpD := ⟨k, 0, 0, 0, 0, ⟨#[]⟩, []⟩
def ocA (k a : Int) : OpD := ⟨k, a, 0, 0, 0, ⟨#[]⟩, []⟩
def ocAB (k a b : Int) : OpD := ⟨k, a, b, 0, 0, ⟨#[]⟩, []⟩
def ocN (k : Int) (s : ByteArray) : OpD := ⟨k, 0, 0, 0, 0, s, []⟩
def ocD (k : Int) (d : List Dat) : OpD := ⟨k, 0, 0, 0, 0, ⟨#[]⟩, d⟩
def endS (B : St) (i : Nat) (e : Bool) : St := if e then putS B i (oc0 12) else B
/-- Several kids, one behind the other. -/
def manyS (g : Nat → St → St) (h : St → St) : List Nat → St → St
  | [], B => B
  | k :: r, B => manyS g h r (h (g k B))
def mkC (cs : List Cor) : Nat → Nat → Nat → Bool → St → St
  | 0, _, _, _, B => B
  | f + 1, x, i, e, B =>
    let c := corAt cs x
    let ks := kidsC cs x
    if c.kind = 1 then endS (putS B i (ocD 1 c.data)) i e
    else if c.kind = 2 then endS (putS B i (ocAB 2 c.a c.b)) i e
    else if c.kind = 3 then endS (putS B i (ocN 3 c.name)) i e
    else if c.kind = 5 then endS (mkC cs f (ks.getD 0 0) B.length true (putS (B ++ [(c.a, [])]) i (ocA 4 (B.length : Int)))) i e
    else if c.kind = 7 ∨ c.kind = 8 then endS (putS (mkC cs f (ks.getD 0 0) i false B) i (ocN (c.kind - 7 + 8) c.name)) i e
    else if c.kind = 4 then
      let B1 := mkC cs f (ks.getD 0 0) i false B
      let B2 := mkC cs f (ks.getD 1 0) i e (putS B1 i (oc0 6))
      let B3 := if e then B2 else putS B2 i (oc0 5)
      let B4 := setS B3 i (lenS' B1 i) (lenS' B3 i : Int)
      let B5 := mkC cs f (ks.getD 2 0) i e B4
      if e then B5 else setS B5 i (lenS' B2 i) (lenS' B5 i : Int)
    else if c.kind = 6 then mkC cs f (ks.getLastD 0) i e (manyS (fun k B => mkC cs f k i false B) (fun B => putS B i (oc0 7)) ks.dropLast B)
    else putS (manyS (fun k B => mkC cs f k i false B) id ks B) i (ocA (if e then 11 else 10) ((ks.length : Int) - 1))
/-! ### what is done to one list leaves another as it was -/
theorem getD_modify {X : Type} (l : List X) (i j : Nat) (f : X → X) (d : X) : (l.modify i f).getD j d = if i = j ∧ j < l.length then f (l.getD j d) else l.getD j d := by
  simp only [List.getD, List.getElem?_modify]
  by_cases h : i = j
  · subst h
    by_cases h2 : i < l.length
    · simp [h2]
    · simp [h2]
  · simp [h]
theorem len_put (B : St) (i : Nat) (o : OpD) : (putS B i o).length = B.length := by simp [putS]
theorem len_set (B : St) (i k : Nat) (a : Int) : (setS B i k a).length = B.length := by simp [setS]
theorem len_end (B : St) (i : Nat) (e : Bool) : (endS B i e).length = B.length := by cases e <;> simp [endS, len_put]
theorem lenS_put (B : St) (i j : Nat) (o : OpD) : lenS' (putS B i o) j = if i = j ∧ j < B.length then lenS' B j + 1 else lenS' B j := by
  unfold lenS' putS
  rw [getD_modify]
  split <;> simp
theorem lenS_set (B : St) (i j k : Nat) (a : Int) : lenS' (setS B i k a) j = lenS' B j := by
  unfold lenS' setS
  rw [getD_modify]
  split <;> simp
theorem modify_comm {X : Type} (l : List X) {i j : Nat} (h : i ≠ j) (f g : X → X) : (l.modify i f).modify j g = (l.modify j g).modify i f := by
  apply List.ext_getElem (by simp)
  intro k h1 h2
  simp only [List.getElem_modify]
  by_cases c1 : i = k <;> by_cases c2 : j = k
  · omega
  · simp [c1, c2]
  · simp [c1, c2]
  · simp [c1, c2]
theorem modify_app {X : Type} (l r : List X) {i : Nat} (h : i < l.length) (f : X → X) : (l ++ r).modify i f = l.modify i f ++ r := by
  apply List.ext_getElem (by simp)
  intro k h1 h2
  simp only [List.getElem_modify, List.getElem_append, List.length_modify]
  by_cases c : k < l.length
  · simp [c]
  · have : ¬ i = k := by omega
    simp [c, this]
theorem put_put {B : St} {i j : Nat} (h : i ≠ j) (o q : OpD) : putS (putS B i o) j q = putS (putS B j q) i o := modify_comm _ h _ _
theorem set_put {B : St} {i j : Nat} (h : i ≠ j) (o : OpD) (k : Nat) (a : Int) : setS (putS B i o) j k a = putS (setS B j k a) i o := modify_comm _ h _ _
theorem push_put {B : St} {i : Nat} (h : i < B.length) (o : OpD) (r : St) : putS B i o ++ r = putS (B ++ r) i o := (modify_app _ _ h _).symm
theorem lenS_put_ne {B : St} {i j : Nat} (h : i ≠ j) (o : OpD) : lenS' (putS B i o) j = lenS' B j := by rw [lenS_put, if_neg fun c => h c.1]
theorem end_put {B : St} {i j : Nat} (h : i ≠ j) (o : OpD) (e : Bool) : endS (putS B i o) j e = putS (endS B j e) i o := by
  cases e
  · rfl
  · exact put_put h _ _
/-- It only grows. -/
def leS (B B' : St) : Prop := B.length ≤ B'.length ∧ ∀ i, i < B.length → lenS' B i ≤ lenS' B' i
theorem leS.refl (B : St) : leS B B := ⟨Nat.le_refl _, fun _ _ => Nat.le_refl _⟩
theorem leS.trans {A B C : St} (h : leS A B) (k : leS B C) : leS A C := ⟨Nat.le_trans h.1 k.1, fun i hi => Nat.le_trans (h.2 i hi) (k.2 i (Nat.lt_of_lt_of_le hi h.1))⟩
theorem leS_put (B : St) (i : Nat) (o : OpD) : leS B (putS B i o) := ⟨by rw [len_put]; exact Nat.le_refl _, fun j _ => by rw [lenS_put]; split <;> omega⟩
theorem leS_set (B : St) (i k : Nat) (a : Int) : leS B (setS B i k a) := ⟨by rw [len_set]; exact Nat.le_refl _, fun j _ => by rw [lenS_set]; exact Nat.le_refl _⟩
theorem leS_end (B : St) (i : Nat) (e : Bool) : leS B (endS B i e) := by
  cases e
  · exact .refl B
  · exact leS_put _ _ _
theorem leS_push (B r : St) : leS B (B ++ r) := ⟨by simp, fun i hi => by unfold lenS'; simp only [List.getD, List.getElem?_append_left hi]; exact Nat.le_refl _⟩
theorem leS_many {g : Nat → St → St} {h : St → St} (hg : ∀ k B, leS B (g k B)) (hh : ∀ B, leS B (h B)) : ∀ ks B, leS B (manyS g h ks B) := by
  intro ks
  induction ks with
  | nil => intro B; exact .refl B
  | cons k r ih => intro B; exact ((hg k B).trans (hh _)).trans (ih _)
theorem mkC_le (cs : List Cor) : ∀ f x i e B, leS B (mkC cs f x i e B) := by
  intro f
  induction f with
  | zero => intro x i e B; exact .refl B
  | succ f ih =>
    intro x i e B
    rw [mkC]
    dsimp only
    split; · exact (leS_put ..).trans (leS_end ..)
    split; · exact (leS_put ..).trans (leS_end ..)
    split; · exact (leS_put ..).trans (leS_end ..)
    split; · exact (((leS_push ..).trans (leS_put ..)).trans (ih ..)).trans (leS_end ..)
    split; · exact ((ih ..).trans (leS_put ..)).trans (leS_end ..)
    split
    · cases e
      · exact (((((((ih ..).trans (leS_put ..)).trans (ih ..)).trans (leS_put ..)).trans (leS_set ..)).trans (ih ..))).trans (leS_set ..)
      · exact (((((ih ..).trans (leS_put ..)).trans (ih ..)).trans (leS_set ..)).trans (ih ..))
    split; · exact (leS_many (fun k B => ih ..) (fun B => leS_put ..) _ _).trans (ih ..)
    exact (leS_many (fun k B => ih ..) (fun B => .refl B) _ _).trans (leS_put ..)
theorem many_put {g : Nat → St → St} {h : St → St} {i : Nat} {o : OpD} (hg : ∀ k B, i < B.length → g k (putS B i o) = putS (g k B) i o) (hh : ∀ B, h (putS B i o) = putS (h B) i o) (hl : ∀ k B, leS B (g k B)) (hl2 : ∀ B, leS B (h B)) :
    ∀ ks B, i < B.length → manyS g h ks (putS B i o) = putS (manyS g h ks B) i o := by
  intro ks
  induction ks with
  | nil => intro B _; rfl
  | cons k r ih => intro B hi; rw [manyS, manyS, hg k B hi, hh, ih _ (Nat.lt_of_lt_of_le hi ((hl k B).trans (hl2 _)).1)]
/-- What is put to one list ahead can be put behind. -/
theorem mkC_put (cs : List Cor) {i : Nat} {o : OpD} : ∀ f x j e B, i ≠ j → i < B.length → mkC cs f x j e (putS B i o) = putS (mkC cs f x j e B) i o := by
  intro f
  induction f with
  | zero => intro x j e B _ _; rfl
  | succ f ih =>
    intro x j e B hij hi
    have lt : ∀ {C : St}, leS B C → i < C.length := fun h => Nat.lt_of_lt_of_le hi h.1
    rw [mkC, mkC]
    dsimp only
    split; · rw [put_put hij, end_put hij]
    split; · rw [put_put hij, end_put hij]
    split; · rw [put_put hij, end_put hij]
    split
    · rw [len_put, push_put hi, put_put hij, ih _ _ _ _ (by omega) (lt ((leS_push ..).trans (leS_put ..))), end_put hij]
    split; · rw [ih _ _ _ _ hij hi, put_put hij, end_put hij]
    split
    · have k1 : i < (mkC cs f ((kidsC cs x).getD 0 0) j false B).length := lt (mkC_le ..)
      have k2 : i < (putS (mkC cs f ((kidsC cs x).getD 0 0) j false B) j (oc0 6)).length := by rw [len_put]; exact k1
      have k3 : i < (mkC cs f ((kidsC cs x).getD 1 0) j e (putS (mkC cs f ((kidsC cs x).getD 0 0) j false B) j (oc0 6))).length := Nat.lt_of_lt_of_le k2 (mkC_le ..).1
      rw [ih _ _ _ _ hij hi, put_put hij, ih _ _ _ _ hij k2]
      cases e
      · simp only [Bool.false_eq_true, if_false]
        rw [put_put hij, lenS_put_ne hij, lenS_put_ne hij, set_put hij, ih _ _ _ _ hij (by rw [len_set, len_put]; exact k3), lenS_put_ne hij, lenS_put_ne hij, set_put hij]
      · simp only [if_true]
        rw [lenS_put_ne hij, lenS_put_ne hij, set_put hij, ih _ _ _ _ hij (by rw [len_set]; exact k3)]
    split
    · rw [many_put (h := fun B => putS B j (oc0 7)) (fun k B hB => ih _ _ _ _ hij hB) (fun B => put_put hij _ _) (fun k B => mkC_le ..) (fun B => leS_put ..) _ _ hi]
      exact ih _ _ _ _ hij (lt (leS_many (fun k B => mkC_le ..) (fun B => leS_put ..) _ _))
    rw [many_put (h := id) (fun k B hB => ih _ _ _ _ hij hB) (fun B => rfl) (fun k B => mkC_le ..) (fun B => .refl B) _ _ hi, put_put hij]
/-- There is room. -/
def fits (B : St) : Prop := B.length ≤ 60 ∧ ∀ i, i < B.length → lenS' B i ≤ 200
theorem fits.of_le {B C : St} (h : leS B C) (k : fits C) : fits B := ⟨Nat.le_trans h.1 k.1, fun i hi => Nat.le_trans (h.2 i hi) (k.2 i (Nat.lt_of_lt_of_le hi h.1))⟩
/-! ### how much there is -/
def totS (B : St) : Nat := (B.map fun p => p.2.length + 1).sum
theorem sum_modify (l : List (Int × List OpD)) (f : Int × List OpD → Int × List OpD) (d : Nat) (hf : ∀ p, (f p).2.length ≤ p.2.length + d) : ∀ i, ((l.modify i f).map fun p => p.2.length + 1).sum ≤ (l.map fun p => p.2.length + 1).sum + d := by
  induction l with
  | nil => intro i; cases i <;> simp
  | cons a r ih =>
    intro i
    cases i with
    | zero => have := hf a; simp; omega
    | succ i => have := ih i; simp; omega
theorem tot_put (B : St) (i : Nat) (o : OpD) : totS (putS B i o) ≤ totS B + 1 := sum_modify _ _ 1 (fun p => by simp) i
theorem tot_set (B : St) (i k : Nat) (a : Int) : totS (setS B i k a) ≤ totS B := sum_modify _ _ 0 (fun p => by simp) i
theorem tot_end (B : St) (i : Nat) (e : Bool) : totS (endS B i e) ≤ totS B + 1 := by
  cases e
  · exact Nat.le_succ _
  · exact tot_put _ _ _
theorem tot_push (B : St) (a : Int) : totS (B ++ [(a, [])]) = totS B + 1 := by simp [totS]
theorem len_tot (B : St) : B.length ≤ totS B := by
  unfold totS
  induction B with
  | nil => simp
  | cons p r ih => simp; omega
theorem lenS_tot (B : St) (i : Nat) : lenS' B i ≤ totS B := by
  unfold lenS' totS
  induction B generalizing i with
  | nil => simp
  | cons p r ih =>
    cases i with
    | zero => simp; omega
    | succ i => have := ih i; simp at this ⊢; omega
def vis (cs : List Cor) : Nat → Nat → List Nat
  | 0, x => [x]
  | f + 1, x => x :: (kidsC cs x).flatMap (vis cs f)
def visK (cs : List Cor) (f : Nat) (ks : List Nat) : Nat := (ks.map fun k => (vis cs f k).length).sum
theorem vis_pos (cs : List Cor) : ∀ f x, 1 ≤ (vis cs f x).length := by intro f x; cases f <;> simp [vis]
theorem vis_len (cs : List Cor) (f x : Nat) : (vis cs (f + 1) x).length = 1 + visK cs f (kidsC cs x) := by
  simp [vis, visK, List.length_flatMap]; omega
theorem visK_app (cs : List Cor) (f : Nat) (a b : List Nat) : visK cs f (a ++ b) = visK cs f a + visK cs f b := by simp [visK]
theorem many_tot {cs : List Cor} {f : Nat} {g : Nat → St → St} {h : St → St} (hg : ∀ k B, totS (g k B) + 1 ≤ totS B + 4 * (vis cs f k).length) (hh : ∀ B, totS (h B) ≤ totS B + 1) :
    ∀ ks B, totS (manyS g h ks B) ≤ totS B + 4 * visK cs f ks := by
  intro ks
  induction ks with
  | nil => intro B; simp [manyS, visK]
  | cons k r ih =>
    intro B
    have h1 := hg k B
    have h2 := hh (g k B)
    have h3 := ih (h (g k B))
    have e : visK cs f (k :: r) = (vis cs f k).length + visK cs f r := by simp [visK]
    rw [manyS, e]
    omega
/-- The kinds of cores have as many kids as they have to. -/
def hasK (k : Int) (n : Nat) : Prop := if k = 4 then n = 3 else if k = 5 ∨ k = 7 ∨ k = 8 then n = 1 else if k = 6 then 1 ≤ n else if k = 9 then 1 ≤ n ∧ n ≤ 4 else n = 0
structure WfC (cs : List Cor) : Prop where
  len : 1 ≤ cs.length ∧ cs.length ≤ 160
  kind : ∀ i, i < cs.length → 1 ≤ (corAt cs i).kind ∧ (corAt cs i).kind ≤ 9
  top : (corAt cs 0).parent = -1
  par : ∀ i, 0 < i → i < cs.length → 0 ≤ (corAt cs i).parent ∧ (corAt cs i).parent < i
  kids : ∀ i, i < cs.length → hasK (corAt cs i).kind (kidsC cs i).length
theorem mem_kidsC {cs : List Cor} {x k : Nat} : k ∈ kidsC cs x ↔ k < cs.length ∧ (corAt cs k).parent = (x : Int) := by simp [kidsC]
theorem WfC.kid {cs : List Cor} (h : WfC cs) {x k : Nat} (hk : k ∈ kidsC cs x) : x < k ∧ k < cs.length := by
  obtain ⟨h1, h2⟩ := mem_kidsC.1 hk
  have h0 : 0 < k := by
    rcases Nat.eq_zero_or_pos k with c | c
    · subst c; rw [h.top] at h2; omega
    · exact c
  have := h.par k h0 h1
  omega
theorem getD_last {l : List Nat} (h : l ≠ []) : l.dropLast ++ [l.getLastD 0] = l := by
  rw [List.getLastD_eq_getLast?, List.getLast?_eq_some_getLast h, Option.getD_some]
  exact List.dropLast_concat_getLast h
theorem mkC_tot {cs : List Cor} (hw : WfC cs) : ∀ f x i e B, x < cs.length → cs.length ≤ f + x → totS (mkC cs f x i e B) + 1 ≤ totS B + 4 * (vis cs f x).length := by
  intro f
  induction f with
  | zero => intro x i e B h1 h2; omega
  | succ f ih =>
    intro x i e B hx hf
    have hkd := fun k (hk : k ∈ kidsC cs x) => hw.kid hk
    have ihk : ∀ k, k ∈ kidsC cs x → ∀ i e B, totS (mkC cs f k i e B) + 1 ≤ totS B + 4 * (vis cs f k).length := fun k hk i e B => ih k i e B (hkd k hk).2 (by have := hkd k hk; omega)
    have hk := hw.kids x hx
    have hkk := hw.kind x hx
    rw [vis_len]
    rw [mkC]
    dsimp only
    generalize hks : kidsC cs x = ks at *
    split
    · have h1 := tot_put B i (ocD 1 (corAt cs x).data); have h2 := tot_end (putS B i (ocD 1 (corAt cs x).data)) i e; omega
    split
    · have h1 := tot_put B i (ocAB 2 (corAt cs x).a (corAt cs x).b); have h2 := tot_end (putS B i (ocAB 2 (corAt cs x).a (corAt cs x).b)) i e; omega
    split
    · have h1 := tot_put B i (ocN 3 (corAt cs x).name); have h2 := tot_end (putS B i (ocN 3 (corAt cs x).name)) i e; omega
    split
    · rename_i c5
      have h1 := tot_push B (corAt cs x).a
      have h2 := tot_put (B ++ [((corAt cs x).a, [])]) i (ocA 4 (B.length : Int))
      unfold hasK at hk
      rw [if_neg (by omega), if_pos (.inl c5)] at hk
      match ks, hk with
      | [k], _ =>
        have h3 := ihk k (by simp) B.length true (putS (B ++ [((corAt cs x).a, [])]) i (ocA 4 (B.length : Int)))
        have h4 := tot_end (mkC cs f k B.length true (putS (B ++ [((corAt cs x).a, [])]) i (ocA 4 (B.length : Int)))) i e
        simp [visK] at h3 h4 ⊢
        omega
    split
    · rename_i c5
      unfold hasK at hk
      rw [if_neg (by omega), if_pos (by omega)] at hk
      match ks, hk with
      | [k], _ =>
        have h3 := ihk k (by simp) i false B
        have h4 := tot_put (mkC cs f k i false B) i (ocN ((corAt cs x).kind - 7 + 8) (corAt cs x).name)
        have h5 := tot_end (putS (mkC cs f k i false B) i (ocN ((corAt cs x).kind - 7 + 8) (corAt cs x).name)) i e
        simp [visK] at h3 h4 h5 ⊢
        omega
    split
    · rename_i c4
      unfold hasK at hk
      rw [if_pos c4] at hk
      match ks, hk with
      | [k1, k2, k3], _ =>
        have h1 := ihk k1 (by simp) i false B
        simp only [List.getD_cons_zero, List.getD_cons_succ]
        generalize mkC cs f k1 i false B = B1 at *
        have h2 := tot_put B1 i (oc0 6)
        have h3 := ihk k2 (by simp) i e (putS B1 i (oc0 6))
        generalize mkC cs f k2 i e (putS B1 i (oc0 6)) = B2 at *
        have e1 : visK cs f [k1, k2, k3] = (vis cs f k1).length + ((vis cs f k2).length + (vis cs f k3).length) := by simp [visK]
        rw [e1]
        cases e
        · simp only [Bool.false_eq_true, if_false]
          have h4 := tot_put B2 i (oc0 5)
          have h5 := tot_set (putS B2 i (oc0 5)) i (lenS' B1 i) (lenS' (putS B2 i (oc0 5)) i : Int)
          have h6 := ihk k3 (by simp) i false (setS (putS B2 i (oc0 5)) i (lenS' B1 i) (lenS' (putS B2 i (oc0 5)) i : Int))
          generalize mkC cs f k3 i false (setS (putS B2 i (oc0 5)) i (lenS' B1 i) (lenS' (putS B2 i (oc0 5)) i : Int)) = B5 at *
          have h7 := tot_set B5 i (lenS' B2 i) (lenS' B5 i : Int)
          omega
        · simp only [if_true]
          have h5 := tot_set B2 i (lenS' B1 i) (lenS' B2 i : Int)
          have h6 := ihk k3 (by simp) i true (setS B2 i (lenS' B1 i) (lenS' B2 i : Int))
          omega
    split
    · rename_i c6
      unfold hasK at hk
      rw [if_neg (by omega), if_neg (by omega), if_pos c6] at hk
      have hne : ks ≠ [] := by intro c; rw [c] at hk; simp at hk
      have hl := getD_last hne
      have hmem : ∀ k, k ∈ ks.dropLast → k ∈ ks := fun k hm => by rw [← hl]; exact List.mem_append_left _ hm
      have hlm : ks.getLastD 0 ∈ ks := by
        have : ks.getLastD 0 ∈ ks.dropLast ++ [ks.getLastD 0] := List.mem_append_right _ (List.mem_singleton.2 rfl)
        rwa [hl] at this
      have e1 : visK cs f ks = visK cs f ks.dropLast + (vis cs f (ks.getLastD 0)).length := by
        conv => lhs; rw [← hl]
        rw [visK_app]; simp [visK]
      have hm : ∀ l : List Nat, (∀ k, k ∈ l → k ∈ ks) → ∀ B, totS (manyS (fun k B => mkC cs f k i false B) (fun B => putS B i (oc0 7)) l B) ≤ totS B + 4 * visK cs f l := by
        intro l
        induction l with
        | nil => intro _ B; simp [manyS, visK]
        | cons k r ih2 =>
          intro hl B
          have g1 := ihk k (hl k (by simp)) i false B
          have g2 := tot_put (mkC cs f k i false B) i (oc0 7)
          have g3 := ih2 (fun k hk => hl k (by simp [hk])) (putS (mkC cs f k i false B) i (oc0 7))
          have e : visK cs f (k :: r) = (vis cs f k).length + visK cs f r := by simp [visK]
          rw [manyS, e]
          omega
      have h1 := hm ks.dropLast hmem B
      have h2 := ihk (ks.getLastD 0) hlm i e (manyS (fun k B => mkC cs f k i false B) (fun B => putS B i (oc0 7)) ks.dropLast B)
      omega
    · have hm : ∀ l : List Nat, (∀ k, k ∈ l → k ∈ ks) → ∀ B, totS (manyS (fun k B => mkC cs f k i false B) id l B) ≤ totS B + 4 * visK cs f l := by
        intro l
        induction l with
        | nil => intro _ B; simp [manyS, visK]
        | cons k r ih2 =>
          intro hl B
          have g1 := ihk k (hl k (by simp)) i false B
          have g3 := ih2 (fun k hk => hl k (by simp [hk])) (mkC cs f k i false B)
          have e : visK cs f (k :: r) = (vis cs f k).length + visK cs f r := by simp [visK]
          rw [manyS, e]
          simp only [id]
          omega
      have h1 := hm ks (fun k hk => hk) B
      have h2 := tot_put (manyS (fun k B => mkC cs f k i false B) id ks B) i (ocA (if e then 11 else 10) ((ks.length : Int) - 1))
      omega
/-! ### each core is visited once -/
theorem nodup_bound : ∀ (n : Nat) (l : List Nat), l.Nodup → (∀ x, x ∈ l → x < n) → l.length ≤ n := by
  intro n
  induction n with
  | zero => intro l _ h; cases l with
    | nil => simp
    | cons a r => exact absurd (h a (by simp)) (by omega)
  | succ n ih =>
    intro l hn h
    have h1 := ih (l.erase n) (hn.erase n) fun x hx => by
      have h2 := h x (List.mem_of_mem_erase hx)
      have h3 : x ≠ n := fun c => by subst c; exact (List.Nodup.not_mem_erase hn) hx
      omega
    by_cases c : n ∈ l
    · rw [List.length_erase_of_mem c] at h1; omega
    · rw [List.erase_of_not_mem c] at h1; omega
theorem nodup_app' {a b : List Nat} : (a ++ b).Nodup ↔ a.Nodup ∧ b.Nodup ∧ ∀ x, x ∈ a → x ∉ b := by
  rw [List.nodup_append]
  constructor
  · rintro ⟨h1, h2, h3⟩
    exact ⟨h1, h2, fun x hx hb => h3 x hx x hb rfl⟩
  · rintro ⟨h1, h2, h3⟩
    exact ⟨h1, h2, fun x hx y hy e => h3 x hx (e ▸ hy)⟩
def upC (cs : List Cor) (y : Nat) : Nat := (corAt cs y).parent.toNat
def upN (cs : List Cor) : Nat → Nat → Nat
  | 0, y => y
  | n + 1, y => upC cs (upN cs n y)
theorem vis_up {cs : List Cor} (hw : WfC cs) : ∀ f x y, x < cs.length → y ∈ vis cs f x → y < cs.length ∧ x ≤ y ∧ ∃ n, upN cs n y = x := by
  intro f
  induction f with
  | zero => intro x y hx h; simp [vis] at h; subst h; exact ⟨hx, Nat.le_refl _, 0, rfl⟩
  | succ f ih =>
    intro x y hx h
    simp only [vis, List.mem_cons, List.mem_flatMap] at h
    rcases h with rfl | ⟨k, hk, hy⟩
    · exact ⟨hx, Nat.le_refl _, 0, rfl⟩
    · obtain ⟨h1, h2⟩ := hw.kid hk
      obtain ⟨g1, g2, n, hn⟩ := ih k y h2 hy
      refine ⟨g1, by omega, n + 1, ?_⟩
      rw [upN, hn, upC, (mem_kidsC.1 hk).2]; simp
theorem upN_add (cs : List Cor) (y : Nat) : ∀ a b, upN cs (a + b) y = upN cs a (upN cs b y) := by
  intro a
  induction a with
  | zero => intro b; simp [upN]
  | succ a ih => intro b; rw [Nat.succ_add, upN, ih, upN]
theorem upN_le {cs : List Cor} (hw : WfC cs) : ∀ n y, y < cs.length → upN cs n y ≤ y := by
  intro n
  induction n with
  | zero => intro y _; exact Nat.le_refl _
  | succ n ih =>
    intro y hy
    have h1 := ih y hy
    rw [upN]
    unfold upC
    rcases Nat.eq_zero_or_pos (upN cs n y) with c | c
    · rw [c, hw.top]; simp
    · have := hw.par _ c (by omega); omega
theorem vis_nodup {cs : List Cor} (hw : WfC cs) : ∀ f x, x < cs.length → (vis cs f x).Nodup := by
  intro f
  induction f with
  | zero => intro x _; simp [vis]
  | succ f ih =>
    intro x hx
    simp only [vis]
    refine List.nodup_cons.2 ⟨fun h => ?_, ?_⟩
    · obtain ⟨k, hk, hy⟩ := List.mem_flatMap.1 h
      obtain ⟨h1, h2⟩ := hw.kid hk
      have := (vis_up hw f k x h2 hy).2.1
      omega
    · have hp : (kidsC cs x).Nodup := by unfold kidsC; exact List.nodup_range.filter _
      have hm : ∀ k, k ∈ kidsC cs x → x < k ∧ k < cs.length ∧ upC cs k = x := fun k hk => ⟨(hw.kid hk).1, (hw.kid hk).2, by rw [upC, (mem_kidsC.1 hk).2]; simp⟩
      generalize kidsC cs x = ks at hp hm
      induction ks with
      | nil => simp
      | cons k r ih2 =>
        rw [List.flatMap_cons]
        obtain ⟨p1, p2⟩ := List.nodup_cons.1 hp
        rw [nodup_app']
        refine ⟨ih k (hm k (by simp)).2.1, ih2 p2 fun q hq => hm q (by simp [hq]), fun y hy c => ?_⟩
        obtain ⟨q, hq, hyq⟩ := List.mem_flatMap.1 c
        obtain ⟨a1, a2, a3⟩ := hm k (by simp)
        obtain ⟨b1, b2, b3⟩ := hm q (by simp [hq])
        obtain ⟨_, _, n1, e1⟩ := vis_up hw f k y a2 hy
        obtain ⟨_, _, n2, e2⟩ := vis_up hw f q y b2 hyq
        have hkq : k ≠ q := by rintro rfl; exact p1 hq
        have key : ∀ (n : Nat) (a b : Nat), a < cs.length → upC cs a = x → x < b → upN cs (n + 1) a ≠ b := by
          intro n a b ha hu hb c
          rw [upN_add cs a n 1] at c
          have h1 : upN cs 1 a = x := hu
          rw [h1] at c
          have := upN_le hw n x hx
          omega
        rcases Nat.lt_trichotomy n1 n2 with c | c | c
        · have : upN cs (n2 - n1 - 1 + 1) k = q := by rw [← e1, ← upN_add, show n2 - n1 - 1 + 1 + n1 = n2 by omega, e2]
          exact key _ k q a2 a3 b1 this
        · subst c; rw [e1] at e2; exact hkq e2
        · have : upN cs (n1 - n2 - 1 + 1) q = k := by rw [← e2, ← upN_add, show n1 - n2 - 1 + 1 + n2 = n1 by omega, e1]
          exact key _ q k b2 b3 a1 this
theorem vis_bound {cs : List Cor} (hw : WfC cs) (f x : Nat) (hx : x < cs.length) : (vis cs f x).length ≤ 160 :=
  Nat.le_trans (nodup_bound cs.length _ (vis_nodup hw f x hx) fun y hy => (vis_up hw f x y hx hy).1) hw.len.2
/-! ### what each operation says -/
def AllO (P : OpD → Prop) (B : St) : Prop := ∀ p, p ∈ B → ∀ o, o ∈ p.2 → P o
structure Told (cs : List Cor) (P : OpD → Prop) : Prop where
  bare : ∀ o : OpD, o.name = ⟨#[]⟩ → o.data = [] → P o
  name : ∀ k i, P (ocN k (corAt cs i).name)
  data : ∀ i, P (ocD 1 (corAt cs i).data)
  turn : ∀ (o : OpD) (a : Int), P o → P { o with a := a }
theorem mem_modify {X : Type} {l : List X} {i : Nat} {f : X → X} {y : X} (h : y ∈ l.modify i f) : y ∈ l ∨ ∃ x, x ∈ l ∧ y = f x := by
  obtain ⟨k, hk, rfl⟩ := List.mem_iff_getElem.1 h
  rw [List.length_modify] at hk
  rw [List.getElem_modify]
  split
  · exact .inr ⟨_, List.getElem_mem hk, rfl⟩
  · exact .inl (List.getElem_mem hk)
theorem AllO.put {P : OpD → Prop} {B : St} (h : AllO P B) {i : Nat} {o : OpD} (ho : P o) : AllO P (putS B i o) := by
  intro p hp q hq
  rcases mem_modify hp with c | ⟨x, hx, rfl⟩
  · exact h p c q hq
  · rcases List.mem_append.1 hq with d | d
    · exact h x hx q d
    · obtain rfl := List.mem_singleton.1 d; exact ho
theorem AllO.set {P : OpD → Prop} {B : St} (h : AllO P B) {i k : Nat} {a : Int} (ht : ∀ (o : OpD) (a : Int), P o → P { o with a := a }) : AllO P (setS B i k a) := by
  intro p hp q hq
  rcases mem_modify hp with c | ⟨x, hx, rfl⟩
  · exact h p c q hq
  · rcases mem_modify hq with d | ⟨o, ho, rfl⟩
    · exact h x hx q d
    · exact ht o a (h x hx o ho)
theorem AllO.push {P : OpD → Prop} {B : St} (h : AllO P B) {a : Int} : AllO P (B ++ [(a, [])]) := by
  intro p hp q hq
  rcases List.mem_append.1 hp with c | c
  · exact h p c q hq
  · obtain rfl := List.mem_singleton.1 c; cases hq
theorem AllO.end {P : OpD → Prop} {B : St} (h : AllO P B) {i : Nat} {e : Bool} (ho : P (oc0 12)) : AllO P (endS B i e) := by
  cases e
  · exact h
  · exact h.put ho
theorem AllO.many {P : OpD → Prop} {g : Nat → St → St} {h : St → St} (hg : ∀ k B, AllO P B → AllO P (g k B)) (hh : ∀ B, AllO P B → AllO P (h B)) : ∀ ks B, AllO P B → AllO P (manyS g h ks B) := by
  intro ks
  induction ks with
  | nil => intro B hB; exact hB
  | cons k r ih => intro B hB; exact ih _ (hh _ (hg k B hB))
theorem mkC_all {cs : List Cor} {P : OpD → Prop} (hP : Told cs P) : ∀ f x i e B, AllO P B → AllO P (mkC cs f x i e B) := by
  intro f
  induction f with
  | zero => intro x i e B h; exact h
  | succ f ih =>
    intro x i e B h
    have b0 : ∀ k, P (oc0 k) := fun k => hP.bare _ rfl rfl
    have bA : ∀ k a, P (ocA k a) := fun k a => hP.bare _ rfl rfl
    rw [mkC]
    dsimp only
    split; · exact (h.put (hP.data x)).end (b0 _)
    split; · exact (h.put (hP.bare _ rfl rfl)).end (b0 _)
    split; · exact (h.put (hP.name _ x)).end (b0 _)
    split; · exact (ih _ _ _ _ (h.push.put (bA _ _))).end (b0 _)
    split; · exact ((ih _ _ _ _ h).put (hP.name _ x)).end (b0 _)
    split
    · cases e
      · exact (ih _ _ _ _ (((ih _ _ _ _ ((ih _ _ _ _ h).put (b0 _))).put (b0 _)).set hP.turn)).set hP.turn
      · exact ih _ _ _ _ ((ih _ _ _ _ ((ih _ _ _ _ h).put (b0 _))).set hP.turn)
    split; · exact ih _ _ _ _ (AllO.many (fun k B hB => ih _ _ _ _ hB) (fun B hB => hB.put (b0 _)) _ _ h)
    exact (AllO.many (fun k B hB => ih _ _ _ _ hB) (fun B hB => hB) _ _ h).put (bA _ _)
end Go.Proofs.YtmmhaiidcfgbbaaGreatDoor.E
