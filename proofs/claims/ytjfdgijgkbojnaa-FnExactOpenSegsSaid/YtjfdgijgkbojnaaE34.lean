/- The engine, part 34: rules. -/
import Derived.Test.YtjfdgijgkbojnaaE33
import Derived.Laws.Small
set_option linter.unusedSectionVars false
namespace Go.Proofs.Ytjfdgijgkbojnaa.E
open Go Go.RowKit
variable [Lam]
abbrev iv (n : Int) : AV := .val (.int .i64 n)
abbrev bv (b : Bool) : AV := .val (.bool b)
abbrev str (s : ByteArray) : AV := .val (.string s)
abbrev nilS : AV := .val (.slice none 0 0)
@[simp] theorem og_some' (v : AV) (k : AV → Prop) : og (some v) k = k v := id rfl
@[simp] theorem onr_ret (k p : AV → AH → Prop) (v : AV) (σ : AH) : onr k p (.ret v) σ = k v σ := id rfl
@[simp] theorem apick_true (a b : Prop) : apick (.val (.bool true)) a b = a := id rfl
@[simp] theorem apick_false (a b : Prop) : apick (.val (.bool false)) a b = b := id rfl
@[simp] theorem gpick_true (a b c : Prop) : gpick (.val (.bool true)) a b c = a := id rfl
@[simp] theorem gpick_false (a b c : Prop) : gpick (.val (.bool false)) a b c = b := id rfl
@[simp] theorem ibin_leq (a b : Int) : ibin .leq (.val (.int .i64 a)) (.val (.int .i64 b)) = some (.val (.bool (decide (a ≤ b)))) := id rfl
@[simp] theorem ibin_geq (a b : Int) : ibin .geq (.val (.int .i64 a)) (.val (.int .i64 b)) = some (.val (.bool (decide (b ≤ a)))) := id rfl
@[simp] theorem ibin_lss (a b : Int) : ibin .lss (.val (.int .i64 a)) (.val (.int .i64 b)) = some (.val (.bool (decide (a < b)))) := id rfl
@[simp] theorem ibin_gtr (a b : Int) : ibin .gtr (.val (.int .i64 a)) (.val (.int .i64 b)) = some (.val (.bool (decide (b < a)))) := id rfl
theorem beq_dec (a b : Int) : (a == b) = decide (a = b) := id rfl
@[simp] theorem ibin_eql (a b : Int) : ibin .eql (.val (.int .i64 a)) (.val (.int .i64 b)) = some (.val (.bool (decide (a = b)))) := id rfl
@[simp] theorem ibin_neq (a b : Int) : ibin .neq (.val (.int .i64 a)) (.val (.int .i64 b)) = some (.val (.bool (!decide (a = b)))) := id rfl
theorem i64_wrap {n : Int} (h0 : -9223372036854775808 ≤ n) (h1 : n ≤ 9223372036854775807) : IntKind.i64.wrap n = n := by
  rw [IntKind.wrap_i64]; omega
theorem ibin_add {a b : Int} (h0 : -9223372036854775808 ≤ a + b) (h1 : a + b ≤ 9223372036854775807) : ibin .add (.val (.int .i64 a)) (.val (.int .i64 b)) = some (.val (.int .i64 (a + b))) := by
  show some (AV.val (.int .i64 (IntKind.i64.wrap (a + b)))) = _
  rw [i64_wrap h0 h1]
theorem ibin_sub {a b : Int} (h0 : -9223372036854775808 ≤ a - b) (h1 : a - b ≤ 9223372036854775807) : ibin .sub (.val (.int .i64 a)) (.val (.int .i64 b)) = some (.val (.int .i64 (a - b))) := by
  show some (AV.val (.int .i64 (IntKind.i64.wrap (a - b)))) = _
  rw [i64_wrap h0 h1]
theorem ibin_mul {a b : Int} (h0 : -9223372036854775808 ≤ a * b) (h1 : a * b ≤ 9223372036854775807) : ibin .mul (.val (.int .i64 a)) (.val (.int .i64 b)) = some (.val (.int .i64 (a * b))) := by
  show some (AV.val (.int .i64 (IntKind.i64.wrap (a * b)))) = _
  rw [i64_wrap h0 h1]
/-- A counter that goes up. -/
theorem ibin_up {i n : Nat} (h : i < n) (hn : n ≤ 9223372036854775807) : ibin .add (.val (.int .i64 (i : Int))) (.val (.int .i64 1)) = some (.val (.int .i64 ((i + 1 : Nat) : Int))) := by
  rw [ibin_add (by omega) (by omega)]; rfl
theorem toList_beq (a b : ByteArray) : (a.toList == b.toList) = decide (a = b) := by
  by_cases h : a = b
  · simp [h]
  · have : ¬ a.toList = b.toList := fun e => h (by
      rw [ByteArray.toList_eq, ByteArray.toList_eq] at e
      exact WideShapes.bytes_inj e)
    simp [h, this]
@[simp] theorem sbin_eql (a b : ByteArray) : sbin .eql (.val (.string a)) (.val (.string b)) = some (.val (.bool (decide (a = b)))) := by
  show some (AV.val (.bool (a.toList == b.toList))) = _
  rw [toList_beq]
@[simp] theorem sbin_neq (a b : ByteArray) : sbin .neq (.val (.string a)) (.val (.string b)) = some (.val (.bool (!decide (a = b)))) := by
  show some (AV.val (.bool (!(a.toList == b.toList)))) = _
  rw [toList_beq]
@[simp] theorem aun_not (b : Bool) : aun .not (.val (.bool b)) = some (.val (.bool (!b))) := id rfl
@[simp] theorem gval_true (w g : Bool) (x : Option AV) : gval (.val (.bool true)) w g x = if w then x else some (.tup []) := by cases w <;> simp [gval]
@[simp] theorem gval_false (w g : Bool) (x : Option AV) : gval (.val (.bool false)) w g x = if w then some (.tup []) else x := by cases w <;> simp [gval]
@[simp] theorem pickV_true (a b : AV) : pickV (.val (.bool true)) a b = some a := id rfl
@[simp] theorem pickV_false (a b : AV) : pickV (.val (.bool false)) a b = some b := id rfl
@[simp] theorem amm_max (a b : Int) : amm true (.val (.int .i64 a)) (.val (.int .i64 b)) = some (.val (.int .i64 (if b > a then b else a))) := id rfl
@[simp] theorem amm_min (a b : Int) : amm false (.val (.int .i64 a)) (.val (.int .i64 b)) = some (.val (.int .i64 (if b < a then b else a))) := id rfl
@[simp] theorem aext_tup (vs : List AV) (i : Nat) : aext (.tup vs) i = vs[i]? := id rfl
@[simp] theorem fldV_agg (o : Nat) (cs : List AV) : fldV o (.agg cs) = if o < cs.length then some (cs.getD o .any) else none := id rfl
@[simp] theorem fldG_agg (o n : Nat) (cs : List AV) : fldG o n (.agg cs) = if o + n ≤ cs.length then some (.agg ((cs.drop o).take n)) else none := id rfl
theorem ret_here {v : AV} {σ : AH} {R : AEnd → AH → Prop} (h : R (.ret v) σ) : aret v σ R := aret_sub (.refl σ) h

/-! ### own memory -/
@[simp] theorem abox_agg (cs : List AV) (σ : AH) (k : AV → AH → Prop) : abox (.agg cs) σ k = ∀ φ, σ φ = none → k (.ptr φ 0 0 0) (σ.set φ ⟨0, cs.length, [cs]⟩) := id rfl
@[simp] theorem new_eq (cs : List AV) (σ : AH) (k : AV → AH → Prop) : new cs σ k = ∀ φ, σ φ = none → k (.ptr φ 0 0 0) (σ.set φ ⟨0, cs.length, [cs]⟩) := id rfl
@[simp] theorem fldA_ptr (o φ st i off : Nat) : fldA o (.ptr φ st i off) = some (.ptr φ st i (off + o)) := id rfl
@[simp] theorem fldA_rop (o off : Nat) (cs : List AV) : fldA o (.rop cs off) = some (.rop cs (off + o)) := id rfl
@[simp] theorem anil_ptr (φ st i off : Nat) : anil (.ptr φ st i off) = some (.ptr φ st i off) := id rfl
attribute [simp] AH.set_same AH.set_none AH.set_set
theorem AH.set_ne' {σ : AH} {φ ψ : Nat} {F : Fam} (h : ¬ ψ = φ) : (σ.set φ F) ψ = σ ψ := AH.set_ne σ F h
theorem AH.set_turn {σ : AH} {φ ψ : Nat} {F G H : Fam} (h : ¬ ψ = φ) : ((σ.set φ F).set ψ G).set φ H = (σ.set φ H).set ψ G := by
  rw [AH.set_comm _ F G (Ne.symm h), AH.set_set, AH.set_comm _ G H h]
theorem sub_set {a b : AH} {φ : Nat} {F : Fam} (h : AH.Sub a b) (hn : a φ = none) : AH.Sub a (b.set φ F) := AH.Sub.set h F hn
theorem AH.Sub.at {a b : AH} (h : AH.Sub a b) {φ : Nat} {F : Fam} (hF : a φ = some F) : b φ = some F := h φ F hF
/-- What stands at a pointer. -/
def At (σ : AH) (p : AV) (cs : List AV) : Prop := acellsAt σ p = some cs ∧ ∀ o, ∃ q, fldA o p = some q ∧ acellsAt σ q = some (cs.drop o)
theorem At.rop (σ : AH) (cs : List AV) : At σ (.rop cs 0) cs := ⟨rfl, fun o => ⟨_, rfl, by simp [acellsAt]⟩⟩
theorem At.ptr {σ : AH} {φ st i : Nat} {F : Fam} (hF : σ φ = some F) (hs : F.st = st) (hi : i < F.es.length) : At σ (.ptr φ st i 0) (F.es.getD i []) := by
  refine ⟨by simp [acellsAt, hF, hs, hi], fun o => ⟨_, rfl, by simp [acellsAt, hF, hs, hi]⟩⟩
theorem At.lod {σ : AH} {p c : AV} {cs : List AV} (h : At σ p (c :: cs)) : lod p σ = some c := by
  unfold E.lod; rw [h.1]
theorem At.lodA {σ : AH} {p : AV} {cs : List AV} {n : Nat} (h : At σ p cs) (hn : n ≤ cs.length) : lodA n p σ = some (.agg (cs.take n)) := by
  unfold E.lodA; rw [h.1]; simp [hn]
theorem At.fld {σ : AH} {p : AV} {cs : List AV} (h : At σ p cs) (o : Nat) (ho : o < cs.length) : ∃ q, fldA o p = some q ∧ E.lod q σ = some (cs.getD o .any) := by
  obtain ⟨q, h1, h2⟩ := h.2 o
  refine ⟨q, h1, ?_⟩
  unfold E.lod; rw [h2, List.drop_eq_getElem_cons ho]; simp [List.getD, ho]

/-- A slice and what it holds, whoever has it. -/
inductive Sl (σ : AH) (sz : Nat) : AV → List (List AV) → Prop
  | ro (es : List (List AV)) (h : ∀ c, c ∈ es → c.length = sz) : Sl σ sz (.ro es) es
  | own (φ st off n : Nat) (F : Fam) (hF : σ φ = some F) (hst : F.st = st) (hsz : F.sz = sz) (hl : off + n ≤ F.es.length) (h : ∀ c, c ∈ F.es → c.length = sz) : Sl σ sz (.own φ st off n) ((F.es.drop off).take n)
  | emp : Sl σ sz .emp []
  | nil : Sl σ sz (.val (.slice none 0 0)) []
theorem Sl.sub {σ σ' : AH} {sz : Nat} {a : AV} {es : List (List AV)} (h : Sl σ sz a es) (s : AH.Sub σ σ') : Sl σ' sz a es := by
  cases h with
  | ro _ h => exact .ro _ h
  | own φ st off n F hF hst hsz hl h => exact .own φ st off n F (s.at hF) hst hsz hl h
  | emp => exact .emp
  | nil => exact .nil
theorem Sl.len {σ : AH} {sz : Nat} {a : AV} {es : List (List AV)} (h : Sl σ sz a es) : lenS a = some (.val (.int .i64 es.length)) := by
  cases h with
  | ro _ h => rfl
  | own φ st off n F hF hst hsz hl h => simp [lenS]; omega
  | emp => rfl
  | nil => rfl
theorem Sl.elems {σ : AH} {sz : Nat} {a : AV} {es : List (List AV)} (h : Sl σ sz a es) : aelems σ a = some es := by
  cases h with
  | ro _ h => rfl
  | own φ st off n F hF hst hsz hl h => simp [aelems, hF, hst, hl]
  | emp => rfl
  | nil => rfl
theorem Sl.size {σ : AH} {sz : Nat} {a : AV} {es : List (List AV)} (h : Sl σ sz a es) : ∀ c, c ∈ es → c.length = sz := by
  cases h with
  | ro _ h => exact h
  | own φ st off n F hF hst hsz hl h => exact fun c hc => h c (List.mem_of_mem_drop (List.mem_of_mem_take hc))
  | emp => exact fun c hc => by cases hc
  | nil => exact fun c hc => by cases hc
theorem Sl.idx {σ : AH} {sz : Nat} {a : AV} {es : List (List AV)} (h : Sl σ sz a es) {i : Nat} {c : List AV} (hi : es[i]? = some c) : ∃ p, E.idx sz a (.val (.int .i64 (i : Int))) σ = some p ∧ At σ p c := by
  have hsz := h.size c (List.mem_of_getElem? hi)
  have hlt := (List.getElem?_eq_some_iff.1 hi).1
  cases h with
  | ro _ h =>
    refine ⟨.rop c 0, ?_, .rop σ c⟩
    simp only [E.idx]
    have h1 : ((i : Int) < es.length) := by omega
    rw [if_pos ⟨by omega, h1, by simpa [hi] using hsz⟩]
    simp [hi]
  | own φ st off n F hF hst hs hl h =>
    have hlt' : i < n := by simp at hlt; omega
    have e : F.es.getD (off + i) [] = c := by
      rw [List.getElem?_take, if_pos hlt', List.getElem?_drop] at hi
      simp [List.getD, hi]
    refine ⟨.ptr φ st (off + i) 0, ?_, ?_⟩
    · simp only [E.idx, hF]
      simp; omega
    · rw [← e]; exact .ptr hF hst (by omega)
  | emp => simp at hlt
  | nil => simp at hlt
theorem Sl.idx' {σ : AH} {sz : Nat} {a : AV} {es : List (List AV)} (h : Sl σ sz a es) {i : Int} {c : List AV} (h0 : 0 ≤ i) (hi : es[i.toNat]? = some c) : ∃ p, E.idx sz a (.val (.int .i64 i)) σ = some p ∧ At σ p c := by
  obtain ⟨p, h1, h2⟩ := h.idx hi
  rw [show ((i.toNat : Nat) : Int) = i by omega] at h1
  exact ⟨p, h1, h2⟩
theorem Sl.slc {σ : AH} {sz : Nat} {a : AV} {es : List (List AV)} (h : Sl σ sz a es) {lo hi : Option AV} {l k : Nat} (e1 : abd lo 0 = some l) (e2 : abd hi es.length = some k) (h1 : l ≤ k) (h2 : k ≤ es.length) :
    ∃ b, E.slc sz a lo hi none σ = some b ∧ Sl σ sz b ((es.take k).drop l) := by
  cases h with
  | ro _ h =>
    refine ⟨.ro ((es.take k).drop l), ?_, .ro _ fun c hc => h c (List.mem_of_mem_take (List.mem_of_mem_drop hc))⟩
    have e3 : abd none es.length = some es.length := id rfl
    simp only [E.slc, e1, e2, e3]
    rw [if_pos]
    refine ⟨h1, h2, Nat.le_refl _, by simp, ?_⟩
    rw [List.all_eq_true]; intro c hc; simpa using h c hc
  | own φ st off n F hF hst hs hl h =>
    have hlen : ((F.es.drop off).take n).length = n := by simp; omega
    rw [hlen] at e2 h2
    refine ⟨.own φ st (off + l) (k - l), ?_, ?_⟩
    · simp only [E.slc, hF, e1, e2]
      rw [if_pos]
      exact ⟨h1, h2, hst, hs⟩
    · have e : (((F.es.drop off).take n).take k).drop l = (F.es.drop (off + l)).take (k - l) := by
        rw [List.take_take, Nat.min_eq_left (by omega), List.drop_take, List.drop_drop]
      rw [e]
      exact .own _ _ _ _ F hF hst hs (by omega) h
  | emp =>
    obtain rfl : k = 0 := by simpa using h2
    obtain rfl : l = 0 := by omega
    refine ⟨.emp, ?_, by simpa using Sl.emp⟩
    simp only [List.length_nil] at e2
    simp only [E.slc, e1, e2]
  | nil =>
    obtain rfl : k = 0 := by simpa using h2
    obtain rfl : l = 0 := by omega
    refine ⟨.val (.slice none 0 0), ?_, by simpa using Sl.nil⟩
    simp only [List.length_nil] at e2
    simp only [E.slc, e1, e2]

/-! ### rounds -/
theorem lp_by {X : Type} {F : (X → AH → Prop) → X → AH → Prop} {x : X} {σ : AH} (I : Nat → X → AH → Prop) (n : Nat) (h0 : I n x σ)
    (step : ∀ k x σ, I k x σ → ∀ R : X → AH → Prop, (∀ x' σ' k' σ'', k' < k → AH.Sub σ'' σ' → I k' x' σ'' → R x' σ') → F R x σ) : lp F x σ := by
  refine ⟨fun x σ => ∃ k, I k x σ, fun x σ => least fun k => I k x σ, ⟨n, h0⟩, ?_⟩
  intro x σ hx
  refine step _ x σ (least_mem hx) _ fun x' σ' k' σ'' hk hs hI => ⟨σ'', hs, ⟨k', hI⟩, Nat.lt_of_le_of_lt (least_le hI) hk⟩
/-- Rounds of a counter. -/
theorem lp_for {X : Type} {F : (X → AH → Prop) → X → AH → Prop} {x : X} {σ : AH} (n : Nat) (S : Nat → X) (H : Nat → AH → Prop) (hx : x = S 0) (h0 : H 0 σ)
    (step : ∀ i σ, i ≤ n → H i σ → ∀ R : X → AH → Prop, (i < n → ∀ σ' σ'', AH.Sub σ'' σ' → H (i + 1) σ'' → R (S (i + 1)) σ') → F R (S i) σ) : lp F x σ := by
  subst hx
  refine lp_by (fun k x σ => ∃ i, i ≤ n ∧ k = n - i ∧ x = S i ∧ H i σ) n ⟨0, Nat.zero_le _, rfl, rfl, h0⟩ ?_
  rintro k x σ ⟨i, hi, rfl, rfl, hH⟩ R hR
  refine step i σ hi hH R fun hlt σ' σ'' hs hH' => hR _ _ (n - (i + 1)) σ'' (by omega) hs ⟨i + 1, hlt, rfl, rfl, hH'⟩
/-- Rounds of a counter that write nothing that is looked at. -/
theorem lp_read {X : Type} {F : (X → AH → Prop) → X → AH → Prop} {x : X} {σ : AH} (n : Nat) (S : Nat → X) (hx : x = S 0)
    (step : ∀ i, i ≤ n → ∀ R : X → AH → Prop, (i < n → ∀ σ', AH.Sub σ σ' → R (S (i + 1)) σ') → F R (S i) σ) : lp F x σ :=
  lp_for n S (fun _ σ' => σ' = σ) hx rfl fun i σ' hi e R hR => by subst e; exact step i hi R fun hlt σ'' hs => hR hlt σ'' _ hs rfl
/-- Rounds of a counter that write nothing that is looked at, and something that is known at each. -/
theorem lp_same {X : Type} {F : (X → AH → Prop) → X → AH → Prop} {x : X} {σ : AH} (n : Nat) (S : Nat → X) (H : Nat → Prop) (hx : x = S 0) (h0 : H 0)
    (step : ∀ i, i ≤ n → H i → ∀ R : X → AH → Prop, (i < n → H (i + 1) → ∀ σ', AH.Sub σ σ' → R (S (i + 1)) σ') → F R (S i) σ) : lp F x σ :=
  lp_for n S (fun i σ' => σ' = σ ∧ H i) hx ⟨rfl, h0⟩ fun i σ' hi e R hR => by
    obtain ⟨e, hH⟩ := e
    subst e
    exact step i hi hH R fun hlt hH' σ'' hs => hR hlt σ'' _ hs ⟨rfl, hH'⟩

/-! ### making and growing -/
def mkInfo (T : Tab) (t : TypeId) : Option (Nat × List AV × Bool) := match T t with
  | some ti => match ti.under with
    | .slice e => match T e with
      | some te => some (te.size, te.zero.cells.toList.map .val, decide (te.bytes ≤ 128))
      | none => none
    | _ => none
  | none => none
theorem amake_info {T : Tab} {t : TypeId} {sz : Nat} {z : List AV} (hi : mkInfo T t = some (sz, z, true)) {n m : Int} {σ : AH} {k : AV → AH → Prop} (h0 : 0 ≤ n) (h1 : n ≤ m) (h2 : m ≤ 1099511627776)
    (h : ∀ φ, σ φ = none → k (.own φ 0 0 n.toNat) (σ.set φ ⟨0, sz, List.replicate m.toNat z⟩)) : amake T t (.val (.int .i64 n)) (.val (.int .i64 m)) σ k := by
  unfold mkInfo at hi
  unfold amake
  split at hi
  case h_2 => cases hi
  rename_i ti ht
  split at hi
  case h_2 => cases hi
  rename_i e hu
  split at hi
  case h_2 => cases hi
  rename_i te hte
  simp only [Option.some.injEq, Prod.mk.injEq, decide_eq_true_eq] at hi
  obtain ⟨rfl, rfl, h3⟩ := hi
  rw [ht]
  simp only [hu, hte]
  exact ⟨h0, h1, h2, h3, h⟩
/-- A slice that grows, at the end of its own family. -/
def Buf (σ : AH) (sz : Nat) (a : AV) (es : List (List AV)) : Prop :=
  ((a = .val (.slice none 0 0) ∨ a = .emp) ∧ es = []) ∨ ∃ φ st, a = .own φ st 0 es.length ∧ σ φ = some ⟨st, sz, es⟩
def Buf.fam (a : AV) (ψ : Nat) : Prop := ∃ st off n, a = .own ψ st off n
theorem Buf.sl {σ : AH} {sz : Nat} {a : AV} {es : List (List AV)} (h : Buf σ sz a es) (hs : ∀ c, c ∈ es → c.length = sz) : Sl σ sz a es := by
  rcases h with ⟨rfl | rfl, rfl⟩ | ⟨φ, st, rfl, hF⟩
  · exact .nil
  · exact .emp
  · have := Sl.own φ st 0 es.length _ hF rfl rfl (by simp) hs
    simpa using this
/-- What stays: all of it but this slice's family; what was none is none or the slice's. -/
theorem Buf.app {σ : AH} {sz : Nat} {a x : AV} {es xs : List (List AV)} {k : AV → AH → Prop} (h : Buf σ sz a es) (hx : aelems σ x = some xs) (hs : ∀ c, c ∈ xs → c.length = sz)
    (ho : ∀ c, c ∈ xs → ∀ y, y ∈ c → y.one = true) (hn : es.length + xs.length ≤ 4294967296)
    (hk : ∀ a' σ', Buf σ' sz a' (es ++ xs) → (∀ ψ, ¬ Buf.fam a ψ → σ ψ ≠ none → σ' ψ = σ ψ) → (∀ ψ, Buf.fam a' ψ → Buf.fam a ψ ∨ σ ψ = none) → (∀ ψ, ¬ Buf.fam a' ψ → σ' ψ = σ ψ) → k a' σ') : app sz a x σ k := by
  unfold E.app
  rw [hx]
  refine ⟨hs, ?_⟩
  rcases h with ⟨rfl | rfl, rfl⟩ | ⟨φ, st, rfl, hF⟩
  · simp only
    refine ⟨by simpa using hn, ?_, ?_⟩
    · rintro rfl
      exact hk _ _ (.inl ⟨.inl rfl, rfl⟩) (fun _ _ _ => rfl) (fun ψ h => .inl h) (fun _ _ => rfl)
    · intro hne φ hφ
      refine hk _ _ (.inr ⟨φ, 0, by simp, by simp⟩) (fun ψ _ h => AH.set_ne' (by rintro rfl; exact h hφ)) (fun ψ ⟨st, off, n, e⟩ => ?_) (fun ψ h => AH.set_ne' (by rintro rfl; exact h ⟨_, _, _, rfl⟩))
      cases e; exact .inr hφ
  · simp only
    refine ⟨by simpa using hn, ?_, ?_⟩
    · rintro rfl
      exact hk _ _ (.inl ⟨.inr rfl, rfl⟩) (fun _ _ _ => rfl) (fun ψ h => .inl h) (fun _ _ => rfl)
    · intro hne φ hφ
      refine hk _ _ (.inr ⟨φ, 0, by simp, by simp⟩) (fun ψ _ h => AH.set_ne' (by rintro rfl; exact h hφ)) (fun ψ ⟨st, off, n, e⟩ => ?_) (fun ψ h => AH.set_ne' (by rintro rfl; exact h ⟨_, _, _, rfl⟩))
      cases e; exact .inr hφ
  · simp only [hF]
    refine ⟨trivial, trivial, by simp, by simpa using hn, ho, ?_⟩
    refine hk _ _ (.inr ⟨φ, if 0 + es.length + xs.length ≤ es.length then st else st + 1, by simp, ?_⟩) (fun ψ h _ => AH.set_ne' (by rintro rfl; exact h ⟨_, _, _, rfl⟩)) (fun ψ ⟨st, off, n, e⟩ => ?_) (fun ψ h => AH.set_ne' (by rintro rfl; exact h ⟨_, _, _, rfl⟩))
    · simp
    · cases e; exact .inl ⟨_, _, _, rfl⟩

end Go.Proofs.Ytjfdgijgkbojnaa.E
