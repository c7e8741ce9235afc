/- The engine, part 34: rules. -/
import Derived.Test.YtjfdgijgkbojnaaE33
import Derived.Laws.Small
namespace Go.Proofs.Ytjfdgijgkbojnaa.E
open Go Go.RowKit
abbrev iv (n : Int) : AV := .val (.int .i64 n)
abbrev bv (b : Bool) : AV := .val (.bool b)
abbrev str (s : ByteArray) : AV := .val (.string s)
abbrev nilS : AV := .val (.slice none 0 0)
@[simp] theorem og_some' (v : AV) (k : AV → Prop) : og (some v) k = k v := id rfl
@[simp] theorem onr_ret (k p : AV → AH → Prop) (v : AV) (σ : AH) : onr k p (.ret v) σ = k v σ := id rfl
@[simp] theorem apick_true (a b : Prop) : apick (.val (.bool true)) a b = a := id rfl
@[simp] theorem apick_false (a b : Prop) : apick (.val (.bool false)) a b = b := id rfl
@[simp] theorem gpick_true (a b c : Prop) : gpick (.val (.bool true)) a b c = a := id rfl
@[simp] theorem gpick_false (a b c : Prop) : gpick (.val (.bool false)) a b c = b := id rfl
@[simp] theorem ibin_leq (a b : Int) : ibin .leq (.val (.int .i64 a)) (.val (.int .i64 b)) = some (.val (.bool (decide (a ≤ b)))) := id rfl
@[simp] theorem ibin_geq (a b : Int) : ibin .geq (.val (.int .i64 a)) (.val (.int .i64 b)) = some (.val (.bool (decide (b ≤ a)))) := id rfl
@[simp] theorem ibin_lss (a b : Int) : ibin .lss (.val (.int .i64 a)) (.val (.int .i64 b)) = some (.val (.bool (decide (a < b)))) := id rfl
@[simp] theorem ibin_gtr (a b : Int) : ibin .gtr (.val (.int .i64 a)) (.val (.int .i64 b)) = some (.val (.bool (decide (b < a)))) := id rfl
theorem beq_dec (a b : Int) : (a == b) = decide (a = b) := id rfl
@[simp] theorem ibin_eql (a b : Int) : ibin .eql (.val (.int .i64 a)) (.val (.int .i64 b)) = some (.val (.bool (decide (a = b)))) := id rfl
@[simp] theorem ibin_neq (a b : Int) : ibin .neq (.val (.int .i64 a)) (.val (.int .i64 b)) = some (.val (.bool (!decide (a = b)))) := id rfl
theorem i64_wrap {n : Int} (h0 : -9223372036854775808 ≤ n) (h1 : n ≤ 9223372036854775807) : IntKind.i64.wrap n = n := by
  rw [IntKind.wrap_i64]; omega
theorem ibin_add {a b : Int} (h0 : -9223372036854775808 ≤ a + b) (h1 : a + b ≤ 9223372036854775807) : ibin .add (.val (.int .i64 a)) (.val (.int .i64 b)) = some (.val (.int .i64 (a + b))) := by
  show some (AV.val (.int .i64 (IntKind.i64.wrap (a + b)))) = _
  rw [i64_wrap h0 h1]
theorem ibin_sub {a b : Int} (h0 : -9223372036854775808 ≤ a - b) (h1 : a - b ≤ 9223372036854775807) : ibin .sub (.val (.int .i64 a)) (.val (.int .i64 b)) = some (.val (.int .i64 (a - b))) := by
  show some (AV.val (.int .i64 (IntKind.i64.wrap (a - b)))) = _
  rw [i64_wrap h0 h1]
theorem ibin_mul {a b : Int} (h0 : -9223372036854775808 ≤ a * b) (h1 : a * b ≤ 9223372036854775807) : ibin .mul (.val (.int .i64 a)) (.val (.int .i64 b)) = some (.val (.int .i64 (a * b))) := by
  show some (AV.val (.int .i64 (IntKind.i64.wrap (a * b)))) = _
  rw [i64_wrap h0 h1]
/-- A counter that goes up. -/
theorem ibin_up {i n : Nat} (h : i < n) (hn : n ≤ 9223372036854775807) : ibin .add (.val (.int .i64 (i : Int))) (.val (.int .i64 1)) = some (.val (.int .i64 ((i + 1 : Nat) : Int))) := by
  rw [ibin_add (by omega) (by omega)]; rfl
theorem toList_beq (a b : ByteArray) : (a.toList == b.toList) = decide (a = b) := by
  by_cases h : a = b
  · simp [h]
  · have : ¬ a.toList = b.toList := fun e => h (by
      rw [ByteArray.toList_eq, ByteArray.toList_eq] at e
      exact WideShapes.bytes_inj e)
    simp [h, this]
@[simp] theorem sbin_eql (a b : ByteArray) : sbin .eql (.val (.string a)) (.val (.string b)) = some (.val (.bool (decide (a = b)))) := by
  show some (AV.val (.bool (a.toList == b.toList))) = _
  rw [toList_beq]
@[simp] theorem sbin_neq (a b : ByteArray) : sbin .neq (.val (.string a)) (.val (.string b)) = some (.val (.bool (!decide (a = b)))) := by
  show some (AV.val (.bool (!(a.toList == b.toList)))) = _
  rw [toList_beq]
@[simp] theorem aun_not (b : Bool) : aun .not (.val (.bool b)) = some (.val (.bool (!b))) := id rfl
@[simp] theorem gval_true (w g : Bool) (x : Option AV) : gval (.val (.bool true)) w g x = if w then x else some (.tup []) := by cases w <;> simp [gval]
@[simp] theorem gval_false (w g : Bool) (x : Option AV) : gval (.val (.bool false)) w g x = if w then some (.tup []) else x := by cases w <;> simp [gval]
@[simp] theorem pickV_true (a b : AV) : pickV (.val (.bool true)) a b = some a := id rfl
@[simp] theorem pickV_false (a b : AV) : pickV (.val (.bool false)) a b = some b := id rfl
@[simp] theorem amm_max (a b : Int) : amm true (.val (.int .i64 a)) (.val (.int .i64 b)) = some (.val (.int .i64 (if b > a then b else a))) := id rfl
@[simp] theorem amm_min (a b : Int) : amm false (.val (.int .i64 a)) (.val (.int .i64 b)) = some (.val (.int .i64 (if b < a then b else a))) := id rfl
@[simp] theorem aext_tup (vs : List AV) (i : Nat) : aext (.tup vs) i = vs[i]? := id rfl
@[simp] theorem fldV_agg (o : Nat) (cs : List AV) : fldV o (.agg cs) = if o < cs.length then some (cs.getD o .any) else none := id rfl
@[simp] theorem fldG_agg (o n : Nat) (cs : List AV) : fldG o n (.agg cs) = if o + n ≤ cs.length then some (.agg ((cs.drop o).take n)) else none := id rfl
theorem ret_here {v : AV} {σ : AH} {R : AEnd → AH → Prop} (h : R (.ret v) σ) : aret v σ R := aret_sub (.refl σ) h

/-! ### own memory -/
@[simp] theorem abox_agg (cs : List AV) (σ : AH) (k : AV → AH → Prop) : abox (.agg cs) σ k = ∀ φ, σ φ = none → k (.ptr φ 0 0 0) (σ.set φ ⟨0, cs.length, [cs]⟩) := id rfl
@[simp] theorem new_eq (cs : List AV) (σ : AH) (k : AV → AH → Prop) : new cs σ k = ∀ φ, σ φ = none → k (.ptr φ 0 0 0) (σ.set φ ⟨0, cs.length, [cs]⟩) := id rfl
@[simp] theorem fldA_ptr (o φ st i off : Nat) : fldA o (.ptr φ st i off) = some (.ptr φ st i (off + o)) := id rfl
@[simp] theorem fldA_rop (o off : Nat) (cs : List AV) : fldA o (.rop cs off) = some (.rop cs (off + o)) := id rfl
@[simp] theorem anil_ptr (φ st i off : Nat) : anil (.ptr φ st i off) = some (.ptr φ st i off) := id rfl
attribute [simp] AH.set_same AH.set_none AH.set_set
theorem AH.set_ne' {σ : AH} {φ ψ : Nat} {F : Fam} (h : ¬ ψ = φ) : (σ.set φ F) ψ = σ ψ := AH.set_ne σ F h
theorem AH.set_turn {σ : AH} {φ ψ : Nat} {F G H : Fam} (h : ¬ ψ = φ) : ((σ.set φ F).set ψ G).set φ H = (σ.set φ H).set ψ G := by
  rw [AH.set_comm _ F G (Ne.symm h), AH.set_set, AH.set_comm _ G H h]
theorem sub_set {a b : AH} {φ : Nat} {F : Fam} (h : AH.Sub a b) (hn : a φ = none) : AH.Sub a (b.set φ F) := AH.Sub.set h F hn
theorem AH.Sub.at {a b : AH} (h : AH.Sub a b) {φ : Nat} {F : Fam} (hF : a φ = some F) : b φ = some F := h φ F hF
/-- What stands at a pointer. -/
def At (σ : AH) (p : AV) (cs : List AV) : Prop := acellsAt σ p = some cs ∧ ∀ o, ∃ q, fldA o p = some q ∧ acellsAt σ q = some (cs.drop o)
theorem At.rop (σ : AH) (cs : List AV) : At σ (.rop cs 0) cs := ⟨rfl, fun o => ⟨_, rfl, by simp [acellsAt]⟩⟩
theorem At.ptr {σ : AH} {φ st i : Nat} {F : Fam} (hF : σ φ = some F) (hs : F.st = st) (hi : i < F.es.length) : At σ (.ptr φ st i 0) (F.es.getD i []) := by
  refine ⟨by simp [acellsAt, hF, hs, hi], fun o => ⟨_, rfl, by simp [acellsAt, hF, hs, hi]⟩⟩
theorem At.lod {σ : AH} {p c : AV} {cs : List AV} (h : At σ p (c :: cs)) : lod p σ = some c := by
  unfold E.lod; rw [h.1]
theorem At.lodA {σ : AH} {p : AV} {cs : List AV} {n : Nat} (h : At σ p cs) (hn : n ≤ cs.length) : lodA n p σ = some (.agg (cs.take n)) := by
  unfold E.lodA; rw [h.1]; simp [hn]
theorem At.fld {σ : AH} {p : AV} {cs : List AV} (h : At σ p cs) (o : Nat) (ho : o < cs.length) : ∃ q, fldA o p = some q ∧ E.lod q σ = some (cs.getD o .any) := by
  obtain ⟨q, h1, h2⟩ := h.2 o
  refine ⟨q, h1, ?_⟩
  unfold E.lod; rw [h2, List.drop_eq_getElem_cons ho]; simp [List.getD, ho]

/-- A slice and what it holds, whoever has it. -/
inductive Sl (σ : AH) (sz : Nat) : AV → List (List AV) → Prop
  | ro (es : List (List AV)) (h : ∀ c, c ∈ es → c.length = sz) : Sl σ sz (.ro es) es
  | own (φ st off n : Nat) (F : Fam) (hF : σ φ = some F) (hst : F.st = st) (hsz : F.sz = sz) (hl : off + n ≤ F.es.length) (h : ∀ c, c ∈ F.es → c.length = sz) : Sl σ sz (.own φ st off n) ((F.es.drop off).take n)
  | emp : Sl σ sz .emp []
  | nil : Sl σ sz (.val (.slice none 0 0)) []
theorem Sl.sub {σ σ' : AH} {sz : Nat} {a : AV} {es : List (List AV)} (h : Sl σ sz a es) (s : AH.Sub σ σ') : Sl σ' sz a es := by
  cases h with
  | ro _ h => exact .ro _ h
  | own φ st off n F hF hst hsz hl h => exact .own φ st off n F (s.at hF) hst hsz hl h
  | emp => exact .emp
  | nil => exact .nil
theorem Sl.len {σ : AH} {sz : Nat} {a : AV} {es : List (List AV)} (h : Sl σ sz a es) : lenS a = some (.val (.int .i64 es.length)) := by
  cases h with
  | ro _ h => rfl
  | own φ st off n F hF hst hsz hl h => simp [lenS]; omega
  | emp => rfl
  | nil => rfl
theorem Sl.elems {σ : AH} {sz : Nat} {a : AV} {es : List (List AV)} (h : Sl σ sz a es) : aelems σ a = some es := by
  cases h with
  | ro _ h => rfl
  | own φ st off n F hF hst hsz hl h => simp [aelems, hF, hst, hl]
  | emp => rfl
  | nil => rfl
theorem Sl.size {σ : AH} {sz : Nat} {a : AV} {es : List (List AV)} (h : Sl σ sz a es) : ∀ c, c ∈ es → c.length = sz := by
  cases h with
  | ro _ h => exact h
  | own φ st off n F hF hst hsz hl h => exact fun c hc => h c (List.mem_of_mem_drop (List.mem_of_mem_take hc))
  | emp => exact fun c hc => by cases hc
  | nil => exact fun c hc => by cases hc
theorem Sl.idx {σ : AH} {sz : Nat} {a : AV} {es : List (List AV)} (h : Sl σ sz a es) {i : Nat} {c : List AV} (hi : es[i]? = some c) : ∃ p, E.idx sz a (.val (.int .i64 (i : Int))) σ = some p ∧ At σ p c := by
  have hsz := h.size c (List.mem_of_getElem? hi)
  have hlt := (List.getElem?_eq_some_iff.1 hi).1
  cases h with
  | ro _ h =>
    refine ⟨.rop c 0, ?_, .rop σ c⟩
    simp only [E.idx]
    have h1 : ((i : Int) < es.length) := by omega
    rw [if_pos ⟨by omega, h1, by simpa [hi] using hsz⟩]
    simp [hi]
  | own φ st off n F hF hst hs hl h =>
    have hlt' : i < n := by simp at hlt; omega
    have e : F.es.getD (off + i) [] = c := by
      rw [List.getElem?_take, if_pos hlt', List.getElem?_drop] at hi
      simp [List.getD, hi]
    refine ⟨.ptr φ st (off + i) 0, ?_, ?_⟩
    · simp only [E.idx, hF]
      simp; omega
    · rw [← e]; exact .ptr hF hst (by omega)
  | emp => simp at hlt
  | nil => simp at hlt
theorem Sl.idx' {σ : AH} {sz : Nat} {a : AV} {es : List (List AV)} (h : Sl σ sz a es) {i : Int} {c : List AV} (h0 : 0 ≤ i) (hi : es[i.toNat]? = some c) : ∃ p, E.idx sz a (.val (.int .i64 i)) σ = some p ∧ At σ p c := by
  obtain ⟨p, h1, h2⟩ := h.idx hi
  rw [show ((i.toNat : Nat) : Int) = i by omega] at h1
  exact ⟨p, h1, h2⟩
theorem Sl.slc {σ : AH} {sz : Nat} {a : AV} {es : List (List AV)} (h : Sl σ sz a es) {lo hi : Option AV} {l k : Nat} (e1 : abd lo 0 = some l) (e2 : abd hi es.length = some k) (h1 : l ≤ k) (h2 : k ≤ es.length) :
    ∃ b, E.slc sz a lo hi none σ = some b ∧ Sl σ sz b ((es.take k).drop l) := by
  cases h with
  | ro _ h =>
    refine ⟨.ro ((es.take k).drop l), ?_, .ro _ fun c hc => h c (List.mem_of_mem_take (List.mem_of_mem_drop hc))⟩
    have e3 : abd none es.length = some es.length := id rfl
    simp only [E.slc, e1, e2, e3]
    rw [if_pos]
    refine ⟨h1, h2, Nat.le_refl _, by simp, ?_⟩
    rw [List.all_eq_true]; intro c hc; simpa using h c hc
  | own φ st off n F hF hst hs hl h =>
    have hlen : ((F.es.drop off).take n).length = n := by simp; omega
    rw [hlen] at e2 h2
    refine ⟨.own φ st (off + l) (k - l), ?_, ?_⟩
    · simp only [E.slc, hF, e1, e2]
      rw [if_pos]
      exact ⟨h1, h2, hst, hs⟩
    · have e : (((F.es.drop off).take n).take k).drop l = (F.es.drop (off + l)).take (k - l) := by
        rw [List.take_take, Nat.min_eq_left (by omega), List.drop_take, List.drop_drop]
      rw [e]
      exact .own _ _ _ _ F hF hst hs (by omega) h
  | emp =>
    obtain rfl : k = 0 := by simpa using h2
    obtain rfl : l = 0 := by omega
    refine ⟨.emp, ?_, by simpa using Sl.emp⟩
    simp only [List.length_nil] at e2
    simp only [E.slc, e1, e2]
  | nil =>
    obtain rfl : k = 0 := by simpa using h2
    obtain rfl : l = 0 := by omega
    refine ⟨.val (.slice none 0 0), ?_, by simpa using Sl.nil⟩
    simp only [List.length_nil] at e2
    simp only [E.slc, e1, e2]

/-! ### rounds -/
theorem lp_by {X : Type} {F : (X → AH → Prop) → X → AH → Prop} {x : X} {σ : AH} (I : Nat → X → AH → Prop) (n : Nat) (h0 : I n x σ)
    (step : ∀ k x σ, I k x σ → ∀ R : X → AH → Prop, (∀ x' σ' k' σ'', k' < k → AH.Sub σ'' σ' → I k' x' σ'' → R x' σ') → F R x σ) : lp F x σ := by
  refine ⟨fun x σ => ∃ k, I k x σ, fun x σ => least fun k => I k x σ, ⟨n, h0⟩, ?_⟩
  intro x σ hx
  refine step _ x σ (least_mem hx) _ fun x' σ' k' σ'' hk hs hI => ⟨σ'', hs, ⟨k', hI⟩, Nat.lt_of_le_of_lt (least_le hI) hk⟩
/-- Rounds of a counter. -/
theorem lp_for {X : Type} {F : (X → AH → Prop) → X → AH → Prop} {x : X} {σ : AH} (n : Nat) (S : Nat → X) (H : Nat → AH → Prop) (hx : x = S 0) (h0 : H 0 σ)
    (step : ∀ i σ, i ≤ n → H i σ → ∀ R : X → AH → Prop, (i < n → ∀ σ' σ'', AH.Sub σ'' σ' → H (i + 1) σ'' → R (S (i + 1)) σ') → F R (S i) σ) : lp F x σ := by
  subst hx
  refine lp_by (fun k x σ => ∃ i, i ≤ n ∧ k = n - i ∧ x = S i ∧ H i σ) n ⟨0, Nat.zero_le _, rfl, rfl, h0⟩ ?_
  rintro k x σ ⟨i, hi, rfl, rfl, hH⟩ R hR
  refine step i σ hi hH R fun hlt σ' σ'' hs hH' => hR _ _ (n - (i + 1)) σ'' (by omega) hs ⟨i + 1, hlt, rfl, rfl, hH'⟩
/-- Rounds of a counter that write nothing that is looked at. -/
theorem lp_read {X : Type} {F : (X → AH → Prop) → X → AH → Prop} {x : X} {σ : AH} (n : Nat) (S : Nat → X) (hx : x = S 0)
    (step : ∀ i, i ≤ n → ∀ R : X → AH → Prop, (i < n → ∀ σ', AH.Sub σ σ' → R (S (i + 1)) σ') → F R (S i) σ) : lp F x σ :=
  lp_for n S (fun _ σ' => σ' = σ) hx rfl fun i σ' hi e R hR => by subst e; exact step i hi R fun hlt σ'' hs => hR hlt σ'' _ hs rfl
/-- Rounds of a counter that write nothing that is looked at, and something that is known at each. -/
theorem lp_same {X : Type} {F : (X → AH → Prop) → X → AH → Prop} {x : X} {σ : AH} (n : Nat) (S : Nat → X) (H : Nat → Prop) (hx : x = S 0) (h0 : H 0)
    (step : ∀ i, i ≤ n → H i → ∀ R : X → AH → Prop, (i < n → H (i + 1) → ∀ σ', AH.Sub σ σ' → R (S (i + 1)) σ') → F R (S i) σ) : lp F x σ :=
  lp_for n S (fun i σ' => σ' = σ ∧ H i) hx ⟨rfl, h0⟩ fun i σ' hi e R hR => by
    obtain ⟨e, hH⟩ := e
    subst e
    exact step i hi hH R fun hlt hH' σ'' hs => hR hlt σ'' _ hs ⟨rfl, hH'⟩

/-! ### making and growing -/
def mkInfo (T : Tab) (t : TypeId) : Option (Nat × List AV × Bool) := match T t with
  | some ti => match ti.under with
    | .slice e => match T e with
      | some te => some (te.size, te.zero.cells.toList.map .val, decide (te.bytes ≤ 128))
      | none => none
    | _ => none
  | none => none
theorem amake_info {T : Tab} {t : TypeId} {sz : Nat} {z : List AV} (hi : mkInfo T t = some (sz, z, true)) {n m : Int} {σ : AH} {k : AV → AH → Prop} (h0 : 0 ≤ n) (h1 : n ≤ m) (h2 : m ≤ 1099511627776)
    (h : ∀ φ, σ φ = none → k (.own φ 0 0 n.toNat) (σ.set φ ⟨0, sz, List.replicate m.toNat z⟩)) : amake T t (.val (.int .i64 n)) (.val (.int .i64 m)) σ k := by
  unfold mkInfo at hi
  unfold amake
  split at hi
  case h_2 => cases hi
  rename_i ti ht
  split at hi
  case h_2 => cases hi
  rename_i e hu
  split at hi
  case h_2 => cases hi
  rename_i te hte
  simp only [Option.some.injEq, Prod.mk.injEq, decide_eq_true_eq] at hi
  obtain ⟨rfl, rfl, h3⟩ := hi
  rw [ht]
  simp only [hu, hte]
  exact ⟨h0, h1, h2, h3, h⟩
/-- A slice that grows, at the end of its own family. -/
def Buf (σ : AH) (sz : Nat) (a : AV) (es : List (List AV)) : Prop :=
  ((a = .val (.slice none 0 0) ∨ a = .emp) ∧ es = []) ∨ ∃ φ st, a = .own φ st 0 es.length ∧ σ φ = some ⟨st, sz, es⟩
def Buf.fam (a : AV) (ψ : Nat) : Prop := ∃ st off n, a = .own ψ st off n
theorem Buf.sl {σ : AH} {sz : Nat} {a : AV} {es : List (List AV)} (h : Buf σ sz a es) (hs : ∀ c, c ∈ es → c.length = sz) : Sl σ sz a es := by
  rcases h with ⟨rfl | rfl, rfl⟩ | ⟨φ, st, rfl, hF⟩
  · exact .nil
  · exact .emp
  · have := Sl.own φ st 0 es.length _ hF rfl rfl (by simp) hs
    simpa using this
/-- What stays: all of it but this slice's family; what was none is none or the slice's. -/
theorem Buf.app {σ : AH} {sz : Nat} {a x : AV} {es xs : List (List AV)} {k : AV → AH → Prop} (h : Buf σ sz a es) (hx : aelems σ x = some xs) (hs : ∀ c, c ∈ xs → c.length = sz)
    (ho : ∀ c, c ∈ xs → ∀ y, y ∈ c → y.one = true) (hn : es.length + xs.length ≤ 4294967296)
    (hk : ∀ a' σ', Buf σ' sz a' (es ++ xs) → (∀ ψ, ¬ Buf.fam a ψ → σ ψ ≠ none → σ' ψ = σ ψ) → (∀ ψ, Buf.fam a' ψ → Buf.fam a ψ ∨ σ ψ = none) → (∀ ψ, ¬ Buf.fam a' ψ → σ' ψ = σ ψ) → k a' σ') : app sz a x σ k := by
  unfold E.app
  rw [hx]
  refine ⟨hs, ?_⟩
  rcases h with ⟨rfl | rfl, rfl⟩ | ⟨φ, st, rfl, hF⟩
  · simp only
    refine ⟨by simpa using hn, ?_, ?_⟩
    · rintro rfl
      exact hk _ _ (.inl ⟨.inl rfl, rfl⟩) (fun _ _ _ => rfl) (fun ψ h => .inl h) (fun _ _ => rfl)
    · intro hne φ hφ
      refine hk _ _ (.inr ⟨φ, 0, by simp, by simp⟩) (fun ψ _ h => AH.set_ne' (by rintro rfl; exact h hφ)) (fun ψ ⟨st, off, n, e⟩ => ?_) (fun ψ h => AH.set_ne' (by rintro rfl; exact h ⟨_, _, _, rfl⟩))
      cases e; exact .inr hφ
  · simp only
    refine ⟨by simpa using hn, ?_, ?_⟩
    · rintro rfl
      exact hk _ _ (.inl ⟨.inr rfl, rfl⟩) (fun _ _ _ => rfl) (fun ψ h => .inl h) (fun _ _ => rfl)
    · intro hne φ hφ
      refine hk _ _ (.inr ⟨φ, 0, by simp, by simp⟩) (fun ψ _ h => AH.set_ne' (by rintro rfl; exact h hφ)) (fun ψ ⟨st, off, n, e⟩ => ?_) (fun ψ h => AH.set_ne' (by rintro rfl; exact h ⟨_, _, _, rfl⟩))
      cases e; exact .inr hφ
  · simp only [hF]
    refine ⟨trivial, trivial, by simp, by simpa using hn, ho, ?_⟩
    refine hk _ _ (.inr ⟨φ, if 0 + es.length + xs.length ≤ es.length then st else st + 1, by simp, ?_⟩) (fun ψ h _ => AH.set_ne' (by rintro rfl; exact h ⟨_, _, _, rfl⟩)) (fun ψ ⟨st, off, n, e⟩ => ?_) (fun ψ h => AH.set_ne' (by rintro rfl; exact h ⟨_, _, _, rfl⟩))
    · simp
    · cases e; exact .inl ⟨_, _, _, rfl⟩

/-! ### what nobody writes any more -/
theorem acall_imp {P : Program} {f : FuncId} {args : List AV} {σ : AH} {Q Q' : AEnd → AH → Prop} (h : acall P f args σ Q)
    (k : ∀ e σ', Q e σ' → ∃ v, e = .ret v ∧ ∃ v' σ'', Imp v σ' v' σ'' ∧ Q' (.ret v') σ'') : acall P f args σ Q' := by
  obtain ⟨fn, h1, h2, h3, h4⟩ := h
  refine ⟨fn, h1, h2, h3, fun κ w vs hr hv => (h4 κ w vs hr hv).mono fun e w' ⟨κ', ae, σ', a, b, c⟩ => ?_⟩
  obtain ⟨v, rfl, v', σ'', hi, hq⟩ := k _ _ a
  cases e with
  | returned u =>
    obtain ⟨κ2, s2, r2⟩ := hi κ' w' u b.rel c
    exact ⟨κ2, .ret v', σ'', hq, b.trans s2, r2⟩
  | _ => exact c.elim
/-- What a value comes to when the families that σ has beyond σ0 are written no more. -/
inductive Fz (σ0 σ : AH) : AV → AV → Prop
  | same (a : AV) : Fz σ0 σ a a
  | agg {cs ds : List AV} (hl : cs.length = ds.length) (h : ∀ i, i < cs.length → Fz σ0 σ (cs.getD i .any) (ds.getD i .any)) : Fz σ0 σ (.agg cs) (.agg ds)
  | tup {cs ds : List AV} (hl : cs.length = ds.length) (h : ∀ i, i < cs.length → Fz σ0 σ (cs.getD i .any) (ds.getD i .any)) : Fz σ0 σ (.tup cs) (.tup ds)
  | own {φ st off n : Nat} {F : Fam} {fs : List (List AV)} (hF : σ φ = some F) (h0 : σ0 φ = none) (hst : F.st = st) (hl : off + n ≤ F.es.length) (hn : fs.length = n)
      (hz : ∀ i, i < n → (fs.getD i []).length = F.sz) (h : ∀ i j, i < n → j < F.sz → Fz σ0 σ ((F.es.getD (off + i) []).getD j .any) ((fs.getD i []).getD j .any)) : Fz σ0 σ (.own φ st off n) (.ro fs)
  | ro {es fs : List (List AV)} (hn : es.length = fs.length) (hz : ∀ i, i < es.length → (es.getD i []).length = (fs.getD i []).length)
      (h : ∀ i j, i < es.length → j < (es.getD i []).length → Fz σ0 σ ((es.getD i []).getD j .any) ((fs.getD i []).getD j .any)) : Fz σ0 σ (.ro es) (.ro fs)
  | emp : Fz σ0 σ .emp (.ro [])
  | nil : Fz σ0 σ (.val (.slice none 0 0)) (.ro [])
open Classical in
noncomputable def kapF (σ0 σ : AH) (κ : Kap) (w : World) : Kap :=
  { κ with M := fun b o => if ∃ φ F r, σ φ = some F ∧ σ0 φ = none ∧ κ.ρ φ F.st = some r ∧ r.b = b then w.cell? ⟨b, o, none⟩ else κ.M b o }
open Classical in
theorem imp_freeze {σ0 σ : AH} {a a' : AV} (hs : AH.Sub σ0 σ) (hf : Fz σ0 σ a a') : Imp a σ a' σ0 := by
  intro κ w u hr hv
  have hin : ∀ {φ F r}, σ φ = some F → σ0 φ = none → κ.ρ φ F.st = some r → ∀ o, (kapF σ0 σ κ w).M r.b o = w.cell? ⟨r.b, o, none⟩ := by
    intro φ F r h1 h2 h3 o
    show (if _ then _ else _) = _
    rw [if_pos ⟨φ, F, r, h1, h2, h3, rfl⟩]
  have hE : Ext κ (kapF σ0 σ κ w) := by
    refine ⟨fun _ _ _ h => h, fun b o v hm => ?_, rfl, rfl⟩
    show (if _ then _ else _) = _
    split
    · rename_i hc
      obtain ⟨φ, F, r, h1, _, h3, rfl⟩ := hc
      rw [hr.off φ F r h1 h3 o] at hm; cases hm
    · exact hm
  have hout : ∀ φ F r, σ0 φ = some F → κ.ρ φ F.st = some r → ∀ o, (kapF σ0 σ κ w).M r.b o = κ.M r.b o := by
    intro φ F r h1 h2 o
    show (if _ then _ else _) = _
    rw [if_neg]
    rintro ⟨ψ, G, s, g1, g2, g3, e⟩
    have hne : ψ ≠ φ := by rintro rfl; rw [h1] at g2; cases g2
    exact hr.inj ψ φ G F s r g1 (hs φ F h1) g3 h2 hne e
  refine ⟨kapF σ0 σ κ w, ⟨hE, ?_, ?_⟩, ?_⟩
  · have h0 := hr.sub hs
    refine ⟨?_, h0.inj, ?_, ?_, h0.up, h0.fin, h0.bel, h0.bw⟩
    · intro φ F hF
      obtain ⟨r, h1, h2, h3⟩ := h0.has φ F hF
      exact ⟨r, h1, h2, h3.same hE rfl⟩
    · intro b o v hm
      have hm : (if _ then _ else _) = _ := hm
      split at hm
      · exact hm
      · exact hr.mem b o v hm
    · intro φ F r hF h1 o
      rw [hout φ F r hF h1 o]; exact h0.off φ F r hF h1 o
  · refine ⟨Nat.le_refl _, fun b hb hu => ⟨rfl, fun o => ?_, fun φ F r hF => hu φ F r (hs φ F hF)⟩, fun φ hn _ => ⟨hs.none hn, fun _ => rfl⟩⟩
    show (if _ then _ else _) = _
    rw [if_neg]
    rintro ⟨φ, F, r, h1, _, h3, e⟩
    exact hu φ F r h1 h3 e
  · clear hout
    induction hf generalizing u with
    | same a => exact hv.mono hE
    | agg hl h ih =>
      cases hv with
      | agg hl2 h2 => exact .agg (hl ▸ hl2) fun i hi => ih i (hl ▸ hi) _ (h2 i (hl ▸ hi))
    | tup hl h ih =>
      cases hv with
      | tup hl2 h2 => exact .tup (hl ▸ hl2) fun i hi => ih i (hl ▸ hi) _ (h2 i (hl ▸ hi))
    | @own φ st off n F fs hF h0 hst hl hn hz h ih =>
      subst hst
      cases hv with
      | @own _ _ _ _ r hρ hlo hn2 =>
        obtain ⟨r', e1, _, H⟩ := hr.has φ F hF
        rw [hρ] at e1; obtain rfl := Option.some.inj e1
        have cell : ∀ i j, ∃ v, i < n → j < F.sz → w.cell? ⟨r.b, r.base + (off + i - r.lo) * r.sz + j, none⟩ = some v ∧ VR κ ((F.es.getD (off + i) []).getD j .any) v := by
          intro i j
          by_cases c : i < n ∧ j < F.sz
          · obtain ⟨v, h1, h2⟩ := H.cell (off + i) j (by omega) (by omega) c.2
            exact ⟨v, fun _ _ => ⟨h1, h2⟩⟩
          · exact ⟨undef, fun h1 h2 => absurd ⟨h1, h2⟩ c⟩
        obtain ⟨vals, hvals⟩ := Classical.axiomOfChoice fun i => Classical.axiomOfChoice (cell i)
        have key : VR (kapF σ0 σ κ w) (.ro fs) (.slice (some ⟨r.b, r.base + (off - r.lo) * r.sz, none⟩) fs.length (r.lo + r.cap - off)) := by
          refine VR.ro (sz := F.sz) (vals := vals) (by omega) (fun i hi => hz i (by omega)) ?_ (fun i j hi hj => ih i j (by omega) hj _ (hvals i j (by omega) hj).2)
          intro i j hi hj
          rw [hin hF h0 hρ]
          have := (hvals i j (by omega) hj).1
          rw [← this]; congr 2
          rw [show off + i - r.lo = (off - r.lo) + i by omega, Nat.add_mul, H.sz]; omega
        rw [hn] at key; exact key
      | ownEnd hρ hoff =>
        obtain rfl := List.eq_nil_of_length_eq_zero hn
        exact .roEnd _
    | @ro es fs hn hz h ih =>
      cases hv with
      | roEnd a =>
        obtain rfl := List.eq_nil_of_length_eq_zero hn.symm
        exact .roEnd _
      | @ro _ b off cap sz vals hc hz2 hm hv =>
        have key : VR (kapF σ0 σ κ w) (.ro fs) (.slice (some ⟨b, off, none⟩) fs.length cap) := by
          refine VR.ro (sz := sz) (vals := vals) (by omega) (fun i hi => ?_) (fun i j hi hj => hE.M _ _ _ (hm i j (by omega) hj)) (fun i j hi hj => ?_)
          · rw [← hz i (by omega), hz2 i (by omega)]
          · exact ih i j (by omega) (by rw [hz2 i (by omega)]; exact hj) _ (hv i j (by omega) hj)
        rw [← hn] at key; exact key
    | emp => cases hv; exact .roEnd _
    | nil => cases hv; exact .roEnd _
theorem aret_freeze {σ0 σ : AH} {a a' : AV} {R : AEnd → AH → Prop} (hs : AH.Sub σ0 σ) (hf : Fz σ0 σ a a') (h : R (.ret a') σ0) : aret a σ R := ⟨a', σ0, imp_freeze hs hf, h⟩
end Go.Proofs.Ytjfdgijgkbojnaa.E
