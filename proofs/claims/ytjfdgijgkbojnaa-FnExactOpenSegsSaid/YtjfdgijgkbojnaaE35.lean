/- The engine, part 35: lists of single cells, whole elements put into own memory. -/
import Derived.Test.YtjfdgijgkbojnaaE34
set_option linter.unusedSectionVars false
namespace Go.Proofs.Ytjfdgijgkbojnaa.E
open Go Go.RowKit
variable [Lam]
/-- A list of values of one cell. -/
def Cs {X : Type} (f : X → AV) (σ : AH) (a : AV) (xs : List X) : Prop := Sl σ 1 a (xs.map fun x => [f x])
theorem Cs.sub {X : Type} {f : X → AV} {σ σ' : AH} {a : AV} {xs : List X} (h : Cs f σ a xs) (s : AH.Sub σ σ') : Cs f σ' a xs := Sl.sub h s
theorem Cs.len {X : Type} {f : X → AV} {σ : AH} {a : AV} {xs : List X} (h : Cs f σ a xs) : lenS a = some (.val (.int .i64 xs.length)) := by simpa using Sl.len h
theorem Cs.at {X : Type} {f : X → AV} {σ : AH} {a : AV} {xs : List X} (h : Cs f σ a xs) {i : Nat} (hi : i < xs.length) : ∃ p, idx 1 a (.val (.int .i64 (i : Int))) σ = some p ∧ lod p σ = some (f xs[i]) ∧ At σ p [f xs[i]] := by
  obtain ⟨p, h1, h2⟩ := Sl.idx h (i := i) (c := [f xs[i]]) (by simp [hi])
  exact ⟨p, h1, h2.lod, h2⟩
theorem Cs.ro {X : Type} (f : X → AV) (σ : AH) (xs : List X) : Cs f σ (.ro (xs.map fun x => [f x])) xs := Sl.ro _ (by intro c hc; obtain ⟨x, _, rfl⟩ := List.mem_map.1 hc; rfl)
theorem Cs.own {X : Type} {f : X → AV} {σ : AH} {φ st : Nat} {xs : List X} (h : σ φ = some ⟨st, 1, xs.map fun x => [f x]⟩) : Cs f σ (.own φ st 0 xs.length) xs := by
  have := Sl.own φ st 0 xs.length _ h rfl rfl (by simp) (by intro c hc; obtain ⟨x, _, rfl⟩ := List.mem_map.1 hc; rfl)
  have e : ((xs.map fun x => [f x]).drop 0).take xs.length = xs.map fun x => [f x] := by rw [List.drop_zero]; exact List.take_of_length_le (by simp)
  unfold Cs; rw [← e]; exact this
theorem Cs.nil {X : Type} (f : X → AV) (σ : AH) : Cs f σ (.val (.slice none 0 0)) [] := Sl.nil
theorem Cs.emp {X : Type} (f : X → AV) (σ : AH) : Cs f σ .emp [] := Sl.emp
theorem Cs.slc {X : Type} {f : X → AV} {σ : AH} {a : AV} {xs : List X} (h : Cs f σ a xs) {lo hi : Option AV} {l k : Nat} (e1 : abd lo 0 = some l) (e2 : abd hi xs.length = some k) (h1 : l ≤ k) (h2 : k ≤ xs.length) :
    ∃ b, E.slc 1 a lo hi none σ = some b ∧ Cs f σ b ((xs.take k).drop l) := by
  obtain ⟨b, g1, g2⟩ := Sl.slc h (lo := lo) (hi := hi) (l := l) (k := k) e1 (by simpa using e2) h1 (by simpa using h2)
  refine ⟨b, g1, ?_⟩
  unfold Cs; rw [List.map_drop, List.map_take]; exact g2
@[simp] theorem lenStr_str (s : ByteArray) : lenStr (.val (.string s)) = some (.val (.int .i64 s.size)) := id rfl

theorem spl_all : ∀ (xs cs : List AV) (pre : List AV), cs.length = xs.length → spl (pre ++ cs) pre.length xs = pre ++ xs := by
  intro xs
  induction xs with
  | nil => intro cs pre h; obtain rfl := List.eq_nil_of_length_eq_zero (by simpa using h); simp [spl]
  | cons x xs ih =>
    intro cs pre h
    match cs, h with
    | c :: cs, h =>
      have := ih cs (pre ++ [x]) (by simpa using h)
      unfold spl
      simpa using this
theorem sto_own {σ : AH} {φ st i sz : Nat} {es : List (List AV)} {v : AV} {cs : List AV} {k : AH → Prop} (hF : σ φ = some ⟨st, sz, es⟩) (hi : i < es.length) (hl : (es.getD i []).length = sz)
    (hv : acells v = some cs) (hc : cs.length = sz) (h1 : ∀ x, x ∈ cs → x.one = true) (h : k (σ.set φ ⟨st, sz, es.set i cs⟩)) : sto sz (.ptr φ st i 0) v σ k := by
  unfold sto
  simp only [hv]
  refine ⟨hc, h1, _, hF, rfl, hi, by simp; omega, ?_⟩
  have : Fam.splice ⟨st, sz, es⟩ i 0 cs = ⟨st, sz, es.set i cs⟩ := by
    unfold Fam.splice
    have := spl_all cs (es.getD i []) [] (by omega)
    simp only [List.nil_append, List.length_nil] at this
    simp only [this]
  rw [this]; exact h
theorem idx_own {σ : AH} {φ st off n sz i : Nat} {es : List (List AV)} (hF : σ φ = some ⟨st, sz, es⟩) (hi : i < n) : idx sz (.own φ st off n) (.val (.int .i64 (i : Int))) σ = some (.ptr φ st (off + i) 0) := by
  simp only [idx, hF]
  rw [if_pos ⟨by omega, by omega, trivial, trivial⟩]
  simp
theorem take_rep_set {α : Type} {xs : List α} {z : α} {n i : Nat} (hn : xs.length = n) (hi : i < n) : (xs.take i ++ List.replicate (n - i) z).set i (xs[i]'(by omega)) = xs.take (i + 1) ++ List.replicate (n - (i + 1)) z := by
  subst hn
  apply List.ext_getElem?
  intro j
  rw [List.getElem?_set]
  have hl : (xs.take i).length = i := by simp; omega
  have hl' : (xs.take (i + 1)).length = i + 1 := by simp; omega
  by_cases h1 : i = j
  · subst h1
    rw [if_pos rfl, if_pos (by simp; omega), List.getElem?_append_left (by omega)]
    rw [List.getElem?_take, if_pos (by omega), List.getElem?_eq_getElem hi]
  · rw [if_neg h1]
    by_cases h2 : j < i
    · rw [List.getElem?_append_left (by omega), List.getElem?_append_left (by omega), List.getElem?_take, List.getElem?_take, if_pos h2, if_pos (by omega)]
    · rw [List.getElem?_append_right (by omega), List.getElem?_append_right (by omega), hl, hl', List.getElem?_replicate, List.getElem?_replicate]
      by_cases h3 : j < xs.length
      · rw [if_pos (by omega), if_pos (by omega)]
      · rw [if_neg (by omega), if_neg (by omega)]
theorem getD_rep {α : Type} {xs : List α} {z d : α} {n i : Nat} (hn : xs.length = n) (hi : i < n) : (xs.take i ++ List.replicate (n - i) z).getD i d = z := by
  have hl : (xs.take i).length = i := by simp; omega
  simp only [List.getD]
  rw [List.getElem?_append_right (by omega), List.getElem?_replicate, if_pos (by omega)]; rfl
theorem len_rep {α : Type} {xs : List α} {z : α} {n i : Nat} (hn : xs.length = n) (hi : i ≤ n) : (xs.take i ++ List.replicate (n - i) z).length = n := by
  simp; omega

/-! ### arguments of rows -/
theorem exists_map {α β : Type} {f : α → β} {Q : α → Prop} : ∀ (es : List β), (∀ c, c ∈ es → ∃ x, c = f x ∧ Q x) → ∃ xs : List α, es = xs.map f ∧ ∀ x, x ∈ xs → Q x := by
  intro es
  induction es with
  | nil => intro _; exact ⟨[], rfl, fun x hx => by cases hx⟩
  | cons c es ih =>
    intro h
    obtain ⟨x, rfl, hx⟩ := h c (List.mem_cons_self ..)
    obtain ⟨xs, rfl, hxs⟩ := ih fun d hd => h d (List.mem_cons_of_mem _ hd)
    refine ⟨x :: xs, rfl, fun y hy => ?_⟩
    rcases List.mem_cons.1 hy with rfl | hy
    · exact hx
    · exact hxs y hy
section
variable {P : Program} {m : Nat} {t e : TypeId} {as : List AV}
theorem dec_bool (hu : P.underlying t = some .bool) (h : Sh P (m + 1) t as) : ∃ b, as = [.val (.bool b)] := by
  simpa only [Sh, hu] using h
theorem dec_int {k : IntKind} (hu : P.underlying t = some (.int k)) (h : Sh P (m + 1) t as) : ∃ n, as = [.val (.int k n)] ∧ (Lit.int k n).wf = true := by
  simpa only [Sh, hu] using h
theorem dec_str (hu : P.underlying t = some .string) (h : Sh P (m + 1) t as) : ∃ s : ByteArray, as = [.val (.string s)] ∧ s.size ≤ maxLen := by
  simpa only [Sh, hu] using h
theorem dec_slice (hu : P.underlying t = some (.slice e)) (h : Sh P (m + 1) t as) : ∃ es, as = [.ro es] ∧ es.length ≤ maxLen ∧ ∀ c, c ∈ es → Sh P m e c := by
  simpa only [Sh, hu] using h
theorem dec_struct {fs : Array Field} (hu : P.underlying t = some (.struct fs)) (h : Sh P (m + 1) t as) : as.length = P.cellsOf t ∧ ∀ f, f ∈ fs.toList → Sh P m f.type ((as.drop f.offset).take (P.cellsOf f.type)) := by
  simpa only [Sh, hu] using h
theorem wrapA_struct {fs : Array Field} (hu : P.underlying t = some (.struct fs)) : wrapA P t as = .agg as := by simp only [wrapA, hu]
theorem wrapA_slice (hu : P.underlying t = some (.slice e)) (x : AV) : wrapA P t [x] = x := by simp only [wrapA, hu]; rfl
theorem wrapA_int {k : IntKind} (hu : P.underlying t = some (.int k)) (x : AV) : wrapA P t [x] = x := by simp only [wrapA, hu]; rfl
theorem wrapA_bool (hu : P.underlying t = some .bool) (x : AV) : wrapA P t [x] = x := by simp only [wrapA, hu]; rfl
theorem wrapA_str (hu : P.underlying t = some .string) (x : AV) : wrapA P t [x] = x := by simp only [wrapA, hu]; rfl
/-- A list of texts. -/
theorem dec_strs {e : TypeId} (hu : P.underlying t = some (.slice e)) (he : P.underlying e = some .string) (h : Sh P (m + 2) t as) :
    ∃ ss : List ByteArray, as = [.ro (ss.map fun s => [str s])] ∧ ss.length ≤ maxLen ∧ ∀ s, s ∈ ss → s.size ≤ maxLen := by
  obtain ⟨es, rfl, hl, hes⟩ := dec_slice hu h
  obtain ⟨ss, rfl, hss⟩ := exists_map (f := fun s : ByteArray => [str s]) (Q := fun s => s.size ≤ maxLen) es fun c hc => dec_str he (hes c hc)
  exact ⟨ss, rfl, by simpa using hl, hss⟩
/-- A list of whole numbers. -/
theorem dec_ints {e : TypeId} {k : IntKind} (hu : P.underlying t = some (.slice e)) (he : P.underlying e = some (.int k)) (h : Sh P (m + 2) t as) :
    ∃ ns : List Int, as = [.ro (ns.map fun n => [.val (.int k n)])] ∧ ns.length ≤ maxLen ∧ ∀ n, n ∈ ns → (Lit.int k n).wf = true := by
  obtain ⟨es, rfl, hl, hes⟩ := dec_slice hu h
  obtain ⟨ns, rfl, hns⟩ := exists_map (f := fun n : Int => [AV.val (.int k n)]) (Q := fun n => (Lit.int k n).wf = true) es fun c hc => dec_int he (hes c hc)
  exact ⟨ns, rfl, by simpa using hl, hns⟩
end
end Go.Proofs.Ytjfdgijgkbojnaa.E
