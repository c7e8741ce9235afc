/- The engine, part 1: abstract values, abstract heaps, and what it is for a world to be one of them. -/
import Derived.Below
import Derived.Laws.Sem
import Derived.Laws.World
import Derived.Laws.Cells
import Derived.RangeFuncOwn
set_option linter.unusedSectionVars false
namespace Go.Proofs.Ytjfdgijgkbojnaa.E
open Go Go.RowKit

/-- An abstract value. `ro`: a slice that nobody writes, element by element, each with its cells; `rop`: a pointer into such cells; `own`, `ptr`: a slice, a pointer of a family of the abstract heap; `vw`: a slice of a family that is only read. -/
inductive AV where
  | val (v : Value)
  | agg (cs : List AV)
  | tup (cs : List AV)
  | ro (es : List (List AV))
  | rop (cs : List AV) (off : Nat)
  | own (φ st off n : Nat)
  | ptr (φ st i off : Nat)
  | clo (fn : Fn) (first cap : List AV)
  | ifc (t : TypeId) (v : AV)
  | emp
  | any
  | yld (l : Nat)
  | vw (φ st off n : Nat)
  deriving Inhabited

structure Reg where
  b : Nat
  base : Nat
  lo : Nat
  cap : Nat
  sz : Nat

/-- What is told of a world beside it: where families are, which memory stays as it is. -/
structure Kap where
  ρ : Nat → Nat → Option Reg
  M : Nat → Nat → Option Value
  B : Nat
  W : World

inductive VR (κ : Kap) : AV → Value → Prop
  | val (v : Value) : VR κ (.val v) v
  | agg {cs : List AV} {vs : List Value} (hl : cs.length = vs.length) (h : ∀ i, i < cs.length → VR κ (cs.getD i .any) (vs.getD i undef)) :
      VR κ (.agg cs) (.agg vs.toArray)
  | tup {cs : List AV} {vs : List Value} (hl : cs.length = vs.length) (h : ∀ i, i < cs.length → VR κ (cs.getD i .any) (vs.getD i undef)) :
      VR κ (.tup cs) (.tuple vs.toArray)
  | roEnd (a : Option Addr) : VR κ (.ro []) (.slice a 0 0)
  | ro {es : List (List AV)} {b off cap sz : Nat} {vals : Nat → Nat → Value} (hc : es.length ≤ cap)
      (hz : ∀ i, i < es.length → (es.getD i []).length = sz)
      (hm : ∀ i j, i < es.length → j < sz → κ.M b (off + i * sz + j) = some (vals i j))
      (hv : ∀ i j, i < es.length → j < sz → VR κ ((es.getD i []).getD j .any) (vals i j)) :
      VR κ (.ro es) (.slice (some ⟨b, off, none⟩) es.length cap)
  | rop {cs : List AV} {off b base : Nat} {vals : Nat → Value}
      (hm : ∀ j, j < cs.length → κ.M b (base + j) = some (vals j))
      (hv : ∀ j, j < cs.length → VR κ (cs.getD j .any) (vals j)) :
      VR κ (.rop cs off) (.pointer (some ⟨b, base + off, none⟩))
  | own {φ st off n : Nat} {r : Reg} (h : κ.ρ φ st = some r) (hlo : r.lo ≤ off) (hn : off + n ≤ r.lo + r.cap) :
      VR κ (.own φ st off n) (.slice (some ⟨r.b, r.base + (off - r.lo) * r.sz, none⟩) n (r.lo + r.cap - off))
  | ownEnd {φ st off : Nat} {r : Reg} {a : Addr} (h : κ.ρ φ st = some r) (hoff : off = r.lo + r.cap) :
      VR κ (.own φ st off 0) (.slice (some a) 0 0)
  | vw {φ st off n cap : Nat} {r : Reg} (h : κ.ρ φ st = some r) (hlo : r.lo ≤ off) (hn : off + n ≤ r.lo + r.cap) :
      VR κ (.vw φ st off n) (.slice (some ⟨r.b, r.base + (off - r.lo) * r.sz, none⟩) n cap)
  | ptr {φ st i off : Nat} {r : Reg} (h : κ.ρ φ st = some r) (hlo : r.lo ≤ i) :
      VR κ (.ptr φ st i off) (.pointer (some ⟨r.b, r.base + (i - r.lo) * r.sz + off, none⟩))
  | clo {fn : Fn} {first cap : List AV} {fs cs : List Value} (hl : first.length = fs.length) (hl2 : cap.length = cs.length)
      (h : ∀ i, i < first.length → VR κ (first.getD i .any) (fs.getD i undef))
      (h2 : ∀ i, i < cap.length → VR κ (cap.getD i .any) (cs.getD i undef)) :
      VR κ (.clo fn first cap) (.func fn fs.toArray cs.toArray)
  | ifc {t : TypeId} {a : AV} {v : Value} (h : VR κ a v) : VR κ (.ifc t a) (.iface t v)
  | emp (a : Option Addr) : VR κ .emp (.slice a 0 0)
  | any (v : Value) : VR κ .any v
  | yld (l : Nat) : VR κ (.yld l) (.func (.yield l) #[] #[])

structure Fam where
  st : Nat
  sz : Nat
  es : List (List AV)

abbrev AH := Nat → Option Fam

def AH.set (σ : AH) (φ : Nat) (F : Fam) : AH := fun i => if i = φ then some F else σ i
def AH.del (σ : AH) (φ : Nat) : AH := fun i => if i = φ then none else σ i
theorem AH.set_same (σ : AH) (φ : Nat) (F : Fam) : (σ.set φ F) φ = some F := by simp [AH.set]
theorem AH.set_ne (σ : AH) {φ ψ : Nat} (F : Fam) (h : ψ ≠ φ) : (σ.set φ F) ψ = σ ψ := by simp [AH.set, h]
theorem AH.del_same (σ : AH) (φ : Nat) : (σ.del φ) φ = none := by simp [AH.del]
theorem AH.del_ne (σ : AH) {φ ψ : Nat} (h : ψ ≠ φ) : (σ.del φ) ψ = σ ψ := by simp [AH.del, h]
theorem AH.set_none {σ : AH} {φ ψ : Nat} {F : Fam} : (σ.set φ F) ψ = none ↔ ψ ≠ φ ∧ σ ψ = none := by
  unfold AH.set
  by_cases h : ψ = φ <;> simp [h]
theorem AH.set_set (σ : AH) (φ : Nat) (F G : Fam) : (σ.set φ F).set φ G = σ.set φ G := by
  funext i; simp only [AH.set]; split <;> rfl
theorem AH.set_self {σ : AH} {φ : Nat} {F : Fam} (h : σ φ = some F) : σ.set φ F = σ := by
  funext i; simp only [AH.set]; split
  · rename_i e; rw [e, h]
  · rfl
theorem AH.set_comm (σ : AH) {φ ψ : Nat} (F G : Fam) (h : φ ≠ ψ) : (σ.set φ F).set ψ G = (σ.set ψ G).set φ F := by
  funext i; simp only [AH.set]; by_cases h1 : i = φ <;> by_cases h2 : i = ψ <;> simp_all

/-- One heap is a part of another one. -/
def AH.Sub (σ' σ : AH) : Prop := ∀ φ F, σ' φ = some F → σ φ = some F
theorem AH.Sub.refl (σ : AH) : AH.Sub σ σ := fun _ _ h => h
theorem AH.Sub.trans {a b c : AH} (h : AH.Sub a b) (k : AH.Sub b c) : AH.Sub a c := fun φ F h' => k φ F (h φ F h')
theorem AH.Sub.set {a b : AH} (h : AH.Sub a b) {φ : Nat} (F : Fam) (hn : a φ = none) : AH.Sub a (b.set φ F) := by
  intro ψ G hG
  have : ψ ≠ φ := by rintro rfl; rw [hn] at hG; cases hG
  rw [AH.set_ne _ _ this]; exact h ψ G hG
theorem AH.Sub.set_both {a b : AH} (h : AH.Sub a b) (φ : Nat) (F : Fam) : AH.Sub (a.set φ F) (b.set φ F) := by
  intro ψ G hG
  by_cases e : ψ = φ
  · subst e; rw [AH.set_same] at hG ⊢; exact hG
  · rw [AH.set_ne _ _ e] at hG ⊢; exact h ψ G hG
theorem AH.Sub.del (σ : AH) (φ : Nat) : AH.Sub (σ.del φ) σ := by
  intro ψ G hG
  by_cases e : ψ = φ
  · subst e; rw [AH.del_same] at hG; cases hG
  · rwa [AH.del_ne _ e] at hG

theorem AH.Sub.none {a b : AH} (h : AH.Sub a b) {φ : Nat} (hn : b φ = none) : a φ = none := by
  cases e : a φ with
  | none => rfl
  | some F => have := h φ F e; rw [hn] at this; cases this

structure Holds (κ : Kap) (F : Fam) (r : Reg) (w : World) : Prop where
  sz : r.sz = F.sz
  len : F.es.length ≤ r.lo + r.cap
  row : ∃ c e fz, w.heap[r.b]? = some (.cells c e fz) ∧ r.base + r.cap * r.sz ≤ c.size
  free : ∀ o, o < r.base + r.cap * r.sz → w.frozen? ⟨r.b, o, none⟩ = false
  esz : ∀ i, r.lo ≤ i → i < F.es.length → (F.es.getD i []).length = F.sz
  cell : ∀ i j, r.lo ≤ i → i < F.es.length → j < F.sz →
    ∃ v, w.cell? ⟨r.b, r.base + (i - r.lo) * r.sz + j, none⟩ = some v ∧ VR κ ((F.es.getD i []).getD j .any) v

structure Ext (κ κ' : Kap) : Prop where
  ρ : ∀ φ st r, κ.ρ φ st = some r → κ'.ρ φ st = some r
  M : ∀ b o v, κ.M b o = some v → κ'.M b o = some v
  B : κ'.B = κ.B
  W : κ'.W = κ.W
theorem Ext.refl (κ : Kap) : Ext κ κ := ⟨fun _ _ _ h => h, fun _ _ _ h => h, rfl, rfl⟩
theorem Ext.trans {a b c : Kap} (h : Ext a b) (k : Ext b c) : Ext a c :=
  ⟨fun φ st r x => k.ρ φ st r (h.ρ φ st r x), fun p o v x => k.M p o v (h.M p o v x), k.B.trans h.B, k.W.trans h.W⟩

/-- Ranges over functions that are under way: where each has its record, and what it holds between two rounds. -/
class Lam where
  lo : Nat → Option Obj
  kp : Kap → Prop
  kpm : ∀ κ κ', Ext κ κ' → kp κ → kp κ'
variable [Lam]
structure Rel (κ : Kap) (σ : AH) (w : World) : Prop where
  has : ∀ φ F, σ φ = some F → ∃ r, κ.ρ φ F.st = some r ∧ κ.B ≤ r.b ∧ Holds κ F r w
  inj : ∀ φ ψ F G r s, σ φ = some F → σ ψ = some G → κ.ρ φ F.st = some r → κ.ρ ψ G.st = some s → φ ≠ ψ → r.b ≠ s.b
  mem : ∀ b o v, κ.M b o = some v → w.cell? ⟨b, o, none⟩ = some v
  off : ∀ φ F r, σ φ = some F → κ.ρ φ F.st = some r → ∀ o, κ.M r.b o = none
  up : ∀ φ F st, σ φ = some F → F.st < st → κ.ρ φ st = none
  fin : ∃ N, ∀ φ, N ≤ φ → σ φ = none ∧ ∀ st, κ.ρ φ st = none
  bel : Below κ.B κ.W w
  bw : κ.B ≤ κ.W.heap.size
  obj : ∀ l o, Lam.lo l = some o → w.heap[l]? = some o ∧ o.isCells = false
  kp : Lam.kp κ

theorem VR.mono {κ κ' : Kap} (E : Ext κ κ') {a : AV} {v : Value} (h : VR κ a v) : VR κ' a v := by
  induction h with
  | val v => exact .val v
  | agg hl h ih => exact .agg hl ih
  | tup hl h ih => exact .tup hl ih
  | roEnd a => exact .roEnd a
  | ro hc hz hm hv ih => exact .ro hc hz (fun i j hi hj => E.M _ _ _ (hm i j hi hj)) ih
  | rop hm hv ih => exact .rop (fun j hj => E.M _ _ _ (hm j hj)) ih
  | own h hlo hn => exact .own (E.ρ _ _ _ h) hlo hn
  | ownEnd h ho => exact .ownEnd (E.ρ _ _ _ h) ho
  | vw h hlo hn => exact .vw (E.ρ _ _ _ h) hlo hn
  | ptr h hlo => exact .ptr (E.ρ _ _ _ h) hlo
  | clo hl hl2 h h2 ih ih2 => exact .clo hl hl2 ih ih2
  | ifc h ih => exact .ifc ih
  | emp a => exact .emp a
  | any v => exact .any v
  | yld l => exact .yld l

/-- What a step leaves alone. -/
structure Fra (κ : Kap) (σ : AH) (w : World) (κ' : Kap) (σ' : AH) (w' : World) : Prop where
  size : w.heap.size ≤ w'.heap.size
  blk : ∀ b, b < w.heap.size → (∀ φ F r, σ φ = some F → κ.ρ φ F.st = some r → r.b ≠ b) →
    w'.heap[b]? = w.heap[b]? ∧ (∀ o, κ'.M b o = κ.M b o) ∧ (∀ φ F r, σ' φ = some F → κ'.ρ φ F.st = some r → r.b ≠ b)
  ids : ∀ φ, σ φ = none → (∃ st r, κ.ρ φ st = some r) → σ' φ = none ∧ ∀ st, κ'.ρ φ st = κ.ρ φ st

structure Stp (κ : Kap) (σ : AH) (w : World) (κ' : Kap) (σ' : AH) (w' : World) : Prop where
  ext : Ext κ κ'
  rel : Rel κ' σ' w'
  fra : Fra κ σ w κ' σ' w'

theorem Stp.refl {κ : Kap} {σ : AH} {w : World} (h : Rel κ σ w) : Stp κ σ w κ σ w :=
  ⟨.refl κ, h, ⟨Nat.le_refl _, fun _ _ hb => ⟨rfl, fun _ => rfl, hb⟩, fun _ h _ => ⟨h, fun _ => rfl⟩⟩⟩
theorem Stp.trans {κ κ' κ'' : Kap} {σ σ' σ'' : AH} {w w' w'' : World} (h : Stp κ σ w κ' σ' w') (k : Stp κ' σ' w' κ'' σ'' w'') : Stp κ σ w κ'' σ'' w'' := by
  refine ⟨h.ext.trans k.ext, k.rel, ⟨Nat.le_trans h.fra.size k.fra.size, ?_, ?_⟩⟩
  · intro b hb hu
    obtain ⟨a1, a2, a3⟩ := h.fra.blk b hb hu
    obtain ⟨b1, b2, b3⟩ := k.fra.blk b (Nat.lt_of_lt_of_le hb h.fra.size) a3
    exact ⟨b1.trans a1, fun o => (b2 o).trans (a2 o), b3⟩
  · intro φ hn he
    obtain ⟨a1, a2⟩ := h.fra.ids φ hn he
    obtain ⟨st, r, hr⟩ := he
    obtain ⟨b1, b2⟩ := k.fra.ids φ a1 ⟨st, r, by rw [a2]; exact hr⟩
    exact ⟨b1, fun st => (b2 st).trans (a2 st)⟩

theorem Rel.sub {κ : Kap} {σ σ' : AH} {w : World} (h : Rel κ σ w) (s : AH.Sub σ' σ) : Rel κ σ' w where
  has := fun φ F hF => h.has φ F (s φ F hF)
  inj := fun φ ψ F G r t hF hG => h.inj φ ψ F G r t (s φ F hF) (s ψ G hG)
  mem := h.mem
  off := fun φ F r hF => h.off φ F r (s φ F hF)
  up := fun φ F st hF => h.up φ F st (s φ F hF)
  fin := by
    obtain ⟨N, hN⟩ := h.fin
    refine ⟨N, fun φ hφ => ⟨?_, (hN φ hφ).2⟩⟩
    cases e : σ' φ with
    | none => rfl
    | some F => have := s φ F e; rw [(hN φ hφ).1] at this; cases this
  bel := h.bel
  bw := h.bw
  obj := h.obj
  kp := h.kp
theorem Stp.sub {κ : Kap} {σ σ' : AH} {w : World} (h : Rel κ σ w) (s : AH.Sub σ' σ) : Stp κ σ w κ σ' w :=
  ⟨.refl κ, h.sub s, ⟨Nat.le_refl _, fun _ _ hb => ⟨rfl, fun _ => rfl, fun φ F r hF => hb φ F r (s φ F hF)⟩, fun _ hn _ =>
    ⟨s.none hn, fun _ => rfl⟩⟩⟩

theorem cell?_heap {w w' : World} {b : Nat} (h : w'.heap[b]? = w.heap[b]?) (o : Nat) : w'.cell? ⟨b, o, none⟩ = w.cell? ⟨b, o, none⟩ := by
  unfold World.cell?; simp only [h]
theorem frozen?_heap {w w' : World} {b : Nat} (h : w'.heap[b]? = w.heap[b]?) (o : Nat) : w'.frozen? ⟨b, o, none⟩ = w.frozen? ⟨b, o, none⟩ := by
  unfold World.frozen?; simp only [h]

theorem Holds.same {κ κ' : Kap} {F : Fam} {r : Reg} {w w' : World} (E : Ext κ κ') (h : Holds κ F r w) (e : w'.heap[r.b]? = w.heap[r.b]?) : Holds κ' F r w' where
  sz := h.sz
  len := h.len
  row := by rw [e]; exact h.row
  free := fun o ho => by rw [frozen?_heap e]; exact h.free o ho
  esz := h.esz
  cell := fun i j hi hj hk => by
    obtain ⟨v, h1, h2⟩ := h.cell i j hi hj hk
    exact ⟨v, by rw [cell?_heap e]; exact h1, h2.mono E⟩

/-- A world that differs in nothing that is looked at (a draw, say). -/
theorem Stp.world {κ : Kap} {σ : AH} {w w' : World} (h : Rel κ σ w) (hh : w'.heap = w.heap) (ho : w'.os = w.os) (ht : w'.tape = w.tape) (hu : w'.output = w.output) : Stp κ σ w κ σ w' := by
  refine ⟨.refl κ, ⟨?_, h.inj, ?_, h.off, h.up, h.fin, ?_, h.bw, fun l o hl => by rw [hh]; exact h.obj l o hl, h.kp⟩, ⟨by rw [hh]; exact Nat.le_refl _, ?_, fun _ hn _ => ⟨hn, fun _ => rfl⟩⟩⟩
  · intro φ F hF
    obtain ⟨r, h1, h2, h3⟩ := h.has φ F hF
    exact ⟨r, h1, h2, h3.same (.refl κ) (by rw [hh])⟩
  · intro b o v hm
    rw [cell?_heap (w := w) (w' := w') (by rw [hh])]; exact h.mem b o v hm
  · exact h.bel.trans ⟨ho, ht, hu, by rw [hh]; exact Nat.le_refl _, fun k _ => by rw [hh]⟩
  · intro b _ hb
    exact ⟨by rw [hh], fun _ => rfl, hb⟩
theorem Stp.drew {κ : Kap} {σ : AH} {w : World} (h : Rel κ σ w) : Stp κ σ w κ σ w.drew := .world h rfl rfl rfl rfl

theorem Rel.block_lt {κ : Kap} {σ : AH} {w : World} (h : Rel κ σ w) {φ : Nat} {F : Fam} {r : Reg} (hF : σ φ = some F) (hr : κ.ρ φ F.st = some r) : r.b < w.heap.size := by
  obtain ⟨r', h1, _, h3⟩ := h.has φ F hF
  rw [hr] at h1
  obtain rfl := Option.some.inj h1
  obtain ⟨c, e, fz, hh, _⟩ := h3.row
  rcases Nat.lt_or_ge r.b w.heap.size with h' | h'
  · exact h'
  · rw [Array.getElem?_eq_none h'] at hh; cases hh
theorem Rel.mem_lt {κ : Kap} {σ : AH} {w : World} (h : Rel κ σ w) {b o : Nat} {v : Value} (hm : κ.M b o = some v) : b < w.heap.size :=
  World.block_lt_of_cell? (h := h.mem b o v hm)
theorem Rel.bsize {κ : Kap} {σ : AH} {w : World} (h : Rel κ σ w) : κ.B ≤ w.heap.size := Nat.le_trans h.bw h.bel.size

/-- Where a family is told to be. -/
def Kap.put (κ : Kap) (φ st : Nat) (r : Reg) : Kap := { κ with ρ := fun ψ t => if ψ = φ ∧ t = st then some r else κ.ρ ψ t }
theorem Kap.put_same (κ : Kap) (φ st : Nat) (r : Reg) : (κ.put φ st r).ρ φ st = some r := by simp [Kap.put]
theorem Kap.put_ne (κ : Kap) {φ st : Nat} (r : Reg) {ψ t : Nat} (h : ¬ (ψ = φ ∧ t = st)) : (κ.put φ st r).ρ ψ t = κ.ρ ψ t := by simp [Kap.put, h]
theorem Kap.put_ext {κ : Kap} {φ st : Nat} (r : Reg) (h : κ.ρ φ st = none) : Ext κ (κ.put φ st r) := by
  refine ⟨fun ψ t s hs => ?_, fun _ _ _ h => h, rfl, rfl⟩
  rw [Kap.put_ne]; · exact hs
  rintro ⟨rfl, rfl⟩; rw [h] at hs; cases hs

/-- A family takes another row, which is new or its own: what is asked of it. -/
theorem Stp.turn {κ : Kap} {σ : AH} {w w' : World} (h : Rel κ σ w) {φ : Nat} {F' : Fam} {r : Reg}
    (hnew : κ.ρ φ F'.st = none ∨ κ.ρ φ F'.st = some r)
    (hst : ∀ st, F'.st < st → κ.ρ φ st = none)
    (hown : (∃ F s, σ φ = some F ∧ κ.ρ φ F.st = some s ∧ s.b = r.b) ∨ (w.heap.size ≤ r.b ∧ (σ φ = none → ∀ st, κ.ρ φ st = none)))
    (hsize : w.heap.size ≤ w'.heap.size)
    (hblk : ∀ b, b < w.heap.size → b ≠ r.b → w'.heap[b]? = w.heap[b]?)
    (hos : w'.os = w.os) (htape : w'.tape = w.tape) (hout : w'.output = w.output)
    (hh : Holds (κ.put φ F'.st r) F' r w') : Stp κ σ w (κ.put φ F'.st r) (σ.set φ F') w' := by
  have hE : Ext κ (κ.put φ F'.st r) := by
    rcases hnew with e | e
    · exact Kap.put_ext r e
    · refine ⟨fun ψ t s hs => ?_, fun _ _ _ h => h, rfl, rfl⟩
      by_cases c : ψ = φ ∧ t = F'.st
      · obtain ⟨rfl, rfl⟩ := c; rw [Kap.put_same, ← hs, e]
      · rw [Kap.put_ne _ _ c]; exact hs
  -- the row is none that another family has, and none of the memory that stays
  have hother : ∀ ψ G s, ψ ≠ φ → σ ψ = some G → κ.ρ ψ G.st = some s → s.b ≠ r.b := by
    intro ψ G s hne hG hs
    rcases hown with ⟨F, t, hF, ht, hb⟩ | ⟨hb, _⟩
    · rw [← hb]; exact h.inj ψ φ G F s t hG hF hs ht hne
    · have := h.block_lt hG hs; omega
  have hmem : ∀ o, κ.M r.b o = none := by
    intro o
    rcases hown with ⟨F, t, hF, ht, hb⟩ | ⟨hb, _⟩
    · rw [← hb]; exact h.off φ F t hF ht o
    · cases e : κ.M r.b o with
      | none => rfl
      | some v => have := h.mem_lt e; omega
  have hB : κ.B ≤ r.b := by
    rcases hown with ⟨F, t, hF, ht, hb⟩ | ⟨hb, _⟩
    · obtain ⟨t', h1, h2, _⟩ := h.has φ F hF
      rw [ht] at h1; obtain rfl := Option.some.inj h1; omega
    · have := h.bsize; omega
  have hput : ∀ ψ G s, (σ.set φ F') ψ = some G → (κ.put φ F'.st r).ρ ψ G.st = some s → (ψ = φ ∧ G = F' ∧ s = r) ∨ (ψ ≠ φ ∧ σ ψ = some G ∧ κ.ρ ψ G.st = some s) := by
    intro ψ G s hG hs
    by_cases e : ψ = φ
    · subst e; rw [AH.set_same] at hG; obtain rfl := Option.some.inj hG
      rw [Kap.put_same] at hs; exact .inl ⟨rfl, rfl, (Option.some.inj hs).symm⟩
    · rw [AH.set_ne _ _ e] at hG; rw [Kap.put_ne _ _ (fun c => e c.1)] at hs; exact .inr ⟨e, hG, hs⟩
  have hobj : ∀ l o, Lam.lo l = some o → w'.heap[l]? = some o ∧ o.isCells = false := by
    intro l o hl
    obtain ⟨h1, h2⟩ := h.obj l o hl
    have hlt := (Array.getElem?_eq_some_iff.1 h1).1
    refine ⟨?_, h2⟩
    rw [hblk l hlt ?_]; · exact h1
    rintro rfl
    rcases hown with ⟨F, t, hF, ht, hb⟩ | ⟨hb, _⟩
    · obtain ⟨t', g1, _, g3⟩ := h.has φ F hF
      rw [ht] at g1; obtain rfl := Option.some.inj g1
      obtain ⟨c, e, fz, hh, _⟩ := g3.row
      rw [hb, h1] at hh; obtain rfl := Option.some.inj hh
      cases h2
    · omega
  refine ⟨hE, ⟨?_, ?_, ?_, ?_, ?_, ?_, ?_, h.bw, hobj, Lam.kpm _ _ hE h.kp⟩, ⟨hsize, ?_, ?_⟩⟩
  · intro ψ G hG
    by_cases e : ψ = φ
    · subst e; rw [AH.set_same] at hG; obtain rfl := Option.some.inj hG
      exact ⟨r, Kap.put_same .., hB, hh⟩
    · rw [AH.set_ne _ _ e] at hG
      obtain ⟨s, h1, h2, h3⟩ := h.has ψ G hG
      refine ⟨s, by rw [Kap.put_ne _ _ (fun c => e c.1)]; exact h1, h2, h3.same hE (hblk _ (h.block_lt hG h1) (hother ψ G s e hG h1))⟩
  · intro φ1 φ2 F1 F2 s1 s2 hF1 hF2 hs1 hs2 hne
    rcases hput _ _ _ hF1 hs1 with ⟨rfl, rfl, rfl⟩ | ⟨n1, a1, b1⟩ <;> rcases hput _ _ _ hF2 hs2 with ⟨rfl, rfl, rfl⟩ | ⟨n2, a2, b2⟩
    · exact absurd rfl hne
    · exact (hother _ _ _ n2 a2 b2).symm
    · exact hother _ _ _ n1 a1 b1
    · exact h.inj _ _ _ _ _ _ a1 a2 b1 b2 hne
  · intro b o v hm
    have hb : b ≠ r.b := by rintro rfl; have := hmem o; rw [show κ.M r.b o = some v from hm] at this; cases this
    rw [cell?_heap (hblk b (h.mem_lt (show κ.M b o = some v from hm)) hb)]; exact h.mem b o v hm
  · intro ψ G s hG hs o
    rcases hput _ _ _ hG hs with ⟨rfl, rfl, rfl⟩ | ⟨_, a2, b2⟩
    · exact hmem o
    · exact h.off _ _ _ a2 b2 o
  · intro ψ G st hG hlt
    by_cases e : ψ = φ
    · subst e; rw [AH.set_same] at hG; obtain rfl := Option.some.inj hG
      rw [Kap.put_ne _ _ (fun c => by omega)]; exact hst st hlt
    · rw [AH.set_ne _ _ e] at hG; rw [Kap.put_ne _ _ (fun c => e c.1)]; exact h.up ψ G st hG hlt
  · obtain ⟨N, hN⟩ := h.fin
    refine ⟨max N (φ + 1), fun ψ hψ => ?_⟩
    have h1 : ψ ≠ φ := by omega
    rw [AH.set_ne _ _ h1]
    exact ⟨(hN ψ (by omega)).1, fun st => by rw [Kap.put_ne _ _ (fun c => h1 c.1)]; exact (hN ψ (by omega)).2 st⟩
  · refine h.bel.trans ⟨hos, htape, hout, hsize, fun k hk => ?_⟩
    have : k < κ.B := hk
    exact hblk k (Nat.lt_of_lt_of_le hk h.bsize) (by omega)
  · intro b hb hu
    have hbr : b ≠ r.b := by
      rcases hown with ⟨F, t, hF, ht, e⟩ | ⟨e, _⟩
      · rw [← e]; exact (hu φ F t hF ht).symm
      · omega
    refine ⟨hblk b hb hbr, fun _ => rfl, ?_⟩
    intro ψ G s hG hs
    rcases hput _ _ _ hG hs with ⟨rfl, rfl, rfl⟩ | ⟨_, a2, b2⟩
    · exact hbr.symm
    · exact hu _ _ _ a2 b2
  · intro ψ hn he
    have h1 : ψ ≠ φ := by
      rintro rfl
      rcases hown with ⟨F, _, hF, _⟩ | ⟨_, e⟩
      · rw [hn] at hF; cases hF
      · obtain ⟨st, s, hs⟩ := he; rw [e hn st] at hs; cases hs
    rw [AH.set_ne _ _ h1]
    exact ⟨hn, fun st => Kap.put_ne _ _ (fun c => h1 c.1)⟩

end Go.Proofs.Ytjfdgijgkbojnaa.E
