/- The engine, part 19: operations that only reckon or read, as functions. -/
import Derived.Test.YtjfdgijgkbojnaaE18
import Derived.Orders
set_option linter.unusedSectionVars false
namespace Go.Proofs.Ytjfdgijgkbojnaa.E
open Go Go.RowKit
variable [Lam]

def aeqlV (T : Tab) (t : TypeId) (x y : AV) : Option Bool :=
  match T t with
  | some ti => match ti.under, x, y with
    | .slice _, .own _ _ _ _, .val (.slice none 0 0) => some false
    | .slice _, .vw _ _ _ _, .val (.slice none 0 0) => some false
    | .slice _, .ro (_ :: _), .val (.slice none 0 0) => some false
    | .slice _, .val (.slice none 0 0), .val (.slice none 0 0) => some true
    | .pointer _, .ptr _ _ _ _, .val (.pointer none) => some false
    | .pointer _, .rop _ _, .val (.pointer none) => some false
    | .pointer _, .val (.pointer none), .val (.pointer none) => some true
    | .func _ _ _, .clo _ _ _, .val .nilFunc => some false
    | .func _ _ _, .val .nilFunc, .val .nilFunc => some true
    | .bool, .val (.bool a), .val (.bool b) => some (a == b)
    | .struct _, .agg xs, .agg ys => match ti.cmp, aeq T 8 t (.agg xs) (.agg ys) with
      | true, some b => some b
      | _, _ => none
    | _, _, _ => none
  | none => none
def abinV (T : Tab) (op : BinOp) (t : TypeId) (x y : AV) : Option AV := match op with
  | .eql => (aeqlV T t x y).map fun b => .val (.bool b)
  | .neq => (aeqlV T t x y).map fun b => .val (.bool !b)
  | _ => none
def plain (x : AV) : Bool := match x with
  | .val (.int _ _) | .val (.string _) => false
  | _ => true
def cmpV (T : Tab) (op : BinOp) (t : TypeId) (x y : AV) : Option AV := match plain x with | true => abinV T op t x y | false => none
theorem aeqlV_ok {T : Tab} {t : TypeId} {x y : AV} {b : Bool} {k : Bool → Prop} (h : aeqlV T t x y = some b) (hk : k b) : aeql T t x y k := by
  unfold aeqlV at h
  split at h
  case h_2 => cases h
  rename_i ti ht
  unfold aeql
  simp only [ht]
  split at h
  · rename_i e; simp only [e]; obtain rfl := Option.some.inj h; exact hk
  · rename_i e; simp only [e]; obtain rfl := Option.some.inj h; exact hk
  · rename_i e; simp only [e]; obtain rfl := Option.some.inj h
    intro b hb; rw [hb (by simp)]; exact hk
  · rename_i e; simp only [e]; obtain rfl := Option.some.inj h; exact hk
  · rename_i e; simp only [e]; obtain rfl := Option.some.inj h; exact hk
  · rename_i e; simp only [e]; obtain rfl := Option.some.inj h; exact hk
  · rename_i e; simp only [e]; obtain rfl := Option.some.inj h; exact hk
  · rename_i e; simp only [e]; obtain rfl := Option.some.inj h; exact hk
  · rename_i e; simp only [e]; obtain rfl := Option.some.inj h; exact hk
  · rename_i e; simp only [e]; obtain rfl := Option.some.inj h; exact hk
  · rename_i e
    split at h
    · rename_i e1 e2; obtain rfl := Option.some.inj h; simp only [e, e1, e2]; exact hk
    · cases h
  · cases h
theorem abinV_ok {T : Tab} {op : BinOp} {t : TypeId} {x y v : AV} {k : AV → Prop} (hp : plain x = true) (h : abinV T op t x y = some v) (hk : k v) : abin T op t x y k := by
  unfold abinV at h
  unfold abin
  split
  · cases hp
  · cases hp
  · split at h
    · obtain ⟨b, h1, rfl⟩ := Option.map_eq_some_iff.mp h
      exact aeqlV_ok h1 hk
    · obtain ⟨b, h1, rfl⟩ := Option.map_eq_some_iff.mp h
      exact aeqlV_ok h1 hk
    · cases h

/-- What an operation yields that only reckons or reads. -/
def bval (T : Tab) (o : Op) (ev : Operand → AV) (σ : AH) : Option AV :=
  match o with
  | .move x | .assign x => some (ev x)
  | .pick c a b => pickV (ev c) (ev a) (ev b)
  | .build t ps => match T t with
    | some ti => match ti.under with
      | .struct fs => match aplaces T fs.toList with
        | some pl => bld (ti.zero.cells.toList.map .val) pl (ps.toList.map fun p => (p.1, ev p.2))
        | none => none
      | _ => none
    | none => none
  | .load t a => match T t with
    | some ti => match isAggD ti.under, ti.size with
      | true, n => lodA n (ev a) σ
      | false, 1 => lod (ev a) σ
      | _, _ => none
    | none => none
  | .nilCheck x => anil (ev x)
  | .binOp op t x y _ => match isInt T t, isStr T t with
    | true, _ => ibin op (ev x) (ev y)
    | _, true => sbin op (ev x) (ev y)
    | _, _ => cmpV T op t (ev x) (ev y)
  | .unOp op _ x => aun op (ev x)
  | .convert s d x => match isInt T s, isInt T d, ev x with
    | true, true, .val (.int _ n) => match T d with
      | some td => match td.under with | .int kd => some (.val (.int kd (kd.wrap n))) | _ => none
      | none => none
    | _, _, _ => none
  | .slice t x lo hi mx => match sliceOf T t, isStr T t, mx with
    | some te, _, _ => slc te.size (ev x) (lo.map ev) (hi.map ev) (mx.map ev) σ
    | _, true, none => slcStr (ev x) (lo.map ev) (hi.map ev)
    | _, _, _ => none
  | .fieldAddr t x f => match fldOf T t f with
    | some (o, _ + 1, _) => fldA o (ev x)
    | _ => none
  | .field t x f => match fldOf T t f with
    | some (o, n, true) => fldG o n (ev x)
    | some (o, _, false) => fldV o (ev x)
    | none => none
  | .indexAddr t x i => match sliceOf T t with
    | some te => idx te.size (ev x) (ev i) σ
    | none => match T t with
      | some ti => match ti.under with
        | .array len e => match T e with
          | some te => idxArr len te.size (ev x) (ev i)
          | none => none
        | _ => none
      | none => none
  | .index t x i => match isStr T t with
    | true => idxStr (ev x) (ev i)
    | false => none
  | .extract x i => aext (ev x) i
  | .call c => match c.callee with
    | .builtin b => match b, c.args.toList with
      | .len, [x] => match c.argTypes[0]? with
        | some t => match sliceOf T t, isStr T t with
          | some _, _ => lenS (ev x)
          | _, true => lenStr (ev x)
          | _, _ => none
        | none => none
      | .max, [x, y] => amm true (ev x) (ev y)
      | .min, [x, y] => amm false (ev x) (ev y)
      | _, _ => none
    | _ => none
  | _ => none
/-- Such operations; of them, those that read the heap. -/
def silent (o : Op) : Bool := match o with
  | .move _ | .assign _ | .pick _ _ _ | .build _ _ | .load _ _ | .nilCheck _ | .binOp _ _ _ _ _ | .unOp _ _ _ | .convert _ _ _ | .slice _ _ _ _ _ | .fieldAddr _ _ _ | .field _ _ _ | .indexAddr _ _ _ | .index _ _ _ | .extract _ _ => true
  | .call c => match c.callee with
    | .builtin .len | .builtin .max | .builtin .min => true
    | _ => false
  | _ => false
def reads (o : Op) : Bool := match o with
  | .load _ _ | .slice _ _ _ _ _ | .indexAddr _ _ _ => true
  | _ => false

theorem bval_bop {P : Program} {T : Tab} {o : Op} {ev : Operand → AV} {σ : AH} {K : AEnd → AH → Prop} {v : AV} (h : bval T o ev σ = some v) (hk : K (.ret v) σ) : bop P T o ev σ K := by
  have og1 : ∀ {x : Option AV}, x = some v → og x (fun v => K (.ret v) σ) := by intro x e; rw [e]; exact hk
  unfold bval at h
  unfold bop
  split at h
  · obtain rfl := Option.some.inj h; exact hk
  · obtain rfl := Option.some.inj h; exact hk
  · exact og1 h
  · split at h
    case h_2 => cases h
    rename_i ti ht
    split at h
    case h_2 => cases h
    rename_i fs hfs
    split at h
    case h_2 => cases h
    rename_i pl hpl
    simp only [ht, hfs, hpl]; exact og1 h
  · split at h
    case h_2 => cases h
    rename_i ti ht
    split at h
    · rename_i n ha; simp only [ht, ha]; exact og1 h
    · rename_i ha hs; simp only [ht, ha, hs]; exact og1 h
    · cases h
  · exact og1 h
  · split at h
    · rename_i hi; simp only [hi]; exact og1 h
    · rename_i hi hs; simp only [hi]; exact og1 h
    · unfold cmpV at h
      split at h
      · rename_i hi hs _ hp; simp only; exact abinV_ok hp h hk
      · cases h
  · exact og1 h
  · split at h
    case h_2 => cases h
    rename_i hs hd hx
    split at h
    case h_2 => cases h
    rename_i td htd
    split at h
    case h_2 => cases h
    rename_i kd hkd
    obtain rfl := Option.some.inj h
    unfold isInt at hs
    split at hs
    case h_2 => cases hs
    rename_i ts hts
    simp only [aop]
    unfold aconv
    simp only [hts, htd, hkd, hx]
    exact hk
  · split at h
    · rename_i hs; simp only [hs]; exact og1 h
    · rename_i hs _; simp only [hs]; exact og1 h
    · cases h
  · split at h
    · rename_i hf; simp only [hf]; exact og1 h
    · cases h
  · split at h
    · rename_i hf; simp only [hf]; exact og1 h
    · rename_i hf; simp only [hf]; exact og1 h
    · cases h
  · split at h
    · rename_i hs; simp only [hs]; exact og1 h
    · rename_i hs
      split at h
      case h_2 => cases h
      rename_i ti ht
      split at h
      case h_2 => cases h
      rename_i len e he
      split at h
      case h_2 => cases h
      rename_i te hte
      simp only [hs, ht, he, hte]; exact og1 h
  · split at h
    · rename_i hs; simp only [hs]; exact og1 h
    · cases h
  · simp only [aop]; exact og1 h
  · split at h
    case h_2 => cases h
    rename_i b hc
    simp only [hc]
    split at h
    · rename_i hx
      simp only [hx]
      split at h
      case h_2 => cases h
      rename_i t ht
      simp only [ht]
      split at h
      · rename_i h1; simp only [h1]; exact og1 h
      · rename_i h1 h2; simp only [h1]; exact og1 h
      · cases h
    · rename_i hx; simp only [hx]; exact og1 h
    · rename_i hx; simp only [hx]; exact og1 h
    · cases h
  · cases h
theorem bval_still {T : Tab} {o : Op} (hr : reads o = false) (ev : Operand → AV) (σ σ' : AH) : bval T o ev σ = bval T o ev σ' := by
  cases o <;> first | rfl | cases hr

/-! ### in a region that draws its order: slices written out that nobody writes, texts of such -/
def bslR (sz : Nat) (z : List AV) (n : Nat) (ps : List (Nat × AV)) : Option AV := match afillS sz (List.replicate n z) ps with
  | some es => if n * sz ≤ 2 ^ 24 ∧ (∀ c, c ∈ es → c.length = sz) then some (.ro es) else none
  | none => none
def b2s (x : AV) : Option AV := match x with
  | .ro es => (abytes es).map fun bs => .val (.string ⟨bs.toArray⟩)
  | _ => none
def bytesT (T : Tab) (s d : TypeId) : Bool := match T s, T d with
  | some ts, some td => match ts.under, td.under with
    | .slice e, .string => match T e with
      | some te => match te.under with
        | .int .u8 => Nat.beq te.size 1
        | _ => false
      | none => false
    | _, _ => false
  | _, _ => false
def silentD (o : Op) : Bool := match o with
  | .buildSlice _ _ _ => true
  | o => silent o
def bvalD (T : Tab) (o : Op) (ev : Operand → AV) (σ : AH) : Option AV := match o with
  | .buildSlice t n ps => match sliceOf T t with
    | some te => bslR te.size (te.zero.cells.toList.map .val) n (ps.toList.map fun p => (p.1, ev p.2))
    | none => none
  | .convert s d x => match bytesT T s d with
    | true => b2s (ev x)
    | false => bval T (.convert s d x) ev σ
  | o => bval T o ev σ
theorem silentD_false {o : Op} (h : silentD o = false) : silent o = false := by
  unfold silentD at h
  split at h
  · cases h
  · exact h
theorem bvalD_still {T : Tab} {o : Op} (hr : reads o = false) (ev : Operand → AV) (σ σ' : AH) : bvalD T o ev σ = bvalD T o ev σ' := by
  cases o <;> first | rfl | cases hr
end Go.Proofs.Ytjfdgijgkbojnaa.E
