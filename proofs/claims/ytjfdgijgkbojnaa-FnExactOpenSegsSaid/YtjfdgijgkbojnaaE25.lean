/- The engine, part 25: what an operation yields, as syntax. -/
import Derived.Test.YtjfdgijgkbojnaaE24
set_option linter.unusedSectionVars false
namespace Go.Proofs.Ytjfdgijgkbojnaa.E
open Go Go.RowKit
variable [Lam]

inductive OE (α : Type) where
  | ret (x : α)
  | pickV (c a b : α)
  | bld (zs : List AV) (pl : List (Nat × Nat)) (ps : List (Nat × α))
  | lod (p : α)
  | lodA (n : Nat) (p : α)
  | anil (x : α)
  | ibin (op : BinOp) (x y : α)
  | sbin (op : BinOp) (x y : α)
  | cmpV (op : BinOp) (t : TypeId) (x y : α)
  | aun (op : UnOp) (x : α)
  | conv (k : IntKind) (x : α)
  | slc (sz : Nat) (x : α) (lo hi mx : Option α)
  | slcStr (x : α) (lo hi : Option α)
  | fldA (o : Nat) (x : α)
  | fldG (o n : Nat) (x : α)
  | fldV (o : Nat) (x : α)
  | idx (sz : Nat) (x i : α)
  | idxArr (n sz : Nat) (x i : α)
  | idxStr (x i : α)
  | aext (x : α) (i : Nat)
  | lenS (x : α)
  | lenStr (x : α)
  | amm (b : Bool) (x y : α)
  | bslR (sz : Nat) (z : List AV) (n : Nat) (ps : List (Nat × α))
  | b2s (x : α)
def convI (k : IntKind) (x : AV) : Option AV := match x with
  | .val (.int _ n) => some (.val (.int k (k.wrap n)))
  | _ => none
def dE (T : Tab) {α : Type} (f : α → AV) (σ : AH) : OE α → Option AV
  | .ret x => some (f x)
  | .pickV c a b => E.pickV (f c) (f a) (f b)
  | .bld zs pl ps => E.bld zs pl (ps.map fun p => (p.1, f p.2))
  | .lod p => E.lod (f p) σ
  | .lodA n p => E.lodA n (f p) σ
  | .anil x => E.anil (f x)
  | .ibin op x y => E.ibin op (f x) (f y)
  | .sbin op x y => E.sbin op (f x) (f y)
  | .cmpV op t x y => E.cmpV T op t (f x) (f y)
  | .aun op x => E.aun op (f x)
  | .conv k x => convI k (f x)
  | .slc sz x lo hi mx => E.slc sz (f x) (lo.map f) (hi.map f) (mx.map f) σ
  | .slcStr x lo hi => E.slcStr (f x) (lo.map f) (hi.map f)
  | .fldA o x => E.fldA o (f x)
  | .fldG o n x => E.fldG o n (f x)
  | .fldV o x => E.fldV o (f x)
  | .idx sz x i => E.idx sz (f x) (f i) σ
  | .idxArr n sz x i => E.idxArr n sz (f x) (f i)
  | .idxStr x i => E.idxStr (f x) (f i)
  | .aext x i => E.aext (f x) i
  | .lenS x => E.lenS (f x)
  | .lenStr x => E.lenStr (f x)
  | .amm b x y => E.amm b (f x) (f y)
  | .bslR sz z n ps => E.bslR sz z n (ps.map fun p => (p.1, f p.2))
  | .b2s x => E.b2s (f x)
/-- An operation that only reckons or reads, as syntax. -/
def symE (T : Tab) (o : Op) (ev : Operand → SV) : Option (OE SV) :=
  match o with
  | .move x | .assign x => some (.ret (ev x))
  | .pick c a b => some (.pickV (ev c) (ev a) (ev b))
  | .build t ps => match T t with
    | some ti => match ti.under with
      | .struct fs => match aplaces T fs.toList with
        | some pl => some (.bld (ti.zero.cells.toList.map .val) pl (ps.toList.map fun p => (p.1, ev p.2)))
        | none => none
      | _ => none
    | none => none
  | .load t a => match T t with
    | some ti => match isAggD ti.under, ti.size with
      | true, n => some (.lodA n (ev a))
      | false, 1 => some (.lod (ev a))
      | _, _ => none
    | none => none
  | .nilCheck x => some (.anil (ev x))
  | .binOp op t x y _ => match isInt T t, isStr T t with
    | true, _ => some (.ibin op (ev x) (ev y))
    | _, true => some (.sbin op (ev x) (ev y))
    | _, _ => some (.cmpV op t (ev x) (ev y))
  | .unOp op _ x => some (.aun op (ev x))
  | .convert s d x => match isInt T s, isInt T d with
    | true, true => match T d with
      | some td => match td.under with | .int kd => some (.conv kd (ev x)) | _ => none
      | none => none
    | _, _ => none
  | .slice t x lo hi mx => match sliceOf T t, isStr T t, mx with
    | some te, _, _ => some (.slc te.size (ev x) (lo.map ev) (hi.map ev) (mx.map ev))
    | _, true, none => some (.slcStr (ev x) (lo.map ev) (hi.map ev))
    | _, _, _ => none
  | .fieldAddr t x f => match fldOf T t f with
    | some (o, _ + 1, _) => some (.fldA o (ev x))
    | _ => none
  | .field t x f => match fldOf T t f with
    | some (o, n, true) => some (.fldG o n (ev x))
    | some (o, _, false) => some (.fldV o (ev x))
    | none => none
  | .indexAddr t x i => match sliceOf T t with
    | some te => some (.idx te.size (ev x) (ev i))
    | none => match T t with
      | some ti => match ti.under with
        | .array len e => match T e with
          | some te => some (.idxArr len te.size (ev x) (ev i))
          | none => none
        | _ => none
      | none => none
  | .index t x i => match isStr T t with
    | true => some (.idxStr (ev x) (ev i))
    | false => none
  | .extract x i => some (.aext (ev x) i)
  | .call c => match c.callee with
    | .builtin b => match b, c.args.toList with
      | .len, [x] => match c.argTypes[0]? with
        | some t => match sliceOf T t, isStr T t with
          | some _, _ => some (.lenS (ev x))
          | _, true => some (.lenStr (ev x))
          | _, _ => none
        | none => none
      | .max, [x, y] => some (.amm true (ev x) (ev y))
      | .min, [x, y] => some (.amm false (ev x) (ev y))
      | _, _ => none
    | _ => none
  | _ => none
theorem symE_ok {T : Tab} {o : Op} {ev : Operand → SV} {e : OE SV} (h : symE T o ev = some e) (f : SV → AV) {ev' : Operand → AV} (hev : ∀ x, ev' x = f (ev x)) (σ : AH) : dE T f σ e = bval T o ev' σ := by
  have hf : ev' = fun x => f (ev x) := funext hev
  subst hf
  have om : ∀ (x : Option Operand), x.map (fun x => f (ev x)) = (x.map ev).map f := fun x => by cases x <;> rfl
  unfold symE at h
  unfold bval
  split at h
  · obtain rfl := Option.some.inj h; rfl
  · obtain rfl := Option.some.inj h; rfl
  · obtain rfl := Option.some.inj h; rfl
  · split at h
    case h_2 => cases h
    rename_i ti ht
    split at h
    case h_2 => cases h
    rename_i fs hfs
    split at h
    case h_2 => cases h
    rename_i pl hpl
    obtain rfl := Option.some.inj h
    simp only [ht, hfs, hpl, dE, List.map_map]; rfl
  · split at h
    case h_2 => cases h
    rename_i ti ht
    split at h
    · rename_i n ha; obtain rfl := Option.some.inj h; simp only [ht, ha, dE]
    · rename_i ha hs; obtain rfl := Option.some.inj h; simp only [ht, ha, hs, dE]
    · cases h
  · obtain rfl := Option.some.inj h; rfl
  · split at h
    · rename_i hi; obtain rfl := Option.some.inj h; simp only [hi, dE]
    · rename_i hs hi; obtain rfl := Option.some.inj h; simp only [hs, dE]
    · rename_i hi hs; obtain rfl := Option.some.inj h; simp only [dE]
  · obtain rfl := Option.some.inj h; rfl
  · split at h
    case h_2 => cases h
    rename_i h1 h2
    split at h
    case h_2 => cases h
    rename_i td htd
    split at h
    case h_2 => cases h
    rename_i kd hkd
    obtain rfl := Option.some.inj h
    simp only [h1, h2, dE, convI, htd, hkd]
    split <;> simp_all
  · split at h
    · rename_i hs; obtain rfl := Option.some.inj h; simp only [hs, dE, om]
    · rename_i hi hs; obtain rfl := Option.some.inj h; simp only [hi, dE, om]
    · cases h
  · split at h
    · rename_i hf; obtain rfl := Option.some.inj h; simp only [hf, dE]
    · cases h
  · split at h
    · rename_i hf; obtain rfl := Option.some.inj h; simp only [hf, dE]
    · rename_i hf; obtain rfl := Option.some.inj h; simp only [hf, dE]
    · cases h
  · split at h
    · rename_i hs; obtain rfl := Option.some.inj h; simp only [hs, dE]
    · rename_i hs
      split at h
      case h_2 => cases h
      rename_i ti ht
      split at h
      case h_2 => cases h
      rename_i len e' he
      split at h
      case h_2 => cases h
      rename_i te hte
      obtain rfl := Option.some.inj h
      simp only [hs, ht, he, hte, dE]
  · split at h
    · rename_i hs; obtain rfl := Option.some.inj h; simp only [hs, dE]
    · cases h
  · obtain rfl := Option.some.inj h; rfl
  · split at h
    case h_2 => cases h
    rename_i b hc
    simp only [hc]
    split at h
    · rename_i hx
      simp only [hx]
      split at h
      case h_2 => cases h
      rename_i t ht
      simp only [ht]
      split at h
      · rename_i h1; obtain rfl := Option.some.inj h; simp only [h1, dE]
      · rename_i h1 h2; obtain rfl := Option.some.inj h; simp only [h1, dE]
      · cases h
    · rename_i hx; obtain rfl := Option.some.inj h; simp only [hx, dE]
    · rename_i hx; obtain rfl := Option.some.inj h; simp only [hx, dE]
    · cases h
  · cases h
def symED (T : Tab) (o : Op) (ev : Operand → SV) : Option (OE SV) := match o with
  | .buildSlice t n ps => match sliceOf T t with
    | some te => some (.bslR te.size (te.zero.cells.toList.map .val) n (ps.toList.map fun p => (p.1, ev p.2)))
    | none => none
  | .convert s d x => match bytesT T s d with
    | true => some (.b2s (ev x))
    | false => symE T (.convert s d x) ev
  | o => symE T o ev
theorem symED_ok {T : Tab} {o : Op} {ev : Operand → SV} {e : OE SV} (h : symED T o ev = some e) (f : SV → AV) {ev' : Operand → AV} (hev : ∀ x, ev' x = f (ev x)) (σ : AH) : dE T f σ e = bvalD T o ev' σ := by
  unfold symED at h
  unfold bvalD
  split at h
  · split at h
    case h_2 => cases h
    rename_i te hte
    obtain rfl := Option.some.inj h
    simp only [hte, dE, List.map_map]
    congr 1
    apply List.map_congr_left
    intro p _
    simp [hev]
  · split at h
    · rename_i hb; obtain rfl := Option.some.inj h; simp only [hb, dE, hev]
    · rename_i hb; simp only [hb]; exact symE_ok h f hev σ
  · rename_i n1 n2
    split
    · exact (n1 _ _ _ rfl).elim
    · exact (n2 _ _ _ rfl).elim
    · exact symE_ok h f hev σ
end Go.Proofs.Ytjfdgijgkbojnaa.E
