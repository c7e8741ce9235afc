/- The engine, part 4: operations that only reckon or read. -/
import Derived.Test.YtjfdgijgkbojnaaE3
import GoSem.Dispatch
set_option linter.unusedSectionVars false
namespace Go.Proofs.Ytjfdgijgkbojnaa.E
open Go Go.RowKit
variable [Lam]

section
variable {P : Program} {T : Tab} (hT : TabOk P T)
include hT

/-! ### parts of a struct -/
omit hT in
def apart (T : Tab) (t : TypeId) (cs : List AV) (off : Nat) : Option AV :=
  match T t with
  | some ti => match isAggD ti.under with
    | true => if off + ti.size ≤ cs.length then some (.agg ((cs.drop off).take ti.size)) else none
    | false => if off < cs.length then some (cs.getD off .any) else none
  | none => none
theorem run_part {κ : Kap} {w : World} {t : TypeId} {cs : List AV} {vs : Array Value} {off : Nat} {x : AV} (hv : VRs κ cs vs.toList) (e : apart T t cs off = some x) :
    ∃ u, (part t vs off).run P w = .ok u w ∧ VR κ x u := by
  unfold apart at e
  split at e
  case h_2 => cases e
  rename_i ti ht
  have hA := run_isAgg hT w ht
  have hlen : cs.length = vs.size := by simpa using hv.1
  cases ha : isAggD ti.under with
  | true =>
    rw [ha] at e hA
    replace e : (if off + ti.size ≤ cs.length then some (AV.agg ((cs.drop off).take ti.size)) else none) = some x := e
    by_cases hs : off + ti.size ≤ cs.length
    · rw [if_pos hs] at e
      obtain rfl := Option.some.inj e
      refine ⟨.agg (vs.extract off (off + ti.size)), ?_, ?_⟩
      · simp [part, hA, run_sizeOf hT w ht]
      · have : VR κ (.agg ((cs.drop off).take ti.size)) (.agg ((vs.toList.drop off).take ti.size).toArray) := by
          refine .agg (by simp [hlen]) fun i hi => ?_
          have hi' : i < ti.size := by simp at hi; omega
          rw [getD_take _ _ _ _ hi', getD_take _ _ _ _ hi', getD_drop, getD_drop]
          exact hv.2 _ (by omega)
        have e2 : ((vs.toList.drop off).take ti.size).toArray = vs.extract off (off + ti.size) := by
          apply Array.ext'
          simp [List.extract_eq_take_drop]
        rw [← e2]; exact this
    · rw [if_neg hs] at e; cases e
  | false =>
    rw [ha] at e hA
    replace e : (if off < cs.length then some (cs.getD off .any) else none) = some x := e
    by_cases hs : off < cs.length
    · rw [if_pos hs] at e
      obtain rfl := Option.some.inj e
      have hs' : off < vs.size := by omega
      refine ⟨vs.toList.getD off undef, ?_, hv.2 off hs⟩
      simp [part, hA, hs', List.getD]
    · rw [if_neg hs] at e; cases e
omit hT in
def afield (T : Tab) (t : TypeId) (x : AV) (f : Nat) : Option AV :=
  match T t, x with
  | some ti, .agg cs => match ti.under with
    | .struct fs => match fs[f]? with
      | some fl => apart T fl.type cs fl.offset
      | none => none
    | _ => none
  | _, _ => none
theorem run_field {κ : Kap} {w : World} {t : TypeId} {x y : AV} {v : Value} {f : Nat} (h : VR κ x v) (e : afield T t x f = some y) :
    ∃ u, (Instr.field t v f).run P w = .ok u w ∧ VR κ y u := by
  unfold afield at e
  split at e
  case h_2 => cases e
  rename_i ti cs ht
  split at e
  case h_2 => cases e
  rename_i fs hu
  split at e
  case h_2 => cases e
  rename_i fl hf
  cases h with
  | @agg _ vs hl h =>
    obtain ⟨u, h1, h2⟩ := run_part hT (w := w) (vs := vs.toArray) (by exact ⟨by simpa using hl, by simpa using h⟩) e
    refine ⟨u, ?_, h2⟩
    have hU := run_underlying hT w ht
    rw [hu] at hU
    simp [Instr.field, hU, hf, asAgg, h1]

omit hT in
def afieldAddr (T : Tab) (t : TypeId) (p : AV) (f : Nat) : Option AV :=
  match T t with
  | some ti => match ti.under with
    | .struct fs => match fs[f]? with
      | some fl => match T fl.type with
        | some tf => if tf.size = 0 then none else match p with
          | .rop cs off => some (.rop cs (off + fl.offset))
          | .ptr φ st i off => some (.ptr φ st i (off + fl.offset))
          | _ => none
        | none => none
      | none => none
    | _ => none
  | none => none
theorem run_fieldAt {κ : Kap} {w : World} {t : TypeId} {p y : AV} {v : Value} {f : Nat} (h : VR κ p v) (e : afieldAddr T t p f = some y) :
    ∃ u, (Instr.fieldAt t v f).run P w = .ok u w ∧ VR κ y u := by
  unfold afieldAddr at e
  split at e
  case h_2 => cases e
  rename_i ti ht
  split at e
  case h_2 => cases e
  rename_i fs hu
  split at e
  case h_2 => cases e
  rename_i fl hf
  split at e
  case h_2 => cases e
  rename_i tf htf
  split at e
  case isTrue => cases e
  rename_i hz
  have hU := run_underlying hT w ht
  rw [hu] at hU
  have hS := run_sizeOf hT w htf
  cases h with
  | @rop cs off b base vals hm hv =>
    obtain rfl := Option.some.inj e
    refine ⟨.pointer (some ⟨b, base + (off + fl.offset), none⟩), ?_, .rop hm hv⟩
    simp [Instr.fieldAt, hU, hf, Instr.sureAddr, fieldPlace, hS, hz, addr_add, Nat.add_assoc]
  | @ptr φ st i off r h hlo =>
    obtain rfl := Option.some.inj e
    refine ⟨.pointer (some ⟨r.b, r.base + (i - r.lo) * r.sz + (off + fl.offset), none⟩), ?_, .ptr h hlo⟩
    simp [Instr.fieldAt, hU, hf, Instr.sureAddr, fieldPlace, hS, hz, addr_add, Nat.add_assoc]
  | _ => cases e

/-! ### places in slices and arrays -/
omit hT in
def aindexAddr (T : Tab) (t : TypeId) (x ix : AV) (σ : AH) : Option AV :=
  match T t, ix with
  | some ti, .val (.int _ i) => match ti.under, x with
    | .slice e, .ro es => match T e with
      | some te => if 0 ≤ i ∧ i < es.length ∧ (es.getD i.toNat []).length = te.size then some (.rop (es.getD i.toNat []) 0) else none
      | none => none
    | .slice e, .own φ st off n => match T e, σ φ with
      | some te, some F => if 0 ≤ i ∧ i < n ∧ F.st = st ∧ F.sz = te.size then some (.ptr φ st (off + i.toNat) 0) else none
      | _, _ => none
    | .array len e, .ptr φ st j off => match T e with
      | some te => if 0 ≤ i ∧ i < len then some (.ptr φ st j (off + i.toNat * te.size)) else none
      | none => none
    | .array len e, .rop cs off => match T e with
      | some te => if 0 ≤ i ∧ i < len then some (.rop cs (off + i.toNat * te.size)) else none
      | none => none
    | _, _ => none
  | _, _ => none
theorem run_indexAt {κ : Kap} {σ : AH} {w : World} (hr : Rel κ σ w) {t : TypeId} {x ix y : AV} {v u : Value} (h : VR κ x v) (hi : VR κ ix u) (e : aindexAddr T t x ix σ = some y) :
    ∃ z, (Instr.indexAt t v u).run P w = .ok z w ∧ VR κ y z := by
  unfold aindexAddr at e
  split at e
  case h_2 => cases e
  rename_i ti k i ht
  cases hi
  have hU := run_underlying hT w ht
  split at e
  case h_5 => cases e
  · rename_i el es hu
    rw [hu] at hU
    split at e
    case h_2 => cases e
    rename_i te hte
    split at e
    case isFalse => cases e
    rename_i hc
    obtain ⟨h0, h1, h2⟩ := hc
    obtain rfl := Option.some.inj e
    have hS := run_sizeOf hT w hte
    cases h with
    | roEnd a => simp at h1; omega
    | @ro _ b off cap sz vals hc hz hm hv =>
      have hin : i.toNat < es.length := by omega
      have hsz : sz = te.size := by rw [← hz _ hin, h2]
      subst hsz
      refine ⟨.pointer (some ⟨b, off + i.toNat * te.size + 0, none⟩), ?_, .rop (vals := fun j => vals i.toNat j) (fun j hj => hm _ _ hin (by omega)) (fun j hj => hv _ _ hin (by omega))⟩
      simp [Instr.indexAt, asIntOf, hU, h0, h1, hS, addr_add]
  · rename_i el φ st off n hu
    rw [hu] at hU
    split at e
    case h_2 => cases e
    rename_i te F hte hF
    split at e
    case isFalse => cases e
    rename_i hc
    obtain ⟨h0, h1, rfl, h3⟩ := hc
    obtain rfl := Option.some.inj e
    have hS := run_sizeOf hT w hte
    cases h with
    | @own _ _ _ _ r hρ hlo hn =>
      obtain ⟨r', e1, _, H⟩ := hr.has φ F hF
      rw [hρ] at e1; obtain rfl := Option.some.inj e1
      have hsz : r.sz = te.size := by rw [H.sz, h3]
      refine ⟨.pointer (some ⟨r.b, r.base + (off + i.toNat - r.lo) * r.sz + 0, none⟩), ?_, .ptr hρ (by omega)⟩
      have : (off + i.toNat - r.lo) * r.sz = (off - r.lo) * r.sz + i.toNat * r.sz := by
        rw [← Nat.add_mul]; congr 1; omega
      simp [Instr.indexAt, asIntOf, hU, h0, h1, hS, addr_add, ← hsz, Nat.add_assoc]
      exact this.symm
    | ownEnd _ _ => omega
  · rename_i len el φ st j off hu
    rw [hu] at hU
    split at e
    case h_2 => cases e
    rename_i te hte
    split at e
    case isFalse => cases e
    rename_i hc
    obtain rfl := Option.some.inj e
    have hS := run_sizeOf hT w hte
    cases h with
    | @ptr _ _ _ _ r hρ hlo =>
      refine ⟨.pointer (some ⟨r.b, r.base + (j - r.lo) * r.sz + (off + i.toNat * te.size), none⟩), ?_, .ptr hρ hlo⟩
      simp [Instr.indexAt, asIntOf, hU, hc.1, hc.2, hS, addr_add, Instr.sureAddr, Nat.add_assoc]
  · rename_i len el cs off hu
    rw [hu] at hU
    split at e
    case h_2 => cases e
    rename_i te hte
    split at e
    case isFalse => cases e
    rename_i hc
    obtain rfl := Option.some.inj e
    have hS := run_sizeOf hT w hte
    cases h with
    | @rop _ _ b base vals hm hv =>
      refine ⟨.pointer (some ⟨b, base + (off + i.toNat * te.size), none⟩), ?_, .rop hm hv⟩
      simp [Instr.indexAt, asIntOf, hU, hc.1, hc.2, hS, addr_add, Instr.sureAddr, Nat.add_assoc]
omit hT in
def aindex (T : Tab) (t : TypeId) (x ix : AV) : Option AV :=
  match T t, ix with
  | some ti, .val (.int _ i) => match ti.under, x with
    | .string, .val (.string s) => if 0 ≤ i then match s[i.toNat]? with
      | some b => some (.val (.int .u8 b.toNat))
      | none => none
      else none
    | .array len e, .agg cs => match T e with
      | some te => if 0 ≤ i ∧ i < len then apart T e cs (i.toNat * te.size) else none
      | none => none
    | _, _ => none
  | _, _ => none
theorem run_index {κ : Kap} {w : World} {t : TypeId} {x ix y : AV} {v u : Value} (h : VR κ x v) (hi : VR κ ix u) (e : aindex T t x ix = some y) :
    ∃ z, (Instr.index t v u).run P w = .ok z w ∧ VR κ y z := by
  unfold aindex at e
  split at e
  case h_2 => cases e
  rename_i ti k i ht
  cases hi
  have hU := run_underlying hT w ht
  split at e
  case h_3 => cases e
  · rename_i s hu
    rw [hu] at hU
    cases h
    split at e
    case isFalse => cases e
    rename_i h0
    split at e
    case h_2 => cases e
    rename_i b hb
    obtain rfl := Option.some.inj e
    exact ⟨_, by simp [Instr.index, asIntOf, hU, h0, hb], .val _⟩
  · rename_i len el cs hu
    rw [hu] at hU
    split at e
    case h_2 => cases e
    rename_i te hte
    split at e
    case isFalse => cases e
    rename_i hc
    cases h with
    | @agg _ vs hl h =>
      obtain ⟨z, h1, h2⟩ := run_part hT (w := w) (vs := vs.toArray) (by exact ⟨by simpa using hl, by simpa using h⟩) e
      exact ⟨z, by simp [Instr.index, asIntOf, hU, hc.1, hc.2, run_sizeOf hT w hte, h1], h2⟩

/-! ### length -/
omit hT in
def alen (T : Tab) (t : TypeId) (x : AV) : Option AV :=
  match T t with
  | some ti => match ti.under, x with
    | .string, .val (.string s) => some (.val (.int .i64 s.size))
    | .slice _, .ro es => some (.val (.int .i64 es.length))
    | .slice _, .own _ _ _ n => some (.val (.int .i64 n))
    | .slice _, .emp => some (.val (.int .i64 0))
    | .slice _, .val (.slice none 0 0) => some (.val (.int .i64 0))
    | .array n _, _ => some (.val (.int .i64 n))
    | _, _ => none
  | none => none
theorem run_len {κ : Kap} {w : World} {ts : Array TypeId} {rt t : TypeId} {x y : AV} {v : Value} (ht0 : ts[0]? = some t) (h : VR κ x v) (e : alen T t x = some y) :
    ∃ z, (Builtin.len_ ts rt #[v]).run P w = .ok z w ∧ VR κ y z := by
  unfold alen at e
  split at e
  case h_2 => cases e
  rename_i ti ht
  have hU := run_underlying hT w ht
  split at e
  case h_7 => cases e
  all_goals (rename_i hu; rw [hu] at hU; obtain rfl := Option.some.inj e)
  · cases h; exact ⟨_, by simp [Builtin.len_, ht0, hU, goInt], .val _⟩
  · cases h <;> exact ⟨_, by simp [Builtin.len_, ht0, hU, goInt], .val _⟩
  · cases h <;> exact ⟨_, by simp [Builtin.len_, ht0, hU, goInt], .val _⟩
  · cases h; exact ⟨_, by simp [Builtin.len_, ht0, hU, goInt], .val _⟩
  · cases h; exact ⟨_, by simp [Builtin.len_, ht0, hU, goInt], .val _⟩
  · exact ⟨_, by simp [Builtin.len_, ht0, hU, goInt], .val _⟩
end
end Go.Proofs.Ytjfdgijgkbojnaa.E
