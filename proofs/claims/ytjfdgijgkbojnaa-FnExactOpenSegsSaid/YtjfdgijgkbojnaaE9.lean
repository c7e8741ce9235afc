/- The engine, part 9: append. -/
import Derived.Test.YtjfdgijgkbojnaaE8
set_option linter.unusedSectionVars false
namespace Go.Proofs.Ytjfdgijgkbojnaa.E
open Go Go.RowKit
variable [Lam]

theorem slicecap_le {need old : Nat} (h : old < need) : Builtin.nextslicecap need old ≤ 2 * need + 1024 := by
  unfold Builtin.nextslicecap
  split
  · omega
  · split
    · omega
    · simp only [Builtin.growBy]
      repeat' split
      all_goals omega

def aappend (T : Tab) (ats : Array TypeId) (s x : AV) (σ : AH) (k : AV → AH → Prop) : Prop :=
  match ats[0]?, ats[1]? with
  | some t, some u => match T t, T u, aelems σ x with
    | some ti, some tu, some xs => match ti.under, tu.under with
      | _, .int _ => False
      | .slice e, _ => match T e with
        | some te => (∀ c, c ∈ xs → c.length = te.size) ∧ te.bytes ≤ 4096 ∧ 0 < te.bytes ∧ match s with
          | .own φ st off n => match σ φ with
            | some F => F.st = st ∧ F.sz = te.size ∧ off + n ≤ F.es.length ∧ n + xs.length ≤ 4294967296 ∧ (∀ c, c ∈ xs → ∀ y, y ∈ c → y.one = true) ∧
              k (.own φ (if off + n + xs.length ≤ F.es.length then st else st + 1) off (n + xs.length))
                (σ.set φ ⟨if off + n + xs.length ≤ F.es.length then st else st + 1, F.sz, F.es.take (off + n) ++ xs ++ F.es.drop (off + n + xs.length)⟩)
            | none => False
          | .emp => xs.length ≤ 4294967296 ∧ (xs = [] → k .emp σ) ∧ (xs ≠ [] → ∀ φ, σ φ = none → k (.own φ 0 0 xs.length) (σ.set φ ⟨0, te.size, xs⟩))
          | .val (.slice none 0 0) => xs.length ≤ 4294967296 ∧ (xs = [] → k (.val (.slice none 0 0)) σ) ∧ (xs ≠ [] → ∀ φ, σ φ = none → k (.own φ 0 0 xs.length) (σ.set φ ⟨0, te.size, xs⟩))
          | _ => False
        | none => False
      | _, _ => False
    | _, _, _ => False
  | _, _ => False

section
variable {P : Program} {T : Tab} (hT : TabOk P T)
include hT
/-- Where there is no room: a new row. -/
theorem run_appendGrow {w : World} {ats : Array TypeId} {t u e : TypeId} {ti tu te : TI} {rt : TypeId} {base : Option Addr} {sLen sCap : Nat} {xv : Value} {n : Nat} {old new : List Value}
    (h0 : ats[0]? = some t) (h1 : ats[1]? = some u) (ht : T t = some ti) (hu : T u = some tu) (hti : ti.under = .slice e) (htu : ∀ k, tu.under ≠ .int k) (hte : T e = some te)
    (hlen : ∀ w, (Builtin.lenOf xv).run P w = .ok n w) (hneed : sCap < sLen + n) (hbound : sLen + n ≤ 4294967296) (hb : te.bytes ≤ 4096) (hb0 : 0 < te.bytes)
    (hold : (Builtin.firstCells te.size sLen (.slice base sLen sCap)).run P w.drew = .ok old.toArray w.drew) (hnew : (Builtin.firstCells te.size n xv).run P w.drew = .ok new.toArray w.drew) :
    ∃ nc rest, sLen + n ≤ nc ∧ rest.length = (nc - (sLen + n)) * te.size ∧ (Builtin.append_ ats rt #[.slice base sLen sCap, xv]).run P w = .ok (.slice (some ⟨w.heap.size, 0, none⟩) (sLen + n) nc) (w.drew.alloc (.cells (old ++ new ++ rest).toArray e)) := by
  have hU := fun w => run_underlying (P := P) hT w ht
  have hU2 := fun w => run_underlying (P := P) hT w hu
  simp only [hti] at hU
  have hS := fun w => run_sizeOf (P := P) hT w hte
  have hZ := fun w => run_zeroValue (P := P) hT w hte
  have hzz := hT.zsz e te hte
  obtain ⟨inf, _, i2, i3, i4⟩ := hT.info e te hte
  have hI : ∀ w, (Go.typeInfo e).run P w = .ok inf w := fun w => by
    obtain ⟨i', j1, _⟩ := hT.info e te hte
    simp [Go.typeInfo, ‹P.info? e = some inf›]
  have hnint : (match tu.under with | .int _ => true | _ => false) = false := by
    cases hh : tu.under <;> first | rfl | exact absurd hh (htu _)
  let nc := sLen + n + w.tape w.drawn (.appendCap (sLen + n) sCap e) % (2 ^ 63 - (sLen + n))
  refine ⟨nc, (Builtin.zeroCells te.zero.cells (nc - (sLen + n))).toList, Nat.le_add_right _ _, by simp [Builtin.zeroCells, hzz], ?_⟩
  have c1 : ¬ (((sLen + n : Nat) : Int) > IntKind.i64.max ∧ (False ∨ inf.bytes = 0)) := by
    rintro ⟨_, h | h⟩
    · exact h
    · omega
  have c2 : ¬ (Builtin.nextslicecap (sLen + n) sCap * inf.bytes > 2 ^ 48) := by
    have a := slicecap_le hneed
    have : Builtin.nextslicecap (sLen + n) sCap * inf.bytes ≤ (2 * 4294967296 + 1024) * 4096 := Nat.mul_le_mul (by omega) (by omega)
    omega
  have hneed' : ¬ (sLen + n ≤ sCap) := by omega
  simp only [Builtin.append_, List.getElem?_toArray, List.getElem?_cons_zero, List.getElem?_cons_succ, h0, h1, Sem.run_bind, hU, Result.andThen_ok, hS, hU2, Sem.run_pure]
  simp only [Bool.false_eq_true, if_false, Sem.run_bind, hlen, Result.andThen_ok, hneed', hI, c1, c2, Bool.not_false, if_true, run_choose, run_askRoom, Question.forced, Question.cut, World.drew_eq, hold, hnew, hZ, newRow, run_newObj, Sem.run_pure, World.alloc_eq]
  simp [nc]
  congr 2; apply Array.ext'; simp
/-- Where there is room. -/
theorem run_appendIn {w w' : World} {ats : Array TypeId} {t u e : TypeId} {ti tu te : TI} {rt : TypeId} {a : Addr} {sLen sCap : Nat} {xv : Value} {n : Nat} {new : List Value}
    (h0 : ats[0]? = some t) (h1 : ats[1]? = some u) (ht : T t = some ti) (hu : T u = some tu) (hti : ti.under = .slice e) (htu : ∀ k, tu.under ≠ .int k) (hte : T e = some te)
    (hlen : ∀ w, (Builtin.lenOf xv).run P w = .ok n w) (hneed : sLen + n ≤ sCap)
    (hnew : (Builtin.firstCells te.size n xv).run P w = .ok new.toArray w) (hst : (storeCells (a.add (sLen * te.size)) new).run P w = .ok () w') :
    (Builtin.append_ ats rt #[.slice (some a) sLen sCap, xv]).run P w = .ok (.slice (some a) (sLen + n) sCap) w' := by
  have hU := fun w => run_underlying (P := P) hT w ht
  have hU2 := fun w => run_underlying (P := P) hT w hu
  simp only [hti] at hU
  have hS := fun w => run_sizeOf (P := P) hT w hte
  simp only [Builtin.append_, List.getElem?_toArray, List.getElem?_cons_zero, List.getElem?_cons_succ, h0, h1, Sem.run_bind, hU, Result.andThen_ok, hS, hU2, Sem.run_pure]
  simp only [Bool.false_eq_true, if_false, Sem.run_bind, hlen, Result.andThen_ok, hneed, Bool.not_false, if_true, hnew, hst, Sem.run_pure]
/-- Where nothing is appended to nothing. -/
theorem run_appendNil {w : World} {ats : Array TypeId} {t u e : TypeId} {ti tu te : TI} {rt : TypeId} {base : Option Addr} {xv : Value}
    (h0 : ats[0]? = some t) (h1 : ats[1]? = some u) (ht : T t = some ti) (hu : T u = some tu) (hti : ti.under = .slice e) (htu : ∀ k, tu.under ≠ .int k) (hte : T e = some te)
    (hlen : ∀ w, (Builtin.lenOf xv).run P w = .ok 0 w)
    (hnew : (Builtin.firstCells te.size 0 xv).run P w = .ok #[] w) :
    (Builtin.append_ ats rt #[.slice base 0 0, xv]).run P w = .ok (.slice base 0 0) w := by
  have hU := fun w => run_underlying (P := P) hT w ht
  have hU2 := fun w => run_underlying (P := P) hT w hu
  simp only [hti] at hU
  have hS := fun w => run_sizeOf (P := P) hT w hte
  simp only [Builtin.append_, List.getElem?_toArray, List.getElem?_cons_zero, List.getElem?_cons_succ, h0, h1, Sem.run_bind, hU, Result.andThen_ok, hS, hU2, Sem.run_pure]
  simp only [Bool.false_eq_true, if_false, Sem.run_bind, hlen, Result.andThen_ok, Nat.add_zero, Nat.le_refl, Bool.not_false, if_true, hnew]
  cases base <;> rfl

omit hT in
theorem lenOf_any {κ : Kap} {σ : AH} {w : World} (hr : Rel κ σ w) {x : AV} {v : Value} {xs : List (List AV)} {s : Nat} (h : VR κ x v) (e : aelems σ x = some xs) (hs : ∀ c, c ∈ xs → c.length = s) :
    ∀ w, (Builtin.lenOf v).run P w = .ok xs.length w := by
  obtain ⟨h1, _⟩ := run_source (P := P) hr h e hs
  intro w1
  cases v with
  | slice a n c => simp [Builtin.lenOf] at h1 ⊢; exact h1
  | string s => simp [Builtin.lenOf] at h1 ⊢; exact h1
  | _ => cases h1
/-- Growth of a family of one's own. -/
theorem run_appendOwnGrow {κ : Kap} {σ : AH} {w : World} (hr : Rel κ σ w) {ats : Array TypeId} {t u e : TypeId} {ti tu te : TI} {rt : TypeId} {φ off n sCap : Nat} {F : Fam} {base : Option Addr} {x : AV} {xv : Value} {xs : List (List AV)}
    (h0 : ats[0]? = some t) (h1 : ats[1]? = some u) (ht : T t = some ti) (hu : T u = some tu) (hti : ti.under = .slice e) (htu : ∀ k, tu.under ≠ .int k) (hte : T e = some te)
    (hx : VR κ x xv) (hxs : aelems σ x = some xs) (hsz : ∀ c, c ∈ xs → c.length = te.size) (hF : σ φ = some F) (hFs : F.sz = te.size) (hle : off + n ≤ F.es.length)
    (hv : VR κ (.own φ F.st off n) (.slice base n sCap)) (hneed : sCap < n + xs.length) (hbound : n + xs.length ≤ 4294967296) (hb : te.bytes ≤ 4096) (hb0 : 0 < te.bytes) (hlo : ∀ r, κ.ρ φ F.st = some r → r.lo ≤ off) :
    ∃ v w' κ', (Builtin.append_ ats rt #[.slice base n sCap, xv]).run P w = .ok v w' ∧
      Stp κ σ w κ' (σ.set φ ⟨F.st + 1, F.sz, F.es.take (off + n) ++ xs⟩) w' ∧ VR κ' (.own φ (F.st + 1) off (n + xs.length)) v := by
  obtain ⟨r, hρ, hB, H⟩ := hr.has φ F hF
  have hlo := hlo r hρ
  have hold : ∀ c, c ∈ ((F.es.drop off).take n) → c.length = te.size := by
    intro c hc
    obtain ⟨i, hi, rfl⟩ := List.getElem_of_mem hc
    have hi' : i < n := by simp at hi; omega
    have := H.esz (off + i) (by omega) (by omega)
    rw [← hFs, ← this]
    simp [List.getD, show off + i < F.es.length by omega]
  have ho : aelems σ (.own φ F.st off n) = some ((F.es.drop off).take n) := by simp [aelems, hF, hle]
  have hlen0 : ((F.es.drop off).take n).length = n := by simp; omega
  obtain ⟨_, old, ro, fo⟩ := run_source (P := P) hr hv ho hold
  obtain ⟨_, new, rn, fn⟩ := run_source (P := P) hr hx hxs hsz
  rw [hlen0] at fo
  obtain ⟨nc, rest, hnc, hrest, hrun⟩ := run_appendGrow (P := P) hT (w := w) (rt := rt) h0 h1 ht hu hti htu hte (lenOf_any hr hx hxs hsz) hneed hbound hb hb0 (fo w.drew (fun _ _ _ h => h)) (fn w.drew (fun _ _ _ h => h))
  have hrd := (Stp.drew hr).rel
  have key := Stp.row hrd (φ := φ) (st := F.st + 1) (s := te.size) (lo := off) (cap := nc) (pre := F.es.take off) (old ++ new) rest e
    (hr.up φ F _ hF (Nat.lt_succ_self _)) (fun t ht => hr.up φ F t hF (by omega)) (fun h => by rw [hF] at h; cases h) (by simp; omega)
    (ro.append rn) (by simp; omega)
    (by
      rw [List.length_append, ro.len, rn.len, hrest, hlen0, Nat.sub_mul, ← Nat.add_mul]
      have : (n + xs.length) * te.size ≤ nc * te.size := Nat.mul_le_mul_right _ hnc
      omega)
  refine ⟨_, _, κ.put φ (F.st + 1) ⟨w.drew.heap.size, 0, off, nc, te.size⟩, hrun, ?_, ?_⟩
  · have e1 : F.es.take (off + n) ++ xs = F.es.take off ++ ((F.es.drop off).take n ++ xs) := by
      rw [← List.append_assoc, List.take_add]
    rw [e1, hFs]
    exact (Stp.drew hr).trans key
  · have h := VR.own (κ := κ.put φ (F.st + 1) ⟨w.drew.heap.size, 0, off, nc, te.size⟩) (off := off) (n := n + xs.length) (Kap.put_same κ φ (F.st + 1) ⟨w.drew.heap.size, 0, off, nc, te.size⟩) (Nat.le_refl _) (by simp; omega)
    simpa using h
/-- A row of one's own, written further. -/
theorem run_appendOwnIn {κ : Kap} {σ : AH} {w : World} (hr : Rel κ σ w) {ats : Array TypeId} {t u e : TypeId} {ti tu te : TI} {rt : TypeId} {φ off n st' : Nat} {F : Fam} {r : Reg} {x : AV} {xv : Value} {xs : List (List AV)}
    (h0 : ats[0]? = some t) (h1 : ats[1]? = some u) (ht : T t = some ti) (hu : T u = some tu) (hti : ti.under = .slice e) (htu : ∀ k, tu.under ≠ .int k) (hte : T e = some te)
    (hx : VR κ x xv) (hxs : aelems σ x = some xs) (hsz : ∀ c, c ∈ xs → c.length = te.size) (hone : ∀ c, c ∈ xs → ∀ y, y ∈ c → y.one = true) (hF : σ φ = some F) (hFs : F.sz = te.size) (hle : off + n ≤ F.es.length)
    (hρ : κ.ρ φ F.st = some r) (hlo : r.lo ≤ off) (hneed : off + n + xs.length ≤ r.lo + r.cap)
    (hst : st' = F.st ∨ st' = F.st + 1) :
    ∃ w', (Builtin.append_ ats rt #[.slice (some ⟨r.b, r.base + (off - r.lo) * r.sz, none⟩) n (r.lo + r.cap - off), xv]).run P w = .ok (.slice (some ⟨r.b, r.base + (off - r.lo) * r.sz, none⟩) (n + xs.length) (r.lo + r.cap - off)) w' ∧
      Stp κ σ w (κ.put φ st' r) (σ.set φ ⟨st', F.sz, F.es.take (off + n) ++ xs ++ F.es.drop (off + n + xs.length)⟩) w' := by
  obtain ⟨r', e1, hB, H⟩ := hr.has φ F hF
  rw [hρ] at e1; obtain rfl := Option.some.inj e1
  have hrs : r.sz = te.size := by rw [H.sz, hFs]
  obtain ⟨_, new, rn, fn⟩ := run_source (P := P) hr hx hxs hsz
  obtain ⟨c, el, fz, hh, hcs⟩ := H.row
  -- where the new cells lie
  have hin : ∀ i, i < xs.length → ∀ j, j < te.size → r.base + (off + n + i - r.lo) * r.sz + j < r.base + r.cap * r.sz := by
    intro i hi j hj
    have := idx_lt (n := r.cap) (s := r.sz) (i := off + n + i - r.lo) (j := j) (by omega) (by omega)
    omega
  have hpos : ∀ k, k < new.length → ∃ i j, i < xs.length ∧ j < te.size ∧ i * te.size + j = k := by
    intro k hk; rw [rn.len] at hk; exact div_parts hk
  have haddr : ∀ i j, r.base + (off - r.lo) * r.sz + n * te.size + (i * te.size + j) = r.base + (off + n + i - r.lo) * r.sz + j := by
    intro i j
    rw [show off + n + i - r.lo = (off - r.lo) + n + i by omega, Nat.add_mul, Nat.add_mul, hrs]; omega
  obtain ⟨w', hrun, S⟩ := run_storeRow (P := P) new w r.b (r.base + (off - r.lo) * r.sz + n * te.size) 0
    (fun k hk => by
      obtain ⟨i, j, hi, hj, rfl⟩ := hpos k hk
      have := hin i hi j hj
      refine ⟨c[r.base + (off + n + i - r.lo) * r.sz + j]'(by omega), ?_⟩
      rw [Nat.add_zero, haddr]
      simp only [World.cell?, hh]
      simp [show r.base + (off + n + i - r.lo) * r.sz + j < c.size by omega])
    (fun k hk => by
      obtain ⟨i, j, hi, hj, rfl⟩ := hpos k hk
      rw [Nat.add_zero, haddr]; exact H.free _ (hin i hi j hj))
    (fun v hv => by
      obtain ⟨k, hk, rfl⟩ := List.getElem_of_mem hv
      obtain ⟨i, j, hi, hj, e⟩ := hpos k hk
      have := rn.get i j hi hj
      rw [e, getD_eq hk] at this
      have hl : j < (xs.getD i []).length := by rw [rn.esz i hi]; exact hj
      refine one_ok (hone (xs.getD i []) (by rw [getD_eq hi]; exact List.getElem_mem hi) _ ?_) this
      rw [getD_eq hl]; exact List.getElem_mem hl)
  refine ⟨w', ?_, ?_⟩
  · refine run_appendIn (P := P) hT h0 h1 ht hu hti htu hte (lenOf_any hr hx hxs hsz) (by omega) (fn w (fun _ _ _ h => h)) ?_
    rw [addr_add]; exact hrun
  · have hlenes : (F.es.take (off + n) ++ xs ++ F.es.drop (off + n + xs.length)).length ≤ r.lo + r.cap := by
      have := H.len; simp; omega
    have hE : Ext κ (κ.put φ st' r) := by
      rcases hst with rfl | rfl
      · rw [Kap.put_self hρ]; exact .refl κ
      · exact Kap.put_ext r (hr.up φ F _ hF (Nat.lt_succ_self _))
    have hg : ∀ i, (F.es.take (off + n) ++ xs ++ F.es.drop (off + n + xs.length)).getD i [] =
        if i < off + n then F.es.getD i [] else if i < off + n + xs.length then xs.getD (i - (off + n)) [] else F.es.getD i [] := by
      intro i
      have h1 : (F.es.take (off + n)).length = off + n := by simp; omega
      simp only [List.getD, List.append_assoc, List.getElem?_append, h1]
      by_cases c1 : i < off + n
      · simp [c1]
      · by_cases c2 : i < off + n + xs.length
        · simp [c1, c2, show i - (off + n) < xs.length by omega]
        · simp only [c1, c2, if_false, show ¬ i - (off + n) < xs.length by omega, List.getElem?_drop]
          congr 2; omega
    refine Stp.turn (F' := ⟨st', F.sz, F.es.take (off + n) ++ xs ++ F.es.drop (off + n + xs.length)⟩) hr ?_ (fun s hs => hr.up φ F s hF (by have hs' : st' < s := hs; rcases hst with rfl | rfl <;> omega)) (.inl ⟨F, r, hF, hρ, rfl⟩) (by rw [S.size]; exact Nat.le_refl _) (fun b _ hb => S.other b hb) S.os S.tape S.output ⟨H.sz, hlenes, ?_, ?_, ?_, ?_⟩
    · rcases hst with rfl | rfl
      · exact .inr hρ
      · exact .inl (hr.up φ F _ hF (Nat.lt_succ_self _))
    · obtain ⟨c', g1, g2⟩ := S.row _ _ _ hh
      exact ⟨c', el, fz, g1, by rw [g2]; exact hcs⟩
    · intro o ho; rw [S.frozen]; exact H.free o ho
    · intro i hi hil
      simp only [hg]
      split
      · exact H.esz i hi (by omega)
      · split
        · rw [rn.esz _ (by omega), hFs]
        · refine H.esz i hi ?_
          simp at hil; omega
    · intro i j hi hil hj
      have hj' : j < r.sz := by rw [H.sz]; exact hj
      simp only [hg]
      rw [S.cell, Nat.add_zero]
      by_cases c2 : off + n ≤ i ∧ i < off + n + xs.length
      · have hr1 := rn.get (i - (off + n)) j (by omega) (by omega)
        have e2 := haddr (i - (off + n)) j
        rw [show off + n + (i - (off + n)) - r.lo = i - r.lo by omega] at e2
        have hlt := idx_lt (n := xs.length) (s := te.size) (i := i - (off + n)) (j := j) (by omega) (by omega)
        rw [if_pos (by rw [rn.len]; omega), if_neg (by omega), if_pos (by omega)]
        refine ⟨_, rfl, ?_⟩
        rw [show r.base + (i - r.lo) * r.sz + j - (r.base + (off - r.lo) * r.sz + n * te.size) = (i - (off + n)) * te.size + j by omega]
        exact hr1.mono hE
      · have hil' : i < F.es.length := by simp at hil; omega
        obtain ⟨u, g1, g2⟩ := H.cell i j hi hil' hj
        have hne : ¬ (r.base + (off - r.lo) * r.sz + n * te.size ≤ r.base + (i - r.lo) * r.sz + j ∧ r.base + (i - r.lo) * r.sz + j < r.base + (off - r.lo) * r.sz + n * te.size + new.length) := by
          rintro ⟨a1, a2⟩
          obtain ⟨i', j', hi', hj2, e⟩ := hpos (r.base + (i - r.lo) * r.sz + j - (r.base + (off - r.lo) * r.sz + n * te.size)) (by omega)
          have e3 := haddr i' j'
          have := addr_inj (s := r.sz) (a := i - r.lo) (b := off + n + i' - r.lo) (j := j) (k := j') hj' (by omega) (by omega)
          omega
        rw [if_neg hne]
        refine ⟨u, g1, ?_⟩
        by_cases c3 : i < off + n
        · rw [if_pos c3]; exact g2.mono hE
        · rw [if_neg c3, if_neg (by omega)]; exact g2.mono hE
theorem run_append {κ : Kap} {σ : AH} {w : World} (hr : Rel κ σ w) {ats : Array TypeId} {rt : TypeId} {s x : AV} {sv xv : Value} {k : AV → AH → Prop} (hs : VR κ s sv) (hx : VR κ x xv) (e : aappend T ats s x σ k) :
    ∃ v w' κ' σ' y, (Builtin.append_ ats rt #[sv, xv]).run P w = .ok v w' ∧ k y σ' ∧ Stp κ σ w κ' σ' w' ∧ VR κ' y v := by
  unfold aappend at e
  split at e
  case h_2 => exact e.elim
  rename_i t u h0 h1
  split at e
  case h_2 => exact e.elim
  rename_i ti tu xs ht hu hxs
  split at e
  · exact e.elim
  case h_3 => exact e.elim
  rename_i d1 d2 el hti hnot
  have htu : ∀ k, tu.under ≠ .int k := fun k hk => hnot _ hk
  split at e
  case h_2 => exact e.elim
  rename_i te hte
  obtain ⟨hsz, hb, hb0, e⟩ := e
  -- out of nothing
  have nothing : ∀ (base : Option Addr), xs ≠ [] → xs.length ≤ 4294967296 → (∀ φ, σ φ = none → k (.own φ 0 0 xs.length) (σ.set φ ⟨0, te.size, xs⟩)) →
      ∃ v w' κ' σ' y, (Builtin.append_ ats rt #[.slice base 0 0, xv]).run P w = .ok v w' ∧ k y σ' ∧ Stp κ σ w κ' σ' w' ∧ VR κ' y v := by
    intro base hne hbd hk
    have hpos : 0 < xs.length := List.length_pos_iff.mpr hne
    obtain ⟨_, new, rn, fn⟩ := run_source (P := P) hr hx hxs hsz
    have f0 : (Builtin.firstCells te.size 0 (.slice base 0 0)).run P w.drew = .ok ([] : List Value).toArray w.drew := by
      cases base with
      | none => rfl
      | some a => simp [Builtin.firstCells, loadCells, loadCellsFrom]
    obtain ⟨nc, rest, hnc, hrest, hrun⟩ := run_appendGrow (P := P) hT (w := w) (rt := rt) (sLen := 0) (sCap := 0) h0 h1 ht hu hti htu hte (lenOf_any hr hx hxs hsz) (by omega) (by omega) hb hb0 f0 (fn w.drew (fun _ _ _ h => h))
    have hrd := (Stp.drew hr).rel
    obtain ⟨φ, g0, g1⟩ := hrd.newId
    have key := Stp.row hrd (φ := φ) (st := 0) (s := te.size) (lo := 0) (cap := nc) (pre := []) new rest el (g1 0) (fun t _ => g1 t) (fun _ => g1) rfl rn (by omega)
      (by rw [rn.len, hrest, Nat.sub_mul]; have : (0 + xs.length) * te.size ≤ nc * te.size := Nat.mul_le_mul_right _ hnc; simp only [Nat.zero_add] at this ⊢; omega)
    refine ⟨_, _, κ.put φ 0 ⟨w.drew.heap.size, 0, 0, nc, te.size⟩, _, _, hrun, hk φ g0, (Stp.drew hr).trans (by simpa using key), ?_⟩
    have h := VR.own (κ := κ.put φ 0 ⟨w.drew.heap.size, 0, 0, nc, te.size⟩) (off := 0) (n := xs.length) (Kap.put_same κ φ 0 ⟨w.drew.heap.size, 0, 0, nc, te.size⟩) (Nat.le_refl _) (by simp; omega)
    simpa using h
  split at e
  · rename_i φ st off n
    split at e
    case h_2 => exact e.elim
    rename_i F hF
    obtain ⟨rfl, hFs, hle, hbd, hone, hk⟩ := e
    obtain ⟨r, hρ, hB, H⟩ := hr.has φ F hF
    cases hs with
    | @own _ _ _ _ r' hρ' hlo hn =>
      rw [hρ] at hρ'; obtain rfl := Option.some.inj hρ'
      by_cases hin : off + n + xs.length ≤ r.lo + r.cap
      · obtain ⟨w', hrun, hst⟩ := run_appendOwnIn (P := P) hT (rt := rt) hr h0 h1 ht hu hti htu hte hx hxs hsz hone hF hFs hle hρ hlo hin (st' := if off + n + xs.length ≤ F.es.length then F.st else F.st + 1) (by split <;> simp)
        refine ⟨_, w', _, _, _, hrun, hk, hst, ?_⟩
        exact VR.own (κ := κ.put φ _ r) (Kap.put_same ..) hlo (by omega)
      · have hnot : ¬ (off + n + xs.length ≤ F.es.length) := by have := H.len; omega
        rw [if_neg hnot] at hk
        obtain ⟨v, w', κ', hrun, hst, hv⟩ := run_appendOwnGrow (P := P) hT (rt := rt) hr h0 h1 ht hu hti htu hte hx hxs hsz hF hFs hle (.own hρ hlo hn) (by omega) hbd hb hb0 (fun r' h' => by rw [hρ] at h'; obtain rfl := Option.some.inj h'; exact hlo)
        rw [List.drop_eq_nil_of_le (by omega), List.append_nil] at hk
        exact ⟨v, w', κ', _, _, hrun, hk, hst, hv⟩
    | @ownEnd _ _ _ r' a hρ' hoff =>
      rw [hρ] at hρ'; obtain rfl := Option.some.inj hρ'
      have hFl : F.es.length = off := by have := H.len; omega
      by_cases hx0 : xs = []
      · subst hx0
        obtain ⟨_, new, rn, fn⟩ := run_source (P := P) hr hx hxs hsz
        have hn0 : new = [] := by have := rn.len; simpa using this
        subst hn0
        have := run_appendNil (P := P) hT (w := w) (rt := rt) (base := some a) h0 h1 ht hu hti htu hte (lenOf_any hr hx hxs hsz) (fn w (fun _ _ _ h => h))
        simp only [List.length_nil, Nat.add_zero, hFl, Nat.le_refl, if_true, List.append_nil] at hk
        have e3 : F.es.take off ++ F.es.drop off = F.es := List.take_append_drop off F.es
        rw [e3] at hk
        refine ⟨_, w, κ, _, _, this, hk, ?_, .ownEnd hρ hoff⟩
        rw [AH.set_self (by rw [hF])]; exact .refl hr
      · have hpos : 0 < xs.length := List.length_pos_iff.mpr hx0
        have hnot : ¬ (off + 0 + xs.length ≤ F.es.length) := by omega
        rw [if_neg hnot] at hk
        obtain ⟨v, w', κ', hrun, hst, hv⟩ := run_appendOwnGrow (P := P) hT (rt := rt) hr h0 h1 ht hu hti htu hte hx hxs hsz hF hFs hle (.ownEnd hρ hoff) (by omega) hbd hb hb0 (fun r' h' => by rw [hρ] at h'; obtain rfl := Option.some.inj h'; omega)
        rw [List.drop_eq_nil_of_le (by omega), List.append_nil] at hk
        exact ⟨v, w', κ', _, _, hrun, hk, hst, hv⟩
  · obtain ⟨hbd, k1, k2⟩ := e
    cases hs with
    | emp a =>
      by_cases hx0 : xs = []
      · subst hx0
        obtain ⟨_, new, rn, fn⟩ := run_source (P := P) hr hx hxs hsz
        have hn0 : new = [] := by have := rn.len; simpa using this
        subst hn0
        exact ⟨_, w, κ, _, _, run_appendNil (P := P) hT (w := w) (rt := rt) h0 h1 ht hu hti htu hte (lenOf_any hr hx hxs hsz) (fn w (fun _ _ _ h => h)), k1 rfl, .refl hr, .emp _⟩
      · exact nothing a hx0 hbd (k2 hx0)
  · obtain ⟨hbd, k1, k2⟩ := e
    cases hs
    by_cases hx0 : xs = []
    · subst hx0
      obtain ⟨_, new, rn, fn⟩ := run_source (P := P) hr hx hxs hsz
      have hn0 : new = [] := by have := rn.len; simpa using this
      subst hn0
      exact ⟨_, w, κ, _, _, run_appendNil (P := P) hT (w := w) (rt := rt) h0 h1 ht hu hti htu hte (lenOf_any hr hx hxs hsz) (fn w (fun _ _ _ h => h)), k1 rfl, .refl hr, .val _⟩
    · exact nothing none hx0 hbd (k2 hx0)
  · exact e.elim
end
end Go.Proofs.Ytjfdgijgkbojnaa.E
