/- The engine, part 12: conversions; all operations together. -/
import Derived.Test.YtjfdgijgkbojnaaE11
set_option linter.unusedSectionVars false
namespace Go.Proofs.Ytjfdgijgkbojnaa.E
open Go Go.RowKit
variable [Lam]

section
variable {P : Program} {T : Tab} (hT : TabOk P T)
include hT
omit hT in
theorem abytes_ok {κ : Kap} (es : List (List AV)) : ∀ (bs : List UInt8) (vs : List Value), abytes es = some bs → RowR κ 1 es vs → vs = es.map (fun c => match c with | [.val v] => v | _ => undef) ∧ es.length = bs.length ∧
    (∀ (acc : ByteArray), vs.foldl (fun (acc : Option ByteArray) v => match acc, v with | some a, .int .u8 n => some (a.push (UInt8.ofNat n.toNat)) | _, _ => none) (some acc) = some ⟨acc.data ++ bs.toArray⟩) := by
  induction es with
  | nil =>
    intro bs vs e h
    obtain rfl := Option.some.inj e
    have : vs = [] := by have := h.len; simpa using this
    subst this
    exact ⟨rfl, rfl, fun acc => by cases acc; simp⟩
  | cons c es ih =>
    intro bs vs e h
    unfold abytes at e
    split at e
    · rename_i hh; cases hh
    · rename_i n r hh
      obtain ⟨rfl, rfl⟩ := List.cons.inj hh
      obtain ⟨bs', hb, rfl⟩ := Option.map_eq_some_iff.mp e
      have hl := h.len
      cases vs with
      | nil => simp at hl
      | cons v vs =>
        have h0 := h.get 0 0 (by simp) (by simp)
        simp at h0
        cases h0
        have hr : RowR κ 1 es vs := by
          refine ⟨by simpa using hl, fun i hi => h.esz (i + 1) (by simpa using hi), fun i j hi hj => ?_⟩
          have := h.get (i + 1) j (by simpa using hi) hj
          obtain rfl : j = 0 := by omega
          simpa [Nat.add_mul] using this
        obtain ⟨a1, a2, a3⟩ := ih bs' vs hb hr
        refine ⟨by rw [a1]; rfl, by simp [a2], fun acc => ?_⟩
        simp only [List.foldl_cons]
        rw [a3]; cases acc; simp [ByteArray.push]
    · cases e
omit hT in
theorem run_bytesLoop {w : World} (f : Value → ByteArray → Sem (ForInStep ByteArray)) (hf : ∀ n s, f (.int .u8 n) s = pure (.yield (s.push (UInt8.ofNat n.toNat)))) (vs : List Value) :
    ∀ (acc out : ByteArray), vs.foldl (fun (acc : Option ByteArray) v => match acc, v with | some a, .int .u8 n => some (a.push (UInt8.ofNat n.toNat)) | _, _ => none) (some acc) = some out →
    (forIn vs acc f).run P w = .ok out w := by
  induction vs with
  | nil => intro acc out e; obtain rfl := Option.some.inj e; rfl
  | cons v vs ih =>
    intro acc out e
    simp only [List.foldl_cons] at e
    have hnone : ∀ (l : List Value), l.foldl (fun (acc : Option ByteArray) v => match acc, v with | some a, .int .u8 n => some (a.push (UInt8.ofNat n.toNat)) | _, _ => none) none = none := by
      intro l; induction l with
      | nil => rfl
      | cons a l ih => simpa [List.foldl_cons] using ih
    split at e
    · rename_i a n h1
      obtain rfl := Option.some.inj h1
      have := ih _ _ e
      simp only [List.forIn_cons, hf, Sem.run_bind, Sem.run_pure, Result.andThen_ok]
      exact this
    · rw [hnone] at e; cases e
theorem run_conv {κ : Kap} {σ : AH} {w : World} (hr : Rel κ σ w) {src dst : TypeId} {x : AV} {v : Value} {k : AV → AH → Prop} (h : VR κ x v) (e : aconv T src dst x σ k) :
    ∃ u w' κ' σ' y, (convert src dst v).run P w = .ok u w' ∧ k y σ' ∧ Stp κ σ w κ' σ' w' ∧ VR κ' y u := by
  unfold aconv at e
  split at e
  case h_2 => exact e.elim
  rename_i ts td hs hd
  have hUs := fun w => run_underlying (P := P) hT w hs
  have hUd := fun w => run_underlying (P := P) hT w hd
  split at e
  case h_4 => exact e.elim
  · rename_i kd k0 n hu
    rw [hu] at hUd
    cases h
    refine ⟨.int kd (kd.wrap n), w, κ, σ, _, ?_, e, .refl hr, .val _⟩
    simp only [convert, Sem.run_bind, hUs, hUd, Result.andThen_ok]
    cases ts.under <;> rfl
  · rename_i s hu
    rw [hu] at hUd
    cases h
    refine ⟨.string s, w, κ, σ, _, ?_, e, .refl hr, .val _⟩
    simp only [convert, Sem.run_bind, hUs, hUd, Result.andThen_ok]
    cases ts.under <;> rfl
  · rename_i el hu1 hu2 _
    rw [hu1] at hUs
    rw [hu2] at hUd
    split at e
    case h_2 => exact e.elim
    rename_i te es hte hes
    split at e
    case h_2 => exact e.elim
    rename_i bs htu hbs
    obtain ⟨h1, hns, hk⟩ := e
    have hUe := fun w => run_underlying (P := P) hT w hte
    rw [htu] at hUe
    have hall : ∀ c, c ∈ es → c.length = 1 := by
      clear hes hns hk
      intro c hc
      induction es generalizing bs with
      | nil => cases hc
      | cons c' es ih =>
        unfold abytes at hbs
        split at hbs
        · rename_i hh; cases hh
        · rename_i n r hh
          obtain ⟨rfl, rfl⟩ := List.cons.inj hh
          obtain ⟨bs', hb, rfl⟩ := Option.map_eq_some_iff.mp hbs
          rcases List.mem_cons.mp hc with rfl | hc
          · rfl
          · exact ih bs' hb hc
        · cases hbs
    obtain ⟨_, new, rn, fn⟩ := run_source (P := P) hr h hes hall
    obtain ⟨_, a2, a3⟩ := abytes_ok es bs new hbs rn
    have hfold := a3 ByteArray.empty
    refine ⟨.string ⟨bs.toArray⟩, w, κ, σ, _, ?_, hk, .refl hr, .val _⟩
    have hcells := fn w (fun _ _ _ h => h)
    rw [a2] at hcells
    cases v with
    | slice a n c =>
      cases a with
      | none =>
        have hb0 : bs = [] := by
          have hh : new = [] := by
            have := hcells
            simp [Builtin.firstCells] at this
            exact this
          rw [hh] at hfold
          simp at hfold
          have : (ByteArray.empty).data ++ bs.toArray = ByteArray.empty.data := by
            have := congrArg ByteArray.data (hfold.symm)
            simpa using this
          simpa using this
        subst hb0
        simp only [convert, Sem.run_bind, hUs, hUd, Result.andThen_ok, hUe, Conv.bytesToString, Sem.run_pure]
        rfl
      | some a =>
        have hlen : n = bs.length := by
          cases h with
          | ro _ _ _ _ => obtain rfl := Option.some.inj hes; exact a2
          | roEnd _ => obtain rfl := Option.some.inj hes; rw [← a2]; rfl
          | own hρ hlo hn =>
            simp only [aelems] at hes
            split at hes
            case h_2 => cases hes
            split at hes
            case isFalse => cases hes
            rename_i hc
            obtain rfl := Option.some.inj hes
            rw [← a2]; simp; omega
          | vw hρ hlo hn =>
            simp only [aelems] at hes
            split at hes
            case h_2 => cases hes
            split at hes
            case isFalse => cases hes
            rename_i hc
            obtain rfl := Option.some.inj hes
            rw [← a2]; simp; omega
          | ownEnd _ _ =>
            simp only [aelems] at hes
            split at hes
            case h_2 => cases hes
            split at hes
            case isFalse => cases hes
            obtain rfl := Option.some.inj hes
            rw [← a2]; simp
          | emp _ => obtain rfl := Option.some.inj hes; rw [← a2]; rfl
          | val _ => simp [aelems] at hes
          | any _ => cases hes
        subst hlen
        have hlc : (loadCells a bs.length).run P w = .ok new.toArray w := by
          have := hcells; simpa [Builtin.firstCells] using this
        simp only [convert, Sem.run_bind, hUs, hUd, Result.andThen_ok, hUe, Conv.bytesToString, hlc]
        rw [← Array.forIn_toList]
        rw [run_bytesLoop (P := P) (w := w) _ (fun _ _ => rfl) new ByteArray.empty ⟨bs.toArray⟩ (by rw [hfold]; simp)]; rfl
    | string s =>
      cases h with
      | val _ => exact absurd rfl (hns s)
      | any _ => cases hes
    | _ => cases h <;> simp [aelems] at hes
end
end Go.Proofs.Ytjfdgijgkbojnaa.E
