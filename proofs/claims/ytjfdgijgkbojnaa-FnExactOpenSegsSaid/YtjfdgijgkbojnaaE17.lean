/- The engine, part 17: what is looked up first is what is looked up at last. -/
import Derived.Test.YtjfdgijgkbojnaaE16
set_option linter.unusedSectionVars false
namespace Go.Proofs.Ytjfdgijgkbojnaa.E
open Go Go.RowKit
variable [Lam]

theorem lod_aload {T : Tab} {t : TypeId} {ti : TI} (ht : T t = some ti) (ha : isAggD ti.under = false) (hs : ti.size = 1) {p : AV} {σ : AH} (v : AV) (h : lod p σ = some v) : aload T t p σ = some v := by
  unfold lod at h; unfold aload
  rw [ht]
  cases hc : acellsAt σ p with
  | none => rw [hc] at h; cases h
  | some cs =>
    rw [hc] at h
    cases cs with
    | nil => cases h
    | cons c r => obtain rfl := Option.some.inj h; simp [ha, hs]
theorem lodA_aload {T : Tab} {t : TypeId} {ti : TI} (ht : T t = some ti) (ha : isAggD ti.under = true) {p : AV} {σ : AH} (v : AV) (h : lodA ti.size p σ = some v) : aload T t p σ = some v := by
  unfold lodA at h; unfold aload
  rw [ht]
  cases hc : acellsAt σ p with
  | none => rw [hc] at h; cases h
  | some cs =>
    rw [hc] at h
    simp only at h ⊢
    split at h
    · rename_i hn; rw [if_pos hn, ha]; exact h
    · cases h
theorem fldA_ok {T : Tab} {t : TypeId} {f o n : Nat} {b : Bool} (h : fldOf T t f = some (o, n + 1, b)) {p : AV} (v : AV) (hv : fldA o p = some v) : afieldAddr T t p f = some v := by
  obtain ⟨ti, fs, fl, tf, h1, h2, h3, h4, rfl, h6, _⟩ := fldOf_some h
  unfold afieldAddr
  simp only [h1, h2, h3, h4]
  rw [if_neg (by omega)]
  exact hv
theorem fldV_ok {T : Tab} {t : TypeId} {f o n : Nat} (h : fldOf T t f = some (o, n, false)) {x : AV} (v : AV) (hv : fldV o x = some v) : afield T t x f = some v := by
  obtain ⟨ti, fs, fl, tf, h1, h2, h3, h4, rfl, rfl, h7⟩ := fldOf_some h
  unfold fldV at hv
  split at hv
  case h_2 => cases hv
  unfold afield apart
  simp only [h1, h2, h3, h4, h7]
  exact hv
theorem fldG_ok {T : Tab} {t : TypeId} {f o n : Nat} (h : fldOf T t f = some (o, n, true)) {x : AV} (v : AV) (hv : fldG o n x = some v) : afield T t x f = some v := by
  obtain ⟨ti, fs, fl, tf, h1, h2, h3, h4, rfl, rfl, h7⟩ := fldOf_some h
  unfold fldG at hv
  split at hv
  case h_2 => cases hv
  unfold afield apart
  simp only [h1, h2, h3, h4, h7]
  exact hv
theorem idx_ok {T : Tab} {t : TypeId} {te : TI} (h : sliceOf T t = some te) {x i : AV} {σ : AH} (v : AV) (hv : idx te.size x i σ = some v) : aindexAddr T t x i σ = some v := by
  obtain ⟨ti, e, h1, h2, h3⟩ := sliceOf_some h
  unfold idx at hv
  split at hv
  case h_2 => cases hv
  split at hv
  · unfold aindexAddr; simp only [h1, h2, h3]; exact hv
  · unfold aindexAddr; simp only [h1, h2, h3]
    split at hv
    · rename_i F hF; simp only [hF]; exact hv
    · cases hv
  · cases hv
theorem idxArr_ok {T : Tab} {t e : TypeId} {ti te : TI} {n : Nat} (h1 : T t = some ti) (h2 : ti.under = .array n e) (h3 : T e = some te) {x i : AV} {σ : AH} (v : AV) (hv : idxArr n te.size x i = some v) : aindexAddr T t x i σ = some v := by
  unfold idxArr at hv
  split at hv
  case h_2 => cases hv
  split at hv
  · unfold aindexAddr; simp only [h1, h2, h3]; exact hv
  · unfold aindexAddr; simp only [h1, h2, h3]; exact hv
  · cases hv
theorem idxStr_ok {T : Tab} {t : TypeId} (h : isStr T t = true) {x i : AV} (v : AV) (hv : idxStr x i = some v) : aindex T t x i = some v := by
  obtain ⟨ti, h1, h2⟩ := isStr_some h
  unfold idxStr at hv
  split at hv
  case h_2 => cases hv
  split at hv
  · unfold aindex; simp only [h1, h2]; exact hv
  · cases hv
theorem lenS_ok {T : Tab} {t : TypeId} {te : TI} (h : sliceOf T t = some te) {x : AV} (v : AV) (hv : lenS x = some v) : alen T t x = some v := by
  obtain ⟨ti, e, h1, h2, h3⟩ := sliceOf_some h
  unfold lenS at hv
  split at hv <;> first | (cases hv; done) | (unfold alen; simp only [h1, h2]; exact hv)
theorem lenStr_ok {T : Tab} {t : TypeId} (h : isStr T t = true) {x : AV} (v : AV) (hv : lenStr x = some v) : alen T t x = some v := by
  obtain ⟨ti, h1, h2⟩ := isStr_some h
  unfold lenStr at hv
  split at hv
  · unfold alen; simp only [h1, h2]; exact hv
  · cases hv
theorem slcStr_ok {T : Tab} {t : TypeId} (h : isStr T t = true) {x : AV} {lo hi : Option AV} {σ : AH} (v : AV) (hv : slcStr x lo hi = some v) : aslice T t x lo hi none σ = some v := by
  obtain ⟨ti, h1, h2⟩ := isStr_some h
  unfold slcStr at hv
  split at hv
  case h_2 => cases hv
  unfold aslice; simp only [h1, h2]
  split at hv
  · rename_i l h' e1 e2; simp only [e1, e2]; exact hv
  · cases hv
theorem slc_ok {T : Tab} {t : TypeId} {te : TI} (h : sliceOf T t = some te) {x : AV} {lo hi mx : Option AV} {σ : AH} (v : AV) (hv : slc te.size x lo hi mx σ = some v) : aslice T t x lo hi mx σ = some v := by
  obtain ⟨ti, e, h1, h2, h3⟩ := sliceOf_some h
  unfold slc at hv
  split at hv
  · unfold aslice; simp only [h1, h2, h3]
    split at hv
    · rename_i l h' m e1 e2 e3; simp only [e1, e2, e3]; exact hv
    · cases hv
  · unfold aslice; simp only [h1, h2, h3]
    split at hv
    · rename_i F l h' e0 e1 e2; simp only [e0, e1, e2]; exact hv
    · rename_i F l h' m e0 e1 e2; simp only [e0, e1, e2]; exact hv
    · cases hv
  · unfold aslice; simp only [h1, h2, h3]
    split at hv
    · rename_i e1 e2; simp only [e1, e2]; exact hv
    · cases hv
  · unfold aslice; simp only [h1, h2, h3]
    split at hv
    · rename_i e1 e2; simp only [e1, e2]; exact hv
    · cases hv
  · cases hv
theorem app_ok {T : Tab} {ats : Array TypeId} {sz : Nat} (h : appOk T ats = some sz) {s x : AV} {σ : AH} {k : AV → AH → Prop} (hv : app sz s x σ k) : aappend T ats s x σ k := by
  unfold appOk at h
  split at h
  case h_2 => cases h
  rename_i t u h0 h1
  split at h
  case h_2 => cases h
  rename_i ti tu h2 h3
  split at h
  · cases h
  rename_i hni
  split at h
  case h_2 => cases h
  rename_i e he
  split at h
  case h_2 => cases h
  rename_i te hte
  split at h
  case h_2 => cases h
  rename_i b1 b2
  obtain rfl := Option.some.inj h
  unfold app at hv
  split at hv
  case h_2 => exact hv.elim
  rename_i xs hx
  unfold aappend
  obtain ⟨g1, g2⟩ := hv
  simp only [h0, h1, h2, h3, hx, he, hte]
  exact ⟨g1, Nat.le_of_ble_eq_true b1, Nat.le_of_ble_eq_true b2, g2⟩
theorem ibin_ok {T : Tab} {op : BinOp} {t : TypeId} {x y : AV} {k : AV → Prop} (h : og (ibin op x y) k) : abin T op t x y k := by
  obtain ⟨v, hv, hk⟩ := og_some h
  unfold ibin at hv
  split at hv
  case h_2 => cases hv
  unfold abin
  simp only [hv]; exact hk
theorem sbin_ok {T : Tab} {op : BinOp} {t : TypeId} {x y : AV} {k : AV → Prop} (h : og (sbin op x y) k) : abin T op t x y k := by
  obtain ⟨v, hv, hk⟩ := og_some h
  unfold sbin at hv
  split at hv
  case h_2 => cases hv
  unfold abin
  simp only [hv]; exact hk
theorem bop_ok {P : Program} {T : Tab} {o : Op} {ev : Operand → AV} {σ : AH} {K : AEnd → AH → Prop} (h : bop P T o ev σ K) : aop P T o ev σ K := by
  unfold bop at h
  split at h
  · exact h
  · exact h
  · obtain ⟨v, hv, hk⟩ := og_some h
    simp only [aop]
    unfold pickV at hv
    split at hv
    · rename_i e; simp only [e, apick]; obtain rfl := Option.some.inj hv; exact hk
    · rename_i e; simp only [e, apick]; obtain rfl := Option.some.inj hv; exact hk
    · cases hv
  · split at h
    · rename_i ti ht
      show aalloc T _ σ _
      unfold aalloc abox
      simp only [ht, acells_ofV]
      exact h
    · exact h.elim
  · exact h
  · split at h
    case h_2 => exact h.elim
    rename_i ti ht
    split at h
    · rename_i fs hfs
      split at h
      case h_2 => exact h.elim
      rename_i pl hpl
      refine og_le (fun v hv => ?_) h
      unfold bld at hv; unfold abuild
      simp only [ht, hfs, hpl]; exact hv
    · exact h
  · split at h
    case h_2 => exact h.elim
    rename_i te hte
    obtain ⟨ti, e, h1, h2, h3⟩ := sliceOf_some hte
    unfold bsl at h
    simp only [aop]; unfold abuildSlice
    simp only [h1, h2, h3]
    exact h
  · split at h
    case h_2 => exact h.elim
    rename_i ti ht
    split at h
    · rename_i n ha; exact og_le (lodA_aload ht ha) h
    · rename_i ha hs; exact og_le (lod_aload ht ha hs) h
    · exact h.elim
  · split at h
    case h_2 => exact h.elim
    rename_i ti ht
    show astore T _ _ _ σ _
    unfold sto at h
    split at h
    case h_2 => exact h.elim
    rename_i e1 e2
    unfold astore
    simp only [ht, e1, e2]; exact h
  · exact h
  · split at h
    · refine (ibin_ok ?_ : abin T _ _ _ _ _); exact h
    · refine (sbin_ok ?_ : abin T _ _ _ _ _); exact h
    · exact h
  · split at h
    · rename_i te _ _ _ hte; exact og_le (slc_ok hte) h
    · rename_i hs _; exact og_le (slcStr_ok hs) h
    · exact h
  · split at h
    · rename_i hf; exact og_le (fldA_ok hf) h
    · exact h.elim
  · split at h
    · rename_i hf; exact og_le (fldG_ok hf) h
    · rename_i hf; exact og_le (fldV_ok hf) h
    · exact h.elim
  · split at h
    · rename_i te hte; exact og_le (idx_ok hte) h
    · split at h
      case h_2 => exact h.elim
      rename_i ti ht
      split at h
      case h_2 => exact h.elim
      rename_i len e he
      split at h
      case h_2 => exact h.elim
      rename_i te hte
      exact og_le (idxArr_ok ht he hte) h
  · split at h
    · rename_i hs; exact og_le (idxStr_ok hs) h
    · exact h
  · rename_i c
    show (match c.callee with | .value f => _ | .builtin b => _ | .invoke _ _ => _)
    split at h
    · rename_i hc; simp only [hc]; exact h
    · rename_i b hc
      simp only [hc]
      split at h
      · rename_i hx
        simp only [hx]
        split at h
        case h_2 => exact h.elim
        rename_i t ht
        simp only [ht]
        split at h
        · rename_i _ hs; exact og_le (lenS_ok hs) h
        · rename_i hs _; exact og_le (lenStr_ok hs) h
        · exact h
      · rename_i hx
        simp only [hx]
        split at h
        case h_2 => exact h.elim
        rename_i sz hsz
        exact app_ok hsz h
      · rename_i hx; simp only [hx]; exact h
      · rename_i hx; simp only [hx]; exact h
      · exact h.elim
    · exact h.elim
  · exact h
end Go.Proofs.Ytjfdgijgkbojnaa.E
