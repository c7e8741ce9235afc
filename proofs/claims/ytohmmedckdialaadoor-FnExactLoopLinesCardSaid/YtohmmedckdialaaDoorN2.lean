/- ParseNum, walked. -/
import Derived.Test.YtohmmedckdialaaDoorN1
import Derived.Test.YtohmmedckdialaaDoorC3
import Derived.Test.YtohmmedckdialaaDoorSH
import Derived.Lib.ParseIntBTie
import Derived.WalkKit
import Derived.BigCall
import Derived.Deep.DeepFit
import Derived.Lib.AppendIntMem
set_option linter.unusedSectionVars false
set_option linter.unusedSimpArgs false
set_option linter.unusedVariables false
namespace Go.Proofs.YtohmmedckdialaaDoor.E
open Go Go.RowKit
set_option maxRecDepth 100000
/-- A call's contract over no families, at a world of its own. -/
theorem calls_bel {P : Program} {f : FuncId} {args : List AV} {vs : List Value} {v : Value} {W : World} (h : @acall lam0 P f args ah0 (fun e _ => e = .ret (.val v))) (hv : VRs (kap0 W) args vs) :
    Calls P f vs.toArray W fun e w' => e = .returned v ∧ Below W.heap.size W w' := by
  letI : Lam := lam0
  obtain ⟨fn, h1, h2, h3, h4⟩ := h
  refine (h4 (kap0 W) W vs (rel0 W) hv).mono ?_
  rintro e w' ⟨κ', ae, σ', rfl, hs, hE⟩
  have hb := hs.rel.bel
  rw [hs.ext.B, hs.ext.W] at hb
  cases e with
  | returned v => cases hE; exact ⟨rfl, hb⟩
  | _ => exact hE.elim
def codeB (lo hi v : Int) : Int := if inB lo hi v then 0 else 3
theorem w_NumFault (n : Int) (w : World) : Calls TP fn_impl_NumFault #[.int .i64 n] w fun e w' => e = .returned (.int .i64 (codeB (-1000000000) 1000000000 n)) ∧ Below w.heap.size w w' := by
  letI : Lam := lam0
  refine calls_bel (args := [iv n]) (vs := [.int .i64 n]) ?_ (.cons (.val _) (.nil _))
  refine s_impl_NumFault_ok ?_
  unfold s_impl_NumFault codeB
  refine c_impl_in ?_
  cases c : inB (-1000000000) 1000000000 n <;> simp only [RR] <;> exact ret_here rfl
theorem w_dec (n : Int) (h0 : -9223372036854775808 ≤ n) (h1 : n ≤ 9223372036854775807) (w : World) (ht : Lib.TabIs Tryd.prog w "internal/strconv.uint64pow10" .u64 Lib.pow10Tab) :
    Calls Tryd.prog 68 #[.int .i64 n] w fun e w' => e = .returned (.string (itB n)) ∧ Below w.heap.size w w' := by
  go_enter Tryd.func68, Tryd.ntmps68
  go_wp2_with (go_at_call 84; refine (sh_strconv_FormatInt_10 n h0 h1 _ ht).mono ?_; rintro e w' ⟨rfl, k, os, rfl⟩)
  go_ret
  exact ⟨rfl, Lib.below_grow _ _ (Nat.le_refl _) _ _⟩
/-- What is asked of a world. -/
structure NumW (w : World) : Prop where
  tab : Lib.TabIs Tryd.prog w "internal/strconv.uint64pow10" .u64 Lib.pow10Tab
  e1 : ∃ ev, w.cell? ⟨laysC174_ren.g 15, 0, none⟩ = some ev ∧ (ev = .nilIface ∨ ∃ te pe, ev = .iface te pe)
  e2 : ∃ ev, w.cell? ⟨laysC174_ren.g 16, 0, none⟩ = some ev ∧ (ev = .nilIface ∨ ∃ te pe, ev = .iface te pe)
theorem NumW.below {B : Nat} {w w' : World} (h : NumW w) (hb : Below B w w') (hB : w.heap.size ≤ B) : NumW w' := by
  obtain ⟨a, ⟨v1, b1, c1⟩, ⟨v2, b2, c2⟩⟩ := h
  exact ⟨tab_below a hb hB, ⟨v1, cell_below b1 hb hB, c1⟩, ⟨v2, cell_below b2 hb hB, c2⟩⟩
theorem below_res {w w1 : World} {t : TypeId} {x y : Value} (hb : Below (w.alloc (.cells #[x, y] t)).heap.size (w.alloc (.cells #[x, y] t)) w1) :
    w1.heap[w.heap.size]? = some (.cells #[x, y] t) := by
  rw [hb.block _ (by show w.heap.size < (w.heap.push _).size; rw [Array.size_push]; omega)]
  exact heap_alloc_new w _
theorem set_res {w1 : World} {b : Nat} {t : TypeId} {x y p q : Value} (h : w1.heap[b]? = some (.cells #[x, y] t)) :
    ((w1.setCell ⟨b, 0, none⟩ p).setCell ⟨b, 1, none⟩ q).heap[b]? = some (.cells #[p, q] t) := by
  unfold World.setCell
  simp only [Array.getElem?_modify, h, if_true, Option.map_some]
  rfl
/-- What is known of the result's cells behind calls that only let the world grow. -/
theorem res_facts {w w1 w2 : World} {t : TypeId} {x y : Value} (h1 : Below (w.alloc (.cells #[x, y] t)).heap.size (w.alloc (.cells #[x, y] t)) w1) (h2 : Below w1.heap.size w1 w2) :
    Below (w.alloc (.cells #[x, y] t)).heap.size (w.alloc (.cells #[x, y] t)) w2 ∧ w2.heap[w.heap.size]? = some (.cells #[x, y] t) ∧ w2.cell? ⟨w.heap.size, 0, none⟩ = some x ∧ w2.cell? ⟨w.heap.size, 1, none⟩ = some y ∧
      w2.frozen? ⟨w.heap.size, 0, none⟩ = false ∧ w2.frozen? ⟨w.heap.size, 1, none⟩ = false := by
  have hb := h1.trans (h2.mono h1.size)
  have hr := below_res hb
  exact ⟨hb, hr, by simp [World.cell?, hr], by simp [World.cell?, hr], by simp [World.frozen?, hr], by simp [World.frozen?, hr]⟩
theorem w_ParseNum_syntax (s : ByteArray) (hs : s.size ≤ 281474976710656) (w : World) (hw : NumW w) (h : Lib.parseIntB 64 s.data.toList = Go.Lib.NumEnd.syntax) :
    Calls Tryd.prog 36 #[.string s] w fun e w' => e = .returned (.agg #[.int .i64 5, .int .i64 0]) ∧ Below w.heap.size w w' := by
  obtain ⟨ev, hv, hev⟩ := hw.e1
  have hg : laysC174_ren.g 15 < w.heap.size := World.block_lt_of_cell? (h := hv)
  go_enter Tryd.func36, Tryd.ntmps36
  go_wp2_with (go_at_call 66; refine (sh_strconv_ParseInt_10_at64_syntax s hs h ev _ ?_ hev).mono ?_)
  · exact cell_below hv (.alloc (.refl w.heap.size w) (Nat.le_refl _) _) (Nat.le_refl _)
  rintro e w1 ⟨N, rfl, -, -, hb⟩
  have hr := below_res hb
  have hc0 : w1.cell? ⟨w.heap.size, 0, none⟩ = some (.int .i64 0) := by simp [World.cell?, hr]
  have hc1 : w1.cell? ⟨w.heap.size, 1, none⟩ = some (.int .i64 0) := by simp [World.cell?, hr]
  have hf0 : w1.frozen? ⟨w.heap.size, 0, none⟩ = false := by simp [World.frozen?, hr]
  have hf1 : w1.frozen? ⟨w.heap.size, 1, none⟩ = false := by simp [World.frozen?, hr]
  go_wp2
  (try simp only [Exit.inBlock, Exit.then])
  refine bodyPost_ret (results_cell_row Tryd.results36 _ _ w.heap.size 57 _ (0, 0) _ rfl (set_res hr) Tryd.underlying57 rfl rfl) rfl ?_
  exact ⟨rfl, .setCell (.setCell ((Below.alloc (.refl w.heap.size w) (Nat.le_refl _) _).trans (hb.mono (by simp))) (Nat.le_refl _) _) (Nat.le_refl _) _⟩
theorem w_ParseNum_range (s : ByteArray) (hs : s.size ≤ 281474976710656) (w : World) (hw : NumW w) (h : Lib.parseIntB 64 s.data.toList = .range) :
    Calls Tryd.prog 36 #[.string s] w fun e w' => e = .returned (.agg #[.int .i64 5, .int .i64 0]) ∧ Below w.heap.size w w' := by
  obtain ⟨ev, hv, hev⟩ := hw.e2
  have hg : laysC174_ren.g 16 < w.heap.size := World.block_lt_of_cell? (h := hv)
  go_enter Tryd.func36, Tryd.ntmps36
  go_wp2_with (go_at_call 66; refine (sh_strconv_ParseInt_10_at64_range s hs h ev _ ?_ hev).mono ?_)
  · exact cell_below hv (.alloc (.refl w.heap.size w) (Nat.le_refl _) _) (Nat.le_refl _)
  rintro e w1 ⟨N, rfl, -, -, hb⟩
  have hr := below_res hb
  have hc0 : w1.cell? ⟨w.heap.size, 0, none⟩ = some (.int .i64 0) := by simp [World.cell?, hr]
  have hc1 : w1.cell? ⟨w.heap.size, 1, none⟩ = some (.int .i64 0) := by simp [World.cell?, hr]
  have hf0 : w1.frozen? ⟨w.heap.size, 0, none⟩ = false := by simp [World.frozen?, hr]
  have hf1 : w1.frozen? ⟨w.heap.size, 1, none⟩ = false := by simp [World.frozen?, hr]
  go_wp2
  (try simp only [Exit.inBlock, Exit.then])
  refine bodyPost_ret (results_cell_row Tryd.results36 _ _ w.heap.size 57 _ (0, 0) _ rfl (set_res hr) Tryd.underlying57 rfl rfl) rfl ?_
  exact ⟨rfl, .setCell (.setCell ((Below.alloc (.refl w.heap.size w) (Nat.le_refl _) _).trans (hb.mono (by simp))) (Nat.le_refl _) _) (Nat.le_refl _) _⟩
theorem w_ParseNum_far (s : ByteArray) (hs : s.size ≤ 281474976710656) (w : World) (hw : NumW w) (v : Int) (h : Lib.parseIntB 64 s.data.toList = .ok v) (hi : inB (-1000000000) 1000000000 v = false) :
    Calls Tryd.prog 36 #[.string s] w fun e w' => e = .returned (.agg #[.int .i64 5, .int .i64 0]) ∧ Below w.heap.size w w' := by
  have hv := Lib.parseIntB_bounds h
  have cN : ∀ w, Calls Tryd.prog 67 #[.int .i64 v] w fun e w' => e = .returned (.int .i64 3) ∧ Below w.heap.size w w' := fun w => by
    have := w_NumFault v w
    unfold codeB at this
    rw [hi] at this
    exact this
  go_enter Tryd.func36, Tryd.ntmps36
  go_wp2_with (go_at_call 66; refine (sh_strconv_ParseInt_10_at64_ok s (by omega) v h _).mono ?_; rintro e w1 ⟨rfl, hW⟩)
  have hb1 : Below (w.alloc (.cells #[.int .i64 0, .int .i64 0] 57)).heap.size (w.alloc (.cells #[.int .i64 0, .int .i64 0] 57)) w1 := by
    rcases hW with rfl | ⟨t, rfl⟩
    · exact Below.refl _ _
    · exact Lib.bytesWorld_below _ _ _
  clear hW
  go_wp2_with (go_at_call 67; refine (cN _).mono ?_; rintro e w2 ⟨rfl, hb2⟩; obtain ⟨hb2, hr, hc0, hc1, hf0, hf1⟩ := res_facts hb1 hb2)
  go_wp2
  (try simp only [Exit.inBlock, Exit.then])
  refine bodyPost_ret (results_cell_row Tryd.results36 _ _ w.heap.size 57 _ (0, 0) _ rfl (set_res hr) Tryd.underlying57 rfl rfl) rfl ?_
  exact ⟨rfl, .setCell (.setCell ((Below.alloc (.refl w.heap.size w) (Nat.le_refl _) _).trans (hb2.mono (by simp))) (Nat.le_refl _) _) (Nat.le_refl _) _⟩
theorem w_ParseNum_bad (s : ByteArray) (hs : s.size ≤ 281474976710656) (w : World) (hw : NumW w) (v : Int) (h : Lib.parseIntB 64 s.data.toList = .ok v) (hi : inB (-1000000000) 1000000000 v = true) (hd : ¬ itB v = s) :
    Calls Tryd.prog 36 #[.string s] w fun e w' => e = .returned (.agg #[.int .i64 5, .int .i64 0]) ∧ Below w.heap.size w w' := by
  have hv := Lib.parseIntB_bounds h
  have cN : ∀ w, Calls Tryd.prog 67 #[.int .i64 v] w fun e w' => e = .returned (.int .i64 0) ∧ Below w.heap.size w w' := fun w => by
    have := w_NumFault v w
    unfold codeB at this
    rw [hi] at this
    exact this
  have hl : ((itB v).toList == s.toList) = false := by rw [@toList_beq lam0]; simp [hd]
  go_enter Tryd.func36, Tryd.ntmps36
  go_wp2_with (go_at_call 66; refine (sh_strconv_ParseInt_10_at64_ok s (by omega) v h _).mono ?_; rintro e w1 ⟨rfl, hW⟩)
  have hb1 : Below (w.alloc (.cells #[.int .i64 0, .int .i64 0] 57)).heap.size (w.alloc (.cells #[.int .i64 0, .int .i64 0] 57)) w1 := by
    rcases hW with rfl | ⟨t, rfl⟩
    · exact Below.refl _ _
    · exact Lib.bytesWorld_below _ _ _
  clear hW
  go_wp2_with (go_at_call 67; refine (cN _).mono ?_; rintro e w2 ⟨rfl, hb2⟩; obtain ⟨hb2, hr, hc0, hc1, hf0, hf1⟩ := res_facts hb1 hb2)
  have ht : Lib.TabIs Tryd.prog w2 "internal/strconv.uint64pow10" .u64 Lib.pow10Tab := tab_below hw.tab ((Below.alloc (.refl w.heap.size w) (Nat.le_refl _) _).trans (hb2.mono (by simp))) (Nat.le_refl _)
  have i1 := (@inB_iff lam0 _ _ _).1 hi
  go_wp2_with (go_at_call 68; refine (w_dec v (by omega) (by omega) w2 ht).mono ?_; rintro e w3 ⟨rfl, hb3⟩; obtain ⟨hb3, hr, hc0, hc1, hf0, hf1⟩ := res_facts hb2 hb3)
  go_wp2
  all_goals first
    | (exfalso; simp_all; done)
    | skip
  (try simp only [Exit.inBlock, Exit.then])
  refine bodyPost_ret (results_cell_row Tryd.results36 _ _ w.heap.size 57 _ (0, 0) _ rfl (set_res hr) Tryd.underlying57 rfl rfl) rfl ?_
  exact ⟨rfl, .setCell (.setCell ((Below.alloc (.refl w.heap.size w) (Nat.le_refl _) _).trans (hb3.mono (by simp))) (Nat.le_refl _) _) (Nat.le_refl _) _⟩
theorem w_ParseNum_good (s : ByteArray) (hs : s.size ≤ 281474976710656) (w : World) (hw : NumW w) (v : Int) (h : Lib.parseIntB 64 s.data.toList = .ok v) (hi : inB (-1000000000) 1000000000 v = true) (hd : itB v = s) :
    Calls Tryd.prog 36 #[.string s] w fun e w' => e = .returned (.agg #[.int .i64 0, .int .i64 v]) ∧ Below w.heap.size w w' := by
  have hv := Lib.parseIntB_bounds h
  have cN : ∀ w, Calls Tryd.prog 67 #[.int .i64 v] w fun e w' => e = .returned (.int .i64 0) ∧ Below w.heap.size w w' := fun w => by
    have := w_NumFault v w
    unfold codeB at this
    rw [hi] at this
    exact this
  have hl : ((itB v).toList == s.toList) = true := by rw [@toList_beq lam0]; simp [hd]
  go_enter Tryd.func36, Tryd.ntmps36
  go_wp2_with (go_at_call 66; refine (sh_strconv_ParseInt_10_at64_ok s (by omega) v h _).mono ?_; rintro e w1 ⟨rfl, hW⟩)
  have hb1 : Below (w.alloc (.cells #[.int .i64 0, .int .i64 0] 57)).heap.size (w.alloc (.cells #[.int .i64 0, .int .i64 0] 57)) w1 := by
    rcases hW with rfl | ⟨t, rfl⟩
    · exact Below.refl _ _
    · exact Lib.bytesWorld_below _ _ _
  clear hW
  go_wp2_with (go_at_call 67; refine (cN _).mono ?_; rintro e w2 ⟨rfl, hb2⟩; obtain ⟨hb2, hr, hc0, hc1, hf0, hf1⟩ := res_facts hb1 hb2)
  have ht : Lib.TabIs Tryd.prog w2 "internal/strconv.uint64pow10" .u64 Lib.pow10Tab := tab_below hw.tab ((Below.alloc (.refl w.heap.size w) (Nat.le_refl _) _).trans (hb2.mono (by simp))) (Nat.le_refl _)
  have i1 := (@inB_iff lam0 _ _ _).1 hi
  go_wp2_with (go_at_call 68; refine (w_dec v (by omega) (by omega) w2 ht).mono ?_; rintro e w3 ⟨rfl, hb3⟩; obtain ⟨hb3, hr, hc0, hc1, hf0, hf1⟩ := res_facts hb2 hb3)
  go_wp2
  all_goals first
    | (exfalso; simp_all; done)
    | skip
  (try simp only [Exit.inBlock, Exit.then])
  refine bodyPost_ret (results_cell_row Tryd.results36 _ _ w.heap.size 57 _ (0, 0) _ rfl (set_res hr) Tryd.underlying57 rfl rfl) rfl ?_
  exact ⟨rfl, .setCell (.setCell ((Below.alloc (.refl w.heap.size w) (Nat.le_refl _) _).trans (hb3.mono (by simp))) (Nat.le_refl _) _) (Nat.le_refl _) _⟩
theorem w_ParseNum (s : ByteArray) (hs : s.size ≤ 281474976710656) (w : World) (hw : NumW w) :
    Calls Tryd.prog 36 #[.string s] w fun e w' => e = .returned (.agg #[.int .i64 (numP s).2, .int .i64 (numP s).1]) ∧ Below w.heap.size w w' := by
  unfold numP
  cases h : Lib.parseIntB 64 s.data.toList with
  | range => exact w_ParseNum_range s hs w hw h
  | ok v =>
    cases hi : inB (-1000000000) 1000000000 v with
    | false =>
      have := w_ParseNum_far s hs w hw v h hi
      simpa [hi] using this
    | true =>
      by_cases hd : itB v = s
      · have := w_ParseNum_good s hs w hw v h hi hd
        simpa [hi, hd] using this
      · have := w_ParseNum_bad s hs w hw v h hi hd
        simpa [hi, hd] using this
  | _ => exact w_ParseNum_syntax s hs w hw h
end Go.Proofs.YtohmmedckdialaaDoor.E
