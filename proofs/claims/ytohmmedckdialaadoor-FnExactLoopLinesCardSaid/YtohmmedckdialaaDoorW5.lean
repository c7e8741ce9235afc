/- Lines of a text: the program. -/
import Derived.Test.YtohmmedckdialaaDoorN3
import Derived.Test.YtohmmedckdialaaDoorSD
import Derived.Test.YtohmmedckdialaaDoorW3
import Derived.Test.YtohmmedckdialaaDoorW4
set_option linter.unusedSectionVars false
set_option linter.unusedSimpArgs false
set_option linter.unusedVariables false
namespace Go.Proofs.YtohmmedckdialaaDoor.E
open Go Go.RowKit
set_option maxRecDepth 100000
def blankB (s : ByteArray) : Bool := (Lib.trimB s.data.toList 32).isEmpty
theorem w_blank (s : ByteArray) (hs : s.size ≤ 1048576) (w : World) : Calls Tryd.prog 28 #[.string s] w fun e w' => e = .returned (.bool (blankB s)) ∧ ∃ q, w' = w.drewN q := by
  go_enter Tryd.func28, Tryd.ntmps28
  go_wp2_with (go_at_call 29; refine (sh_strings_Trim_one s 32 (by decide) _ (by omega)).mono ?_; rintro e w' ⟨rfl, hw⟩)
  go_ret
  refine ⟨rfl, ?_⟩
  rcases hw with rfl | rfl
  · exact ⟨0, rfl⟩
  · exact ⟨1, rfl⟩
theorem dw_nil (m : List UInt8) : (m.dropWhile fun c => c == 32) = [] ↔ ∀ b, b ∈ m → (b == 32) = true := by
  induction m with
  | nil => simp
  | cons b m ih =>
    rw [List.dropWhile_cons]
    by_cases h : (b == 32) = true
    · rw [if_pos h, ih]
      exact ⟨fun g x hx => (List.mem_cons.1 hx).elim (fun e => e ▸ h) (g x), fun g x hx => g x (.tail _ hx)⟩
    · rw [if_neg h]
      exact ⟨fun g => (List.cons_ne_nil _ _ g).elim, fun g => absurd (g b (.head _)) h⟩
theorem trim_nil (l : List UInt8) : Lib.trimB l 32 = [] ↔ ∀ b, b ∈ l → (b == 32) = true := by
  unfold Lib.trimB Lib.trimLeftB Lib.trimRightB
  constructor
  · intro h b hb
    have h1 := (dw_nil _).1 h
    have e := List.takeWhile_append_dropWhile (p := fun c : UInt8 => c == 32) (l := l.reverse)
    have hb' : b ∈ l.reverse := by simpa using hb
    rw [← e] at hb'
    rcases List.mem_append.1 hb' with hb' | hb'
    · have := List.all_eq_true.1 (List.all_takeWhile (p := fun c : UInt8 => c == 32) (l := l.reverse)) b hb'
      exact this
    · exact h1 b (by simpa using hb')
  · intro h
    have : (l.reverse.dropWhile fun c => c == 32) = [] := (dw_nil _).2 fun b hb => h b (by simpa using hb)
    rw [this]; rfl
theorem blank_iff (l : List UInt8) : blankB (bs l) = l.all isSpc := by
  have hl : (bs l).data.toList = l := by simp
  unfold blankB
  rw [hl]
  by_cases h : ∀ b, b ∈ l → (b == 32) = true
  · rw [(trim_nil l).2 h]
    exact (List.all_eq_true.2 h).symm
  · have hne : Lib.trimB l 32 ≠ [] := fun hc => h ((trim_nil l).1 hc)
    have e : l.all isSpc = false := by
      rw [Bool.eq_false_iff]
      intro ha
      exact h (List.all_eq_true.1 ha)
    rw [e]
    cases hc : Lib.trimB l 32 with
    | nil => exact absurd hc hne
    | cons x r => rfl
/-! ### DeleteFunc -/
def clip (x : ByteArray) : ByteArray := if x.size ≤ 1048576 then x else ⟨#[]⟩
theorem clip_le (x : ByteArray) : (clip x).size ≤ 1048576 := by
  unfold clip
  split
  · assumption
  · exact Nat.zero_le _
theorem clip_eq {x : ByteArray} (h : x.size ≤ 1048576) : clip x = x := by unfold clip; rw [if_pos h]
theorem w_delete (blk off cap : Nat) (zs : List ByteArray) (w : World) (hz : ∀ z, z ∈ zs → z.size ≤ 1048576) (hH : Go.Sort.Holds Value.string w blk off zs.toArray) (h1 : zs.length ≤ 9223372036854775807) (h2 : zs.length ≤ cap) :
    Calls Tryd.prog 26 #[.slice (some ⟨blk, off, none⟩) zs.length cap, .func (.func 28) #[] #[]] w fun e w' => e = .returned (.slice (some ⟨blk, off, none⟩) (zs.filter fun x => !blankB x).length cap) ∧
      ∃ q, w' = (w.drewN q).setCells blk off (((zs.filter fun x => !blankB x) ++ List.replicate (zs.length - (zs.filter fun x => !blankB x).length) (⟨#[]⟩ : ByteArray)).map Value.string) := by
  have g : ∀ (W : World) (x : ByteArray), FnGives Tryd.prog 28 #[] #[Value.string (clip x)] (.bool (blankB (clip x))) W := fun W x => w_blank (clip x) (clip_le x) W
  have hH2 : Go.Sort.Holds (fun x => Value.string (clip x)) w blk off zs.toArray := by
    intro j hj
    have hj' : j < zs.length := by simpa using hj
    obtain ⟨a, b⟩ := hH j hj
    refine ⟨?_, b⟩
    have e : zs.toArray[j]! = zs[j] := by simp [hj']
    rw [a]
    show _ = some (Value.string (clip (zs.toArray[j]!)))
    rw [e, clip_eq (hz _ (List.getElem_mem hj'))]
  have key := sh_slices_DeleteFunc (fun x : ByteArray => Value.string (clip x)) (fun _ => rfl) (fun x => blankB (clip x)) 28 #[] (enters_of Tryd.func28 (by decide) rfl) ⟨#[]⟩ Tryd.zeroValue9 blk off cap zs.toArray w (fun W x _ => g W x) (fun n os dk x _ => g _ x) hH2 (by simpa using h1) (by simpa using h2)
  have ef : (zs.filter fun x => !blankB (clip x)) = zs.filter fun x => !blankB x := List.filter_congr fun x hx => by rw [clip_eq (hz x hx)]
  simp only [List.size_toArray, ef] at key
  refine key.mono ?_
  rintro e w' ⟨rfl, q, hw⟩
  refine ⟨rfl, q, ?_⟩
  have hle := List.length_filter_le (fun x => !blankB x) zs
  have hg2 := Lib.sorted_world (fun x : ByteArray => Value.string (clip x)) w blk off q zs.toArray ((zs.filter fun x => !blankB x) ++ List.replicate (zs.length - (zs.filter fun x => !blankB x).length) (⟨#[]⟩ : ByteArray)) #[] hH2 (by simp; omega)
  rw [Go.Sort.grow_empty, Go.Sort.grow_empty] at hg2
  rw [hw, hg2]
  congr 1
  refine List.map_congr_left fun x hx => ?_
  rcases List.mem_append.1 hx with hx | hx
  · rw [clip_eq (hz x (List.mem_filter.1 hx).1)]
  · rw [(List.mem_replicate.1 hx).2]; rfl
end Go.Proofs.YtohmmedckdialaaDoor.E
