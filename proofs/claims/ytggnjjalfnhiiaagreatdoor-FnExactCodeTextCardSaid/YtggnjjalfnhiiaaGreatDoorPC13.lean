import Derived.Test.YtggnjjalfnhiiaaGreatDoorPC12
import Derived.Shelf.Strings.OnBuilder
import Derived.Shelf.Strings.BuilderK
import Derived.Test.YtggnjjalfnhiiaaGreatDoorProg
import Derived.Lib.FrozenHead
import Derived.Lib.OthersKept
import Derived.Deep.RegionWith
import Derived.WalkKit
import Derived.BigCall
import Derived.BigGuard
/- Code as a text: the plain law. No program in sight. -/
set_option linter.unusedSectionVars false
set_option linter.unusedSimpArgs false
set_option linter.unusedVariables false
namespace Go.Proofs.YtggnjjalfnhiiaaGreatDoor.E
open Go Go.RowKit
set_option maxRecDepth 100000
/-- The words of the kinds. -/
def kwL : List (List UInt8) := [[99, 111, 110, 115, 116], [108, 111, 99, 97, 108], [103, 108, 111, 98, 97, 108], [99, 108, 111, 115, 117, 114, 101], [106, 117, 109, 112], [105, 102, 110, 111, 116], [112, 111, 112], [115, 101, 116], [100, 101, 102], [99, 97, 108, 108], [116, 97, 105, 108], [114, 101, 116, 117, 114, 110], [99, 111, 110, 115, 116, 114, 101, 116], [108, 111, 99, 97, 108, 114, 101, 116], [108, 111, 99, 97, 108, 115], [108, 111, 99, 97, 108, 105, 102, 110, 111, 116]]
def hdO (o : OpD) : List (List UInt8) := kwL.getD (o.kind - 1).toNat [] :: (if namedB o.kind then [by8 o.name] else if dataB o.kind then [writeD o.data o.data.length 0] else [])
def wordsO (o : OpD) : List (List UInt8) := hdO o ++ ((opL o).take (numsN o.kind)).map Lib.itoa
def txtO (o : OpD) : List UInt8 := Lib.join (wordsO o) [32]
def lineO (k : Nat) (o : OpD) : List UInt8 := Lib.itoa (k : Int) ++ ([58, 32] ++ (txtO o ++ [10]))
def headB (i : Nat) (a : Int) : List UInt8 := [98, 108, 111, 99, 107, 32] ++ (Lib.itoa (i : Int) ++ ([32] ++ (Lib.itoa a ++ [10])))
def opsT (os : List OpD) (k : Nat) : List UInt8 := ((List.range k).map fun j => lineO j (os.getD j default)).flatten
def blkT (i : Nat) (b : Blk) : List UInt8 := headB i b.args ++ opsT b.ops b.ops.length
def codeT (bs : List Blk) (n : Nat) : List UInt8 := ((List.range n).map fun i => blkT i (bs.getD i default)).flatten
/-- What code is as a text: a code, a text. -/
def btxt (bs : List Blk) : Int × List UInt8 := if opsF bs ≠ 0 then (opsF bs, []) else if 6000 < (codeT bs bs.length).length then (2, []) else (0, codeT bs bs.length)
theorem opsT_succ (os : List OpD) (k : Nat) : opsT os (k + 1) = opsT os k ++ lineO k (os.getD k default) := by
  unfold opsT
  rw [List.range_succ, List.map_append, List.flatten_append]
  simp
theorem codeT_succ (bs : List Blk) (i : Nat) : codeT bs (i + 1) = codeT bs i ++ blkT i (bs.getD i default) := by
  unfold codeT
  rw [List.range_succ, List.map_append, List.flatten_append]
  simp
theorem opsT_le (os : List OpD) {k n : Nat} (h : k ≤ n) : (opsT os k).length ≤ (opsT os n).length := by
  induction n with
  | zero => obtain rfl : k = 0 := by omega
            exact Nat.le_refl _
  | succ n ih =>
    rcases Nat.lt_or_ge n k with c | c
    · obtain rfl : k = n + 1 := by omega
      exact Nat.le_refl _
    · have := ih c
      rw [opsT_succ, List.length_append]; omega
theorem codeT_le (bs : List Blk) {k n : Nat} (h : k ≤ n) : (codeT bs k).length ≤ (codeT bs n).length := by
  induction n with
  | zero => obtain rfl : k = 0 := by omega
            exact Nat.le_refl _
  | succ n ih =>
    rcases Nat.lt_or_ge n k with c | c
    · obtain rfl : k = n + 1 := by omega
      exact Nat.le_refl _
    · have := ih c
      rw [codeT_succ, List.length_append]; omega
/-- A beginning of the text is no longer than all of it. -/
theorem part_le (bs : List Blk) {i n k : Nat} (hi : i < n) (hk : k ≤ (bs.getD i default).ops.length) : (codeT bs i ++ (headB i (bs.getD i default).args ++ opsT (bs.getD i default).ops k)).length ≤ (codeT bs n).length := by
  have h1 := codeT_le bs (show i + 1 ≤ n from hi)
  have h2 := opsT_le (bs.getD i default).ops hk
  rw [codeT_succ] at h1
  unfold blkT at h1
  simp only [List.length_append] at h1 ⊢
  omega
section
variable [L : Lam]
theorem blkF_opF {b : Blk} (h : blkF b = 0) : (0 ≤ b.args ∧ b.args ≤ 3) ∧ b.ops.length ≤ 200 ∧ ∀ j, j < b.ops.length → opF (b.ops.getD j default) = 0 := by
  unfold blkF at h
  split at h
  · cases h
  rename_i c
  split at h
  · cases h
  rename_i c2
  have c : inB 0 3 b.args = true := by simpa using c
  have := inB_iff.1 c
  exact ⟨by omega, by omega, fun j hj => firstF_zero _ _ h j (Nat.zero_le _) (by omega)⟩
theorem opsF_blkF {bs : List Blk} (h : opsF bs = 0) : bs.length ≤ 60 ∧ ∀ j, j < bs.length → blkF (bs.getD j default) = 0 := by
  unfold opsF at h
  split at h
  · cases h
  exact ⟨by omega, fun j hj => firstF_zero _ _ h j (Nat.zero_le _) (by omega)⟩
/-- What an operation that is in order holds. -/
structure OTx (o : OpD) : Prop where
  kind : 1 ≤ o.kind ∧ o.kind ≤ 16
  num : ∀ n, n ∈ opL o → 0 ≤ n ∧ n ≤ 999
  name : namedB o.kind = true → o.name.size ≤ 12
  data : dataB o.kind = true → dataF o.data = 0
theorem named_data {k : Int} (h : namedB k = true) : dataB k = false := by
  unfold namedB at h
  unfold dataB
  simp only [Bool.or_eq_true, decide_eq_true_iff] at h
  rcases h with (rfl | rfl) | rfl <;> rfl
theorem OTx.of {o : OpD} (h : opF o = 0) : OTx o := by
  unfold opF at h
  split at h
  · cases h
  rename_i c1
  split at h
  · cases h
  rename_i c2
  unfold opF1 at c1
  unfold opF2 at c2
  simp only [Bool.or_eq_true, not_or, Bool.not_eq_true] at c1 c2
  obtain ⟨⟨⟨k1, -⟩, -⟩, -⟩ := c1
  have k1 : inB 1 16 o.kind = true := by simpa using k1
  refine ⟨inB_iff.1 k1, fun n hn => ?_, fun k => ?_, fun k => ?_⟩
  · have := List.any_eq_false.1 c2.1 n hn
    exact inB_iff.1 (by simpa using this)
  · rw [if_pos k] at h
    split at h
    · rename_i c; exact symOk_sm c
    · cases h
  · rw [if_neg (fun c => by rw [named_data c] at k; cases k), if_pos k] at h
    exact h
theorem kw_len (k : Nat) : (kwL.getD k []).length ≤ 10 := by
  have h : ∀ w, w ∈ kwL → w.length ≤ 10 := by decide
  simp only [List.getD]
  cases e : kwL[k]? with
  | none => simp
  | some w => exact h w (List.mem_of_getElem? e)
theorem sumL_nums {l : List Int} (h : ∀ n, n ∈ l → 0 ≤ n ∧ n ≤ 999) : sumL (l.map Lib.itoa) ≤ 12 * l.length := by
  induction l with
  | nil => simp [sumL]
  | cons x r ih =>
    have h1 := ih fun n hn => h n (List.mem_cons_of_mem _ hn)
    have h2 := h x (by simp)
    have h3 := itoa_len (v := x) (by omega) (by omega)
    have e : sumL ((x :: r).map Lib.itoa) = (Lib.itoa x).length + 1 + sumL (r.map Lib.itoa) := by simp [sumL]
    rw [e, List.length_cons]; omega
theorem OTx.nums {o : OpD} (h : OTx o) : ∀ n, n ∈ (opL o).take (numsN o.kind) → 0 ≤ n ∧ n ≤ 999 := fun n hn => h.num n (List.mem_of_mem_take hn)
theorem hdO_sum {o : OpD} (h : OTx o) : sumL (hdO o) ≤ 3212 := by
  have h2 := kw_len (o.kind - 1).toNat
  have h5 : sumL (if namedB o.kind then [by8 o.name] else if dataB o.kind then [writeD o.data o.data.length 0] else []) ≤ 3201 := by
    split
    · rename_i c
      have := h.name c
      have e : o.name.size = (by8 o.name).length := size_by8 ..
      simp [sumL]; omega
    split
    · rename_i c
      have hd := h.data c
      have := writeD_sm (DOk.of hd) (DTx.of hd) o.data.length 0 (by have := (DOk.of hd).len; omega)
      simp [sumL]; omega
    · simp [sumL]
  have e : ∀ (x : List UInt8) r, sumL (x :: r) = x.length + 1 + sumL r := fun x r => by simp [sumL]
  unfold hdO
  rw [e]; omega
/-- A beginning of an operation's text. -/
theorem txtO_part {o : OpD} (h : OTx o) (j : Nat) : (Lib.join (hdO o ++ ((opL o).take j).map Lib.itoa) [32]).length ≤ 3300 := by
  have h1 := join_len (hdO o ++ ((opL o).take j).map Lib.itoa)
  have h2 := hdO_sum h
  have h3 := sumL_nums (l := (opL o).take j) fun n hn => h.num n (List.mem_of_mem_take hn)
  have h4 : ((opL o).take j).length ≤ 4 := by rw [List.length_take, len_opL]; omega
  rw [sumL_app] at h1
  omega
theorem txtO_len {o : OpD} (h : OTx o) : (txtO o).length ≤ 3300 := txtO_part h _
theorem lineO_len {o : OpD} (h : OTx o) {k : Nat} (hk : k ≤ 200) : (lineO k o).length ≤ 3400 := by
  have h1 := txtO_len h
  have h2 := itoa_len (v := (k : Int)) (by omega) (by omega)
  unfold lineO
  simp only [List.length_append, List.length_cons, List.length_nil]
  omega
theorem headB_len {i : Nat} {a : Int} (hi : i ≤ 60) (h0 : 0 ≤ a) (h1 : a ≤ 3) : (headB i a).length ≤ 40 := by
  have h2 := itoa_len (v := (i : Int)) (by omega) (by omega)
  have h3 := itoa_len (v := a) (by omega) (by omega)
  unfold headB
  simp only [List.length_append, List.length_cons, List.length_nil]
  omega
theorem opsT_sm {os : List OpD} (h : ∀ j, j < os.length → opF (os.getD j default) = 0) (hl : os.length ≤ 200) : ∀ k, k ≤ os.length → (opsT os k).length ≤ 3400 * k := by
  intro k
  induction k with
  | zero => intro _; simp [opsT]
  | succ k ih =>
    intro hk
    have h1 := ih (by omega)
    have h2 := lineO_len (.of (h k hk)) (k := k) (by omega)
    rw [opsT_succ, List.length_append]; omega
theorem codeT_sm {bs : List Blk} (h : opsF bs = 0) : ∀ k, k ≤ bs.length → (codeT bs k).length ≤ 700000 * k := by
  obtain ⟨hl, hb⟩ := opsF_blkF h
  intro k
  induction k with
  | zero => intro _; simp [codeT]
  | succ k ih =>
    intro hk
    have h1 := ih (by omega)
    obtain ⟨ha, ho, hop⟩ := blkF_opF (hb k hk)
    have h2 := opsT_sm hop ho _ (Nat.le_refl _)
    have h3 := headB_len (i := k) (by omega) ha.1 ha.2
    rw [codeT_succ, List.length_append]
    unfold blkT
    rw [List.length_append]; omega
theorem codeT_all {bs : List Blk} (h : opsF bs = 0) : (codeT bs bs.length).length ≤ 50000000 := by
  have := codeT_sm h bs.length (Nat.le_refl _)
  have := (opsF_blkF h).1
  omega
end
end Go.Proofs.YtggnjjalfnhiiaaGreatDoor.E
/- The library's contracts at this program. -/
set_option linter.unusedSectionVars false
set_option linter.unusedSimpArgs false
set_option linter.unusedVariables false
namespace Go.Proofs.YtggnjjalfnhiiaaGreatDoor.E
open Go Go.Proofs
open Go.Shelf
def lays170_ren : Go.Shelf.Ren := ⟨fun | 170 => 29 | n => n, fun | 70 => 58 | 3 => 3 | 0 => 0 | 72 => 61 | 37 => 59 | 5 => 5 | n => n, fun | n => n⟩
theorem lays170 : Go.Proofs.Lays.n170 Tryz.prog lays170_ren := {
  mixed := by kernel_rfl
  f170 := Tryz.func29.trans (congrArg some (by kernel_rfl))
  t0 := Tryz.underlying0
  a0 := Tryz.isAgg0
  z0 := Tryz.sizeOf0
  v0 := Tryz.zeroValue0
  t3 := Tryz.underlying3
  a3 := Tryz.isAgg3
  z3 := Tryz.sizeOf3
  v3 := Tryz.zeroValue3
  t37 := Tryz.underlying59
  a37 := Tryz.isAgg59
  z37 := Tryz.sizeOf59
  v37 := Tryz.zeroValue59
  t70 := Tryz.underlying58
  a70 := Tryz.isAgg58
  z70 := Tryz.sizeOf58
  v70 := Tryz.zeroValue58
  t72 := Tryz.underlying61
  a72 := Tryz.isAgg61
  z72 := Tryz.sizeOf61
  v72 := Tryz.zeroValue61 }
def lays169_ren : Go.Shelf.Ren := ⟨fun | 169 => 30 | n => n, fun | 70 => 58 | 9 => 9 | 0 => 0 | 72 => 61 | 37 => 59 | 127 => 89 | 3 => 3 | 5 => 5 | n => n, fun | n => n⟩
theorem lays169 : Go.Proofs.Lays.n169 Tryz.prog lays169_ren := {
  mixed := by kernel_rfl
  f169 := Tryz.func30.trans (congrArg some (by kernel_rfl))
  t0 := Tryz.underlying0
  a0 := Tryz.isAgg0
  z0 := Tryz.sizeOf0
  v0 := Tryz.zeroValue0
  t3 := Tryz.underlying3
  a3 := Tryz.isAgg3
  z3 := Tryz.sizeOf3
  v3 := Tryz.zeroValue3
  t9 := Tryz.underlying9
  a9 := Tryz.isAgg9
  z9 := Tryz.sizeOf9
  v9 := Tryz.zeroValue9
  t37 := Tryz.underlying59
  a37 := Tryz.isAgg59
  z37 := Tryz.sizeOf59
  v37 := Tryz.zeroValue59
  t70 := Tryz.underlying58
  a70 := Tryz.isAgg58
  z70 := Tryz.sizeOf58
  v70 := Tryz.zeroValue58
  t72 := Tryz.underlying61
  a72 := Tryz.isAgg61
  z72 := Tryz.sizeOf61
  v72 := Tryz.zeroValue61
  t127 := Tryz.underlying89
  a127 := Tryz.isAgg89
  z127 := Tryz.sizeOf89
  v127 := Tryz.zeroValue89 }
theorem sh_Builder_Extra_169 : Builder.Extra Tryz.prog lays169_ren := {
  sizeBuilder := by kernel_rfl
  liesBuilder := by kernel_rfl
  t5 := Tryz.underlying5
  a5 := Tryz.isAgg5
  z5 := Tryz.sizeOf5
  v5 := Tryz.zeroValue5
  infoByte := by kernel_rfl
  cellsByte := by kernel_rfl
  sizeByte := by kernel_rfl
  neB5 := by decide }
def lays156_ren : Go.Shelf.Ren := ⟨fun | 156 => 53 | 165 => 78 | 166 => 26 | 169 => 30 | 240 => 47 | 241 => 108 | 276 => 74 | 277 => 142 | n => n, fun | 31 => 79 | 9 => 9 | 3 => 3 | 4 => 4 | 0 => 0 | 20 => 20 | 72 => 61 | 76 => 64 | 70 => 58 | 37 => 59 | 75 => 63 | 127 => 89 | 164 => 108 | 5 => 5 | 80 => 66 | n => n, fun | n => n⟩
theorem lays156 : Go.Proofs.Lays.n156 Tryz.prog lays156_ren := {
  mixed := by kernel_rfl
  f156 := Tryz.func53.trans (congrArg some (by kernel_rfl))
  f165 := Tryz.func78.trans (congrArg some (by kernel_rfl))
  f166 := Tryz.func26.trans (congrArg some (by kernel_rfl))
  f169 := Tryz.func30.trans (congrArg some (by kernel_rfl))
  f240 := Tryz.func47.trans (congrArg some (by kernel_rfl))
  f241 := Tryz.func108.trans (congrArg some (by kernel_rfl))
  f276 := Tryz.func74.trans (congrArg some (by kernel_rfl))
  f277 := Tryz.func142.trans (congrArg some (by kernel_rfl))
  t0 := Tryz.underlying0
  a0 := Tryz.isAgg0
  z0 := Tryz.sizeOf0
  v0 := Tryz.zeroValue0
  t3 := Tryz.underlying3
  a3 := Tryz.isAgg3
  z3 := Tryz.sizeOf3
  v3 := Tryz.zeroValue3
  t4 := Tryz.underlying4
  a4 := Tryz.isAgg4
  z4 := Tryz.sizeOf4
  v4 := Tryz.zeroValue4
  t9 := Tryz.underlying9
  a9 := Tryz.isAgg9
  z9 := Tryz.sizeOf9
  v9 := Tryz.zeroValue9
  t20 := Tryz.underlying20
  a20 := Tryz.isAgg20
  z20 := Tryz.sizeOf20
  v20 := Tryz.zeroValue20
  t31 := Tryz.underlying79
  a31 := Tryz.isAgg79
  z31 := Tryz.sizeOf79
  v31 := Tryz.zeroValue79
  t37 := Tryz.underlying59
  a37 := Tryz.isAgg59
  z37 := Tryz.sizeOf59
  v37 := Tryz.zeroValue59
  t70 := Tryz.underlying58
  a70 := Tryz.isAgg58
  z70 := Tryz.sizeOf58
  v70 := Tryz.zeroValue58
  t72 := Tryz.underlying61
  a72 := Tryz.isAgg61
  z72 := Tryz.sizeOf61
  v72 := Tryz.zeroValue61
  t75 := Tryz.underlying63
  a75 := Tryz.isAgg63
  z75 := Tryz.sizeOf63
  v75 := Tryz.zeroValue63
  t76 := Tryz.underlying64
  a76 := Tryz.isAgg64
  z76 := Tryz.sizeOf64
  v76 := Tryz.zeroValue64
  t127 := Tryz.underlying89
  a127 := Tryz.isAgg89
  z127 := Tryz.sizeOf89
  v127 := Tryz.zeroValue89
  t164 := Tryz.underlying108
  a164 := Tryz.isAgg108
  z164 := Tryz.sizeOf108
  v164 := Tryz.zeroValue108 }
theorem sh_Builder_Extra_156 : Builder.Extra Tryz.prog lays156_ren := {
  sizeBuilder := by kernel_rfl
  liesBuilder := by kernel_rfl
  t5 := Tryz.underlying5
  a5 := Tryz.isAgg5
  z5 := Tryz.sizeOf5
  v5 := Tryz.zeroValue5
  infoByte := by kernel_rfl
  cellsByte := by kernel_rfl
  sizeByte := by kernel_rfl
  neB5 := by decide }
open Go.RowKit in
theorem sh_strings_Join_none (a : Option Addr) (c : Nat) (sep : ByteArray) (w : World) :
    Calls Tryz.prog 53 #[.slice a 0 c, .string sep] w fun e w' => e = .returned (.string ⟨#[]⟩) ∧ w' = w := Any.strings_Join_none lays156 sh_Builder_Extra_156 a c sep w
open Go.RowKit in
theorem sh_strings_Join (bk o c : Nat) (xs : List ByteArray) (sep : ByteArray) (w : World) (hcells : ∀ (j : Nat) x, xs[j]? = some x → w.cell? ⟨bk, o + j, none⟩ = some (.string x)) (hbk : bk < w.heap.size) (hN : xs.length ≤ 140737488355328) (hcap : xs.length ≤ c) (hlen : (Lib.join (xs.map (·.data.toList)) sep.data.toList).length ≤ 140737488355328) :
    Calls Tryz.prog 53 #[.slice (some ⟨bk, o, none⟩) xs.length c, .string sep] w fun e w' => e = .returned (.string ⟨(Lib.join (xs.map (·.data.toList)) sep.data.toList).toArray⟩) ∧ Below w.heap.size w w' := Any.strings_Join lays156 sh_Builder_Extra_156 bk o c xs sep w hcells hbk hN hcap hlen
open Go.RowKit in
theorem sh_Builder_Len_f (B b : Nat) (bs : List Value) (w : World) (h : Lib.IsBuilderF 61 5 B b bs w) :
    Calls Tryz.prog 29 #[.pointer (some ⟨b, 0, none⟩)] w fun e w' => e = .returned (.int .i64 bs.length) ∧ w' = w := Any.Builder_Len_f lays170 B b bs w h
open Go.RowKit in
theorem sh_Builder_String_any_f (B b : Nat) (l : List UInt8) (w : World) (h : Lib.IsBuilderF 61 5 B b (Lib.byteCells l) w) (hBw : B ≤ w.heap.size) :
    Calls Tryz.prog 30 #[.pointer (some ⟨b, 0, none⟩)] w fun e w' => e = .returned (.string ⟨l.toArray⟩) ∧ (Lib.IsBuilderF 61 5 B b (Lib.byteCells l) w' ∧ Below B w w') := Any.Builder_String_any_f lays169 sh_Builder_Extra_169 B b l w h hBw
theorem sh_Builder_WriteString_k (B b : Nat) (bs : List Value) (s : ByteArray) (w : World) (h : Lib.IsBuilderF 61 5 B b bs w) (hlen : bs.length + s.size ≤ 140737488355328) (hBw : B ≤ w.heap.size) :
    Calls Tryz.prog 26 #[.pointer (some ⟨b, 0, none⟩), .string s] w fun e w' => e = .returned (.tuple #[.int .i64 s.size, .nilIface]) ∧ (Lib.BuilderAtF 61 5 B b (.pointer (some ⟨b, 0, none⟩)) (bs ++ Lib.strCells s) w' ∧ Go.RowKit.Below B w w' ∧ Lib.OthersKept 5 (some b) w w') := Any.Builder_WriteString_k { lays156 with } sh_Builder_Extra_156 B b bs s w h hlen hBw
end Go.Proofs.YtggnjjalfnhiiaaGreatDoor.E
/- A cell of fields: lists that grow and shrink, and values that stay. -/
set_option linter.unusedSectionVars false
set_option linter.unusedSimpArgs false
set_option linter.unusedVariables false
namespace Go.Proofs.YtggnjjalfnhiiaaGreatDoor.E
open Go Go.RowKit
set_option maxRecDepth 100000
variable [L : Lam]
variable {σ τ τ' : AH} {R : AEnd → AH → Prop}
section
variable {sz : Nat} {a : AV} {es : List (List AV)}
end
inductive Fd where
  | fix (a : AV)
  | lst (sz : Nat) (es : List (List AV))
section
variable {φm i : Nat} {fd : List Fd}
end
end Go.Proofs.YtggnjjalfnhiiaaGreatDoor.E
/- Data of a text: the plain law, and the steps of the reference's way. -/
set_option linter.unusedSectionVars false
set_option linter.unusedSimpArgs false
set_option linter.unusedVariables false
namespace Go.Proofs.YtggnjjalfnhiiaaGreatDoor.E
open Go Go.RowKit
set_option maxRecDepth 100000
/-- Lists that are open, each with whether it ends behind one datum. -/
abbrev Opn := List (Nat × Bool)
abbrev Rds := List Dat × Opn
variable [L : Lam]
variable {σ τ τ' : AH} {R : AEnd → AH → Prop}
section
variable {φm : Nat} {s : Rds}
end
end Go.Proofs.YtggnjjalfnhiiaaGreatDoor.E
/- Forms that are expanded to cores: the steps of the reference's way. -/
set_option linter.unusedSectionVars false
set_option linter.unusedSimpArgs false
set_option linter.unusedVariables false
namespace Go.Proofs.YtggnjjalfnhiiaaGreatDoor.E
open Go Go.RowKit
set_option maxRecDepth 100000
variable [L : Lam]
variable {σ τ τ' : AH} {R : AEnd → AH → Prop}
section
variable {ds : List Dat}
def kdTo (ds : List Dat) (i x : Nat) : List Nat := (List.range i).filter fun j => decide ((dat ds j).parent = (x : Int))
theorem kdTo_succ (ds : List Dat) (i x : Nat) : kdTo ds (i + 1) x = kdTo ds i x ++ (if (dat ds i).parent = (x : Int) then [i] else []) := by
  unfold kdTo
  rw [List.range_succ, List.filter_append]
  congr 1
  by_cases c : (dat ds i).parent = (x : Int) <;> simp [c]
theorem kdTo_le (ds : List Dat) (i x : Nat) : (kdTo ds i x).length ≤ i := by
  unfold kdTo
  exact Nat.le_trans (List.length_filter_le _ _) (by simp)
theorem c_spec_l3Parts {x : Nat} (hl : ds.length ≤ 1000000) (h : R (.ret (roK (kidsD ds x))) σ) : acall TP fn_spec_l3Parts [roD ds, iv (x : Int)] σ R := by
  refine s_spec_l3Parts_ok ?_
  unfold s_spec_l3Parts
  refine bsl0 ?_
  refine lp_rel ds.length (fun i y τ => ∃ u, y = (roD ds, iv (x : Int), u, iv (i : Int), ()) ∧ Buf τ 1 u (innK (kdTo ds i x)) ∧ AH.Sub σ τ ∧ ∀ ψ, ψ ∈ famL u → σ ψ = none) ⟨.emp, rfl, .inl ⟨.inr rfl, rfl⟩, .refl σ, fun ψ c => by cases c⟩ ?_
  rintro i _ τ hi ⟨u, rfl, hB, hs, hf⟩ R' hR'
  simp only [len_ro, RR]
  by_cases hlt : i < ds.length
  · have g : (i : Int) < (ds.length : Int) := by omega
    have l1 : ∀ τ, lod (.rop (encDat (dat ds i)) 1) τ = some (iv (dat ds i).parent) := fun _ => rfl
    simp only [g, idx_ro hlt len_encDat, dat_at hlt, l1, jn, RR]
    by_cases c : (dat ds i).parent = (x : Int)
    · simp only [c, RR]
      refine push_row (row := [iv (i : Int)]) hB rfl (by omega) rfl (fun y hy => by obtain rfl := List.mem_singleton.1 hy; rfl) (by have := kdTo_le ds i x; simp; omega) fun u' τ' hB' hK hfam => ?_
      simp only [ibin_up hlt (by omega), RR]
      refine hR' _ _ _ hlt (.refl _) ⟨u', rfl, ?_, hK.sub hs hf, fun ψ hψ => (hfam ψ hψ).elim (hf ψ) fun d => hs.none d⟩
      rw [kdTo_succ, if_pos c]
      simpa [innK] using hB'
    · simp only [c, ibin_up hlt (by omega), RR]
      refine hR' _ _ _ hlt (.refl _) ⟨u, rfl, ?_, hs, hf⟩
      rw [kdTo_succ, if_neg c, List.append_nil]; exact hB
  · have g : ¬ (i : Int) < (ds.length : Int) := by omega
    obtain rfl : i = ds.length := by omega
    simp only [g, RR]
    exact aret_freeze hs (fz_row hB hf rfl (by intro c hc; obtain ⟨o, _, rfl⟩ := List.mem_map.1 hc; rfl) fun _ _ _ _ => .same _) h
/-! ### the cell -/
variable {φm : Nat} {C : List Cor} {F : Frs}
end
end Go.Proofs.YtggnjjalfnhiiaaGreatDoor.E
/- Forms that are expanded to cores: the reference's way, the end of it. -/
set_option linter.unusedSectionVars false
set_option linter.unusedSimpArgs false
set_option linter.unusedVariables false
namespace Go.Proofs.YtggnjjalfnhiiaaGreatDoor.E
open Go Go.RowKit
set_option maxRecDepth 100000
variable [L : Lam]
variable {σ σ1 τ τ' : AH} {R : AEnd → AH → Prop}
section
variable {ds : List Dat} {φm f : Nat} {C : List Cor} {F : Frs} {ks : List Nat} {p fr : Int} {sc : Sco}
theorem kids_len (x : Nat) : (kidsD ds x).length ≤ ds.length := by
  unfold kidsD
  exact Nat.le_trans (List.length_filter_le _ _) (by simp)
theorem aft1 {s : ByteArray} : afillS 1 [[.val (.string ⟨#[]⟩)]] [(0, str s)] = some [[str s]] := rfl
theorem emp_buf {sz : Nat} : Buf σ sz .emp [] := .inl ⟨.inr rfl, rfl⟩
theorem one_strL {s : ByteArray} : ∀ y, y ∈ [str s] → y.one = true := fun y hy => by obtain rfl := List.mem_singleton.1 hy; rfl
end
end Go.Proofs.YtggnjjalfnhiiaaGreatDoor.E
/- Forms that are expanded to cores: the steps of the program's way. -/
set_option linter.unusedSectionVars false
set_option linter.unusedSimpArgs false
set_option linter.unusedVariables false
namespace Go.Proofs.YtggnjjalfnhiiaaGreatDoor.E
open Go Go.RowKit
set_option maxRecDepth 100000
/-! ### chains of parents: the plain law -/
section
variable {p : Int → Int}
end
section
variable {ds : List Dat} [L : Lam]
end
/-! ### the steps -/
variable [L : Lam]
variable {σ τ τ' : AH} {R : AEnd → AH → Prop}
section
variable {ds : List Dat} {φm : Nat} {C : List Cor}
theorem c_impl_parts {x : Nat} (hl : ds.length ≤ 1000000) (h : R (.ret (roK (kidsD ds x))) σ) : acall TP fn_impl_parts [roD ds, iv (x : Int)] σ R := by
  refine s_impl_parts_ok ?_
  unfold s_impl_parts
  refine bsl0 ?_
  simp only [len_ro, RR]
  refine lp_rel ds.length (fun i y τ => ∃ u, y = (iv (x : Int), u, roD ds, iv (ds.length : Int), iv (i : Int), ()) ∧ Buf τ 1 u (innK (kdTo ds i x)) ∧ AH.Sub σ τ ∧ ∀ ψ, ψ ∈ famL u → σ ψ = none) ⟨.emp, rfl, .inl ⟨.inr rfl, rfl⟩, .refl σ, fun ψ c => by cases c⟩ ?_
  rintro i _ τ hi ⟨u, rfl, hB, hs, hf⟩ R' hR'
  by_cases hlt : i < ds.length
  · have g : (i : Int) < (ds.length : Int) := by omega
    have l1 : ∀ τ, lod (.rop (encDat (dat ds i)) 1) τ = some (iv (dat ds i).parent) := fun _ => rfl
    simp only [g, idx_ro hlt len_encDat, dat_at hlt, lodA_all (len_encDat _), jn, RR]
    refine new_frz rfl (len_encDat _) rfl (one_encDat _) ?_
    simp only [l1, RR]
    by_cases c : (dat ds i).parent = (x : Int)
    · simp only [c, RR]
      refine push_row (row := [iv (i : Int)]) hB rfl (by omega) rfl (fun y hy => by obtain rfl := List.mem_singleton.1 hy; rfl) (by have := kdTo_le ds i x; simp; omega) fun u' τ' hB' hK hfam => ?_
      simp only [ibin_up hlt (by omega), RR]
      refine hR' _ _ _ hlt (.refl _) ⟨u', rfl, ?_, hK.sub hs hf, fun ψ hψ => (hfam ψ hψ).elim (hf ψ) fun d => hs.none d⟩
      rw [kdTo_succ, if_pos c]
      simpa [innK] using hB'
    · simp only [c, ibin_up hlt (by omega), RR]
      refine hR' _ _ _ hlt (.refl _) ⟨u, rfl, ?_, hs, hf⟩
      rw [kdTo_succ, if_neg c, List.append_nil]; exact hB
  · have g : ¬ (i : Int) < (ds.length : Int) := by omega
    obtain rfl : i = ds.length := by omega
    simp only [g, RR]
    exact aret_freeze hs (fz_row hB hf rfl (by intro c hc; obtain ⟨o, _, rfl⟩ := List.mem_map.1 hc; rfl) fun _ _ _ _ => .same _) h
/-! ### words -/
/-! ### the cell -/
end
end Go.Proofs.YtggnjjalfnhiiaaGreatDoor.E
/- Data and cores as texts: the program's way. -/
set_option linter.unusedSectionVars false
set_option linter.unusedSimpArgs false
set_option linter.unusedVariables false
namespace Go.Proofs.YtggnjjalfnhiiaaGreatDoor.E
open Go Go.RowKit
set_option maxRecDepth 100000
variable [L : Lam]
variable {σ τ τ' : AH} {R : AEnd → AH → Prop}
/-- What a list of texts that stays is in the memory. -/
theorem ro_strs {κ : Kap} {w : World} {xs : List ByteArray} {v : Value} (hr : Rel κ σ w) (hv : VR κ (roS xs) v) : (∃ b off cap, v = .slice (some ⟨b, off, none⟩) xs.length cap ∧ xs.length ≤ cap ∧ ∀ (j : Nat) x, xs[j]? = some x → w.cell? ⟨b, off + j, none⟩ = some (.string x)) ∨ (xs = [] ∧ ∃ a, v = .slice a 0 0) := by
  generalize ha : roS xs = a at hv
  cases hv with
  | roEnd a0 =>
    have : xs.map (fun s => [str s]) = [] := by injection ha
    exact .inr ⟨by simpa using this, a0, rfl⟩
  | @ro es b off cap sz vals hc hz hm hv =>
    have he : xs.map (fun s => [str s]) = es := by injection ha
    subst he
    left
    refine ⟨b, off, cap, by simp, by simpa using hc, fun j x hx => ?_⟩
    have hj : j < xs.length := (List.getElem?_eq_some_iff.1 hx).1
    have hj' : j < (xs.map fun s => [str s]).length := by simpa using hj
    have hg : (xs.map fun s => [str s]).getD j [] = [str x] := by
      simp [List.getD, hx]
    have hs : sz = 1 := by have := hz j hj'; rw [hg] at this; exact this.symm
    subst hs
    have h1 := hm j 0 hj' (by omega)
    have h2 := hv j 0 hj' (by omega)
    rw [hg] at h2
    have e : vals j 0 = .string x := by
      have h3 : VR κ (str x) (vals j 0) := h2
      generalize vals j 0 = y at h3
      cases h3; rfl
    rw [e] at h1
    have := hr.mem _ _ _ h1
    rwa [show off + j * 1 + 0 = off + j by omega] at this
  | _ => cases ha
theorem c_strings_Join {xs : List ByteArray} (hl : xs.length ≤ 1000000) (hj : (Lib.join (xs.map by8) [32]).length ≤ 1000000000) (h : R (.ret (str (bs (Lib.join (xs.map by8) [32])))) σ) : acall TP fn_strings_Join [roS xs, str ⟨#[32]⟩] σ R := by
  refine ⟨_, Tryz.func53, rfl, by decide, fun κ w vs hr hv => ?_⟩
  obtain ⟨v, z, rfl⟩ : ∃ v z, vs = [v, z] := by
    have := hv.1
    match vs, this with
    | [a, b], _ => exact ⟨a, b, rfl⟩
  have e2 : z = .string ⟨#[32]⟩ := by have h : VR κ (str ⟨#[32]⟩) z := hv.2 1 (by simp); cases h; rfl
  subst e2
  have hx : VR κ (roS xs) v := hv.2 0 (by simp)
  have eb : Lib.join (xs.map (·.data.toList)) (⟨#[32]⟩ : ByteArray).data.toList = Lib.join (xs.map by8) [32] := rfl
  rcases ro_strs hr hx with ⟨b, off, cap, rfl, hc, hm⟩ | ⟨rfl, a, rfl⟩
  · by_cases hn : xs = []
    · subst hn
      refine (sh_strings_Join_none _ cap ⟨#[32]⟩ w).mono ?_
      rintro e w' ⟨rfl, rfl⟩
      exact ⟨κ, _, σ, h, .below hr (.refl _ _), .val _⟩
    · have hp : 0 < xs.length := List.length_pos_iff.2 hn
      have h0 := hm 0 xs[0] (List.getElem?_eq_getElem hp)
      refine (sh_strings_Join b off cap xs ⟨#[32]⟩ w hm (World.block_lt_of_cell? (h := h0)) (by omega) hc (by rw [eb]; omega)).mono ?_
      rintro e w' ⟨rfl, hw⟩
      exact ⟨κ, _, σ, h, .below hr hw, .val _⟩
  · refine (sh_strings_Join_none a 0 ⟨#[32]⟩ w).mono ?_
    rintro e w' ⟨rfl, rfl⟩
    exact ⟨κ, _, σ, h, .below hr (.refl _ _), .val _⟩
theorem c_impl_boolText {n : Int} (h : R (.ret (str (bs (boolT n)))) σ) : acall TP fn_impl_boolText [iv n] σ R := by
  refine s_impl_boolText_ok ?_
  unfold s_impl_boolText
  unfold boolT at h
  by_cases c : n = 1
  · rw [if_pos c] at h
    simp only [c, RR]
    exact ret_here h
  · rw [if_neg c] at h
    simp only [c, RR]
    exact ret_here h
theorem cat1 {a b : List UInt8} (h : a.length + b.length ≤ 1000000000) : sbin .add (str (bs a)) (str (bs b)) = some (str (bs (a ++ b))) := by
  have := sbin_add (bs a) (bs b) (by rw [size_bs, size_bs]; omega)
  rw [bs_append] at this
  exact this
theorem bldTx (c : Int) (u : ByteArray) : bld [iv 0, str ⟨#[]⟩] [(0, 1), (1, 1)] [(0, iv c)] = some (.agg [iv c, str ⟨#[]⟩]) ∧ bld [iv 0, str ⟨#[]⟩] [(0, 1), (1, 1)] [(1, str u)] = some (.agg [iv 0, str u]) := ⟨rfl, rfl⟩
variable [K : Knows QP]
theorem c_impl_dec {n : Int} (h0 : -9223372036854775808 ≤ n) (h1 : n ≤ 9223372036854775807) (h : R (.ret (str (bs (Lib.itoa n)))) σ) : acall TP fn_impl_dec [iv n] σ R := by
  refine ⟨_, Tryz.func27, rfl, by decide, fun κ w vs hr hv => ?_⟩
  obtain ⟨v, rfl⟩ : ∃ v, vs = [v] := by
    have := hv.1
    match vs, this with
    | [a], _ => exact ⟨a, rfl⟩
  have e1 : v = .int .i64 n := by have h : VR κ (iv n) v := hv.2 0 (by simp); cases h; rfl
  subst e1
  refine (w_dec n h0 h1 w (QP_at hr)).mono ?_
  rintro e w' ⟨rfl, hw⟩
  exact ⟨κ, _, σ, h, .below hr hw, .val _⟩
theorem map_by8 (l : List (List UInt8)) : (l.map bs).map by8 = l := by
  rw [List.map_map]
  conv => rhs; rw [← List.map_id l]
  exact List.map_congr_left fun x _ => by8_bs x
/-- The end: words are joined, in brackets. -/
theorem join_end {u : AV} {ws : List (List UInt8)} (hB : Buf τ 1 u ((ws.map bs).map fun s => [str s])) (hs : AH.Sub σ τ) (hf : ∀ ψ, ψ ∈ famL u → σ ψ = none) (hl : ws.length ≤ 1000000) (hj : (Lib.join ws [32]).length ≤ 900000000) (h : R (.ret (str (bs (40 :: (Lib.join ws [32] ++ [41]))))) σ) :
    acall TP fn_strings_Join [u, .val (.string ⟨#[32]⟩)] τ (onr (fun v46 σ =>
            og (sbin .add (.val (.string ⟨#[40]⟩)) v46) fun v47 =>
            og (sbin .add v47 (.val (.string ⟨#[41]⟩))) fun v48 =>
            aret v48 σ R) (fun v σ => apan v σ R)) := by
  refine acall_frz (args' := [roS (ws.map bs), str ⟨#[32]⟩]) hs rfl (fun i hi => ?_) ?_
  · match i, hi with
    | 0, _ => exact fz_row hB hf rfl (by intro c hc; obtain ⟨o, _, rfl⟩ := List.mem_map.1 hc; rfl) fun _ _ _ _ => .same _
    | 1, _ => exact .same _
  refine c_strings_Join (by simpa using hl) (by rw [map_by8]; omega) ?_
  rw [map_by8]
  have a1 := cat1 (a := [40]) (b := Lib.join ws [32]) (by simp; omega)
  have a2 := cat1 (a := [40] ++ Lib.join ws [32]) (b := [41]) (by simp; omega)
  change sbin .add (.val (.string ⟨#[40]⟩)) _ = _ at a1
  change sbin .add _ (.val (.string ⟨#[41]⟩)) = _ at a2
  simp only [a1, a2, RR]
  exact ret_here h
section
variable {ds : List Dat}
theorem c_impl_written (hd : DOk ds) (ht : DTx ds) : ∀ f x, x < ds.length → ds.length ≤ f + x → ∀ {σ : AH} {R : AEnd → AH → Prop}, R (.ret (str (bs (writeD ds f x)))) σ → acall TP fn_impl_written [roD ds, iv (x : Int)] σ R := by
  intro f
  induction f with
  | zero => intro x hx hf; omega
  | succ f ih =>
    intro x hx hfx σ R h
    have hdl := hd.len
    have l0 : ∀ τ, lod (.rop (encDat (dat ds x)) 0) τ = some (iv (dat ds x).kind) := fun _ => rfl
    have l2 : ∀ τ, lod (.rop (encDat (dat ds x)) 2) τ = some (iv (dat ds x).num) := fun _ => rfl
    have l3 : ∀ τ, lod (.rop (encDat (dat ds x)) 3) τ = some (str (dat ds x).name) := fun _ => rfl
    have hsm := writeD_sm hd ht (f + 1) x hx
    obtain ⟨t1, t2, t3⟩ := ht x hx
    refine s_impl_written_ok ?_
    unfold s_impl_written
    simp only [idx_ro hx len_encDat, dat_at hx, lodA_all (len_encDat _), RR]
    refine new_frz rfl (len_encDat _) rfl (one_encDat _) ?_
    rw [writeD] at h hsm
    by_cases c1 : (dat ds x).kind = 1
    · rw [if_pos c1] at h
      simp only [l0, c1, l2, RR]
      have := t1 c1
      refine c_impl_dec (by omega) (by omega) ?_
      simp only [RR]
      exact ret_here h
    rw [if_neg c1] at h hsm
    by_cases c2 : (dat ds x).kind = 2
    · rw [if_pos c2] at h
      have d1 : ¬ (2 : Int) = 1 := by decide
      simp only [l0, c2, d1, l2, RR]
      refine c_impl_boolText ?_
      simp only [RR]
      exact ret_here h
    rw [if_neg c2] at h hsm
    by_cases c3 : (dat ds x).kind = 3
    · rw [if_pos c3, bs_by8] at h
      have d1 : ¬ (3 : Int) = 1 := by decide
      have d2 : ¬ (3 : Int) = 2 := by decide
      simp only [l0, c3, d1, d2, l3, RR]
      exact ret_here h
    rw [if_neg c3] at h hsm
    simp only [l0, c1, c2, c3, RR]
    refine bsl0 ?_
    refine c_impl_parts (by omega) ?_
    simp only [lenK, RR]
    have hks : ∀ k, k ∈ kidsD ds x → k < ds.length ∧ ds.length ≤ f + k := fun k hk => by have := hd.kid hk; omega
    have hkl := kids_len (ds := ds) x
    generalize kidsD ds x = ks at h hsm hks hkl ⊢
    refine lp_by (fun n y τ => ∃ (j : Nat) (u : AV), y = (roD ds, u, roK ks, iv (ks.length : Int), iv (j : Int), ()) ∧ Buf τ 1 u ((((ks.take j).map (writeD ds f)).map bs).map fun s => [str s]) ∧ AH.Sub σ τ ∧ (∀ ψ, ψ ∈ famL u → σ ψ = none) ∧ ks.length - j = n ∧ j ≤ ks.length) ks.length ⟨0, .emp, rfl, emp_buf, .refl σ, (fun ψ c => by cases c), rfl, by omega⟩ ?_
    rintro n y τ ⟨j, u, rfl, hB, hs, hf, rfl, hj⟩ R' hR'
    by_cases c : j < ks.length
    · have g : (j : Int) < (ks.length : Int) := by omega
      have hm := hks _ (getD_mem c)
      simp only [g, idx_K c, lod_1, RR]
      refine ih _ hm.1 hm.2 ?_
      simp only [RR]
      refine push_row (row := [str (bs (writeD ds f (ks.getD j 0)))]) hB aft1 (by omega) rfl one_strL (by simp; omega) fun u' τ' hB' hK hfam => ?_
      simp only [ibin_up c (by omega), RR]
      refine hR' _ _ (ks.length - (j + 1)) τ' (by omega) (.refl _) ⟨j + 1, u', rfl, ?_, hK.sub hs hf, (fun ψ hψ => (hfam ψ hψ).elim (hf ψ) fun d => hs.none d), rfl, c⟩
      rw [getD_len _ c]
      simpa using hB'
    · have g : ¬ (j : Int) < (ks.length : Int) := by omega
      obtain rfl : j = ks.length := by omega
      rw [List.take_length] at hB
      simp only [g, RR]
      refine join_end hB hs hf (by simp; omega) ?_ h
      simp only [List.length_cons, List.length_append, List.length_nil] at hsm
      omega
end
section
variable {cs : List Cor}
end
end Go.Proofs.YtggnjjalfnhiiaaGreatDoor.E
/- Code that is lent, and handed back. -/
set_option linter.unusedSectionVars false
set_option linter.unusedSimpArgs false
set_option linter.unusedVariables false
namespace Go.Proofs.YtggnjjalfnhiiaaGreatDoor.E
open Go Go.RowKit
set_option maxRecDepth 100000
variable [L : Lam]
variable {σ τ τ' : AH} {R : AEnd → AH → Prop}
/-! ### what is left of a heap -/
open Classical in
noncomputable def only (τ : AH) (F : List Nat) : AH := fun φ => if φ ∈ F then τ φ else none
/-! ### how much there is -/
end Go.Proofs.YtggnjjalfnhiiaaGreatDoor.E
/- Data and cores as texts: the reference's way; the law of CoreFor. -/
set_option linter.unusedSectionVars false
set_option linter.unusedSimpArgs false
set_option linter.unusedVariables false
namespace Go.Proofs.YtggnjjalfnhiiaaGreatDoor.E
open Go Go.RowKit
set_option maxRecDepth 100000
variable [L : Lam]
variable {σ τ τ' : AH} {R : AEnd → AH → Prop}
/-- What has been written of a list, behind its bracket. -/
theorem join_step {f : Nat → List UInt8} {ks : List Nat} {j : Nat} (h : j < ks.length) : Lib.join ((ks.take (j + 1)).map f) [32] = (if j = 0 then [] else Lib.join ((ks.take j).map f) [32] ++ [32]) ++ f (ks.getD j 0) := by
  rw [getD_len f h, join_succ]
  by_cases c : j = 0
  · subst c; simp
  · have hne : ¬ (ks.take j).map f = [] := fun e => by
      have := congrArg List.length e
      rw [List.length_map, List.length_take, List.length_nil] at this
      omega
    rw [if_neg hne, if_neg c]; simp
theorem sum_ones (ks : List Nat) : (ks.map fun _ => 1).sum = ks.length := by
  induction ks with
  | nil => rfl
  | cons k r ih => rw [List.map_cons, List.sum_cons, ih, List.length_cons]; omega
theorem join_le {f : Nat → List UInt8} (ks : List Nat) (j : Nat) : (Lib.join ((ks.take j).map f) [32]).length ≤ sumL (ks.map f) := by
  have h1 := join_len ((ks.take j).map f)
  have h2 : sumL (ks.map f) = sumL ((ks.take j).map f) + sumL ((ks.drop j).map f) := by rw [← sumL_app, ← List.map_append, List.take_append_drop]
  omega
theorem tail_le {f : Nat → List UInt8} {ks : List Nat} {j : Nat} (h : j < ks.length) : (f (ks.getD j 0)).length + 1 ≤ sumL (ks.map f) := by
  have h2 : sumL (ks.map f) = sumL ((ks.take (j + 1)).map f) + sumL ((ks.drop (j + 1)).map f) := by rw [← sumL_app, ← List.map_append, List.take_append_drop]
  rw [getD_len f h, sumL_app] at h2
  have h3 : sumL [f (ks.getD j 0)] = (f (ks.getD j 0)).length + 1 := by simp [sumL]
  omega
section
variable {ds : List Dat}
theorem c_spec_l3Write (hd : DOk ds) (ht : DTx ds) : ∀ f x, x < ds.length → ds.length ≤ f + x → ∀ {σ : AH} {R : AEnd → AH → Prop}, R (.ret (str (bs (writeD ds f x)))) σ → acall TP fn_spec_l3Write [roD ds, iv (x : Int)] σ R := by
  intro f
  induction f with
  | zero => intro x hx hf; omega
  | succ f ih =>
    intro x hx hfx σ R h
    have hdl := hd.len
    have l0 : ∀ τ, lod (.rop (encDat (dat ds x)) 0) τ = some (iv (dat ds x).kind) := fun _ => rfl
    have l2 : ∀ τ, lod (.rop (encDat (dat ds x)) 2) τ = some (iv (dat ds x).num) := fun _ => rfl
    have l3 : ∀ τ, lod (.rop (encDat (dat ds x)) 3) τ = some (str (dat ds x).name) := fun _ => rfl
    obtain ⟨t1, t2, t3⟩ := ht x hx
    refine s_spec_l3Write_ok ?_
    unfold s_spec_l3Write
    simp only [idx_ro hx len_encDat, dat_at hx, RR]
    rw [writeD] at h
    by_cases c1 : (dat ds x).kind = 1
    · rw [if_pos c1] at h
      simp only [l0, c1, l2, RR]
      have := t1 c1
      refine c_spec_l1Digits_int (by omega) (by omega) ?_
      simp only [RR]
      exact ret_here h
    rw [if_neg c1] at h
    by_cases c2 : (dat ds x).kind = 2
    · rw [if_pos c2] at h
      have d1 : ¬ (2 : Int) = 1 := by decide
      simp only [l0, c2, d1, RR]
      refine bsl_new (es := [[str ⟨#[35, 102]⟩], [str ⟨#[35, 116]⟩]]) rfl (by omega) (by omega) fun ψ hψ => ?_
      have ix : ∀ i : Nat, i < 2 → idx 1 (.own ψ 0 0 2) (iv (i : Int)) (σ.set ψ ⟨0, 1, [[str ⟨#[35, 102]⟩], [str ⟨#[35, 116]⟩]]⟩) = some (.ptr ψ 0 i 0) := fun i hi => by
        have := idx_own (st := 0) (off := 0) (i := i) (n := 2) (AH.set_same σ ψ ⟨0, 1, [[str ⟨#[35, 102]⟩], [str ⟨#[35, 116]⟩]]⟩) hi
        rwa [Nat.zero_add] at this
      have e0 : lod (.ptr ψ 0 0 0) (σ.set ψ ⟨0, 1, [[str ⟨#[35, 102]⟩], [str ⟨#[35, 116]⟩]]⟩) = some (str ⟨#[35, 102]⟩) := lod_at (AH.set_same ..) rfl rfl
      have e1 : lod (.ptr ψ 0 1 0) (σ.set ψ ⟨0, 1, [[str ⟨#[35, 102]⟩], [str ⟨#[35, 116]⟩]]⟩) = some (str ⟨#[35, 116]⟩) := lod_at (AH.set_same ..) rfl rfl
      have i0 := ix 0 (by omega)
      have i1 := ix 1 (by omega)
      rcases t2 c2 with n | n
      · have hb : boolT (dat ds x).num = [35, 102] := by unfold boolT; rw [if_neg (by omega)]
        rw [hb] at h
        simp only [l2, n, RR]
        change og (idx 1 (.own ψ 0 0 2) (iv ((0 : Nat) : Int)) _) _
        rw [i0]
        simp only [e0, RR]
        exact aret_sub (.set (.refl σ) _ hψ) h
      · have hb : boolT (dat ds x).num = [35, 116] := by unfold boolT; rw [if_pos n]
        rw [hb] at h
        simp only [l2, n, RR]
        change og (idx 1 (.own ψ 0 0 2) (iv ((1 : Nat) : Int)) _) _
        rw [i1]
        simp only [e1, RR]
        exact aret_sub (.set (.refl σ) _ hψ) h
    rw [if_neg c2] at h
    by_cases c3 : (dat ds x).kind = 3
    · rw [if_pos c3, bs_by8] at h
      have d1 : ¬ (3 : Int) = 1 := by decide
      have d2 : ¬ (3 : Int) = 2 := by decide
      simp only [l0, c3, d1, d2, l3, RR]
      exact ret_here h
    rw [if_neg c3] at h
    simp only [l0, c1, c2, c3, RR]
    refine c_spec_l3Parts (by omega) ?_
    simp only [RR]
    have hks : ∀ k, k ∈ kidsD ds x → k < ds.length ∧ ds.length ≤ f + k := fun k hk => by have := hd.kid hk; omega
    have hkl := kids_len (ds := ds) x
    have hsm : sumL ((kidsD ds x).map (writeD ds f)) ≤ 300000 := by
      have h2 := sumL_map (f := writeD ds f) (g := fun _ => 1) (B := 3201) (kidsD ds x) fun k hk => by
        have := writeD_sm hd ht f k (hd.kid hk).2; omega
      have h3 : ((kidsD ds x).map fun _ => 1).sum = (kidsD ds x).length := sum_ones _
      rw [h3] at h2
      omega
    generalize kidsD ds x = ks at h hsm hks hkl ⊢
    refine lp_by (fun n y τ => τ = σ ∧ ∃ j : Nat, y = (roD ds, str (bs (40 :: Lib.join ((ks.take j).map (writeD ds f)) [32])), roK ks, iv (j : Int), ()) ∧ ks.length - j = n ∧ j ≤ ks.length) ks.length ⟨rfl, 0, rfl, rfl, by omega⟩ ?_
    rintro n y τ ⟨rfl, j, rfl, rfl, hj⟩ R' hR'
    have hjl := join_le (f := writeD ds f) ks j
    simp only [lenK, RR]
    by_cases c : j < ks.length
    · have g : (j : Int) < (ks.length : Int) := by omega
      have hm := hks _ (getD_mem c)
      have htl := tail_le (f := writeD ds f) c
      have step : ∀ z : List UInt8, z.length ≤ 400000 → z ++ writeD ds f (ks.getD j 0) = 40 :: Lib.join ((ks.take (j + 1)).map (writeD ds f)) [32] →
          og (idx 1 (roK ks) (iv (j : Int)) τ) fun v55 =>
                og (lod v55 τ) fun v56 =>
                acall TP fn_spec_l3Write [roD ds, v56] τ (onr (fun v57 σ =>
                og (sbin .add (str (bs z)) v57) fun v58 =>
                og (ibin .add (iv (j : Int)) (.val (.int .i64 1))) fun v46 =>
                R' (roD ds, v58, roK ks, v46, ()) σ) (fun v σ => apan v σ R)) := fun z hz e => by
        simp only [idx_K c, lod_1, RR]
        refine ih _ hm.1 hm.2 ?_
        have a1 := cat1 (a := z) (b := writeD ds f (ks.getD j 0)) (by omega)
        simp only [a1, ibin_up c (by omega), RR]
        rw [e]
        exact hR' _ _ (ks.length - (j + 1)) τ (by omega) (.refl _) ⟨rfl, j + 1, rfl, rfl, c⟩
      have js := join_step (f := writeD ds f) c
      by_cases cj : j = 0
      · have gj : ¬ (0 : Int) < (j : Int) := by omega
        simp only [g, gj, jn, RR]
        refine step (40 :: Lib.join ((ks.take j).map (writeD ds f)) [32]) (by rw [List.length_cons]; omega) ?_
        rw [js, if_pos cj, cj]; simp [Lib.join_nil]
      · have gj : (0 : Int) < (j : Int) := by omega
        have a0 := cat1 (a := 40 :: Lib.join ((ks.take j).map (writeD ds f)) [32]) (b := [32]) (by simp only [List.length_cons, List.length_append, List.length_nil]; omega)
        change sbin .add _ (.val (.string ⟨#[32]⟩)) = _ at a0
        simp only [g, gj, a0, jn, RR]
        refine step ((40 :: Lib.join ((ks.take j).map (writeD ds f)) [32]) ++ [32]) (by simp only [List.length_cons, List.length_append, List.length_nil]; omega) ?_
        rw [js, if_neg cj]; simp
    · have g : ¬ (j : Int) < (ks.length : Int) := by omega
      obtain rfl : j = ks.length := by omega
      rw [List.take_length] at hjl ⊢
      have a0 := cat1 (a := 40 :: Lib.join (ks.map (writeD ds f)) [32]) (b := [41]) (by simp only [List.length_cons, List.length_append, List.length_nil]; omega)
      change sbin .add _ (.val (.string ⟨#[41]⟩)) = _ at a0
      simp only [g, a0, RR]
      exact ret_here h
end
section
variable {cs : List Cor}
end
section
variable {ds : List Dat}
end
variable [K : Knows QS]
end Go.Proofs.YtggnjjalfnhiiaaGreatDoor.E
/- Code as a text: the reference's way. -/
set_option linter.unusedSectionVars false
set_option linter.unusedSimpArgs false
set_option linter.unusedVariables false
namespace Go.Proofs.YtggnjjalfnhiiaaGreatDoor.E
open Go Go.RowKit
set_option maxRecDepth 100000
variable [L : Lam]
variable {σ τ τ' : AH} {R : AEnd → AH → Prop}
set_option maxHeartbeats 1000000 in
theorem c_spec_l9Text {o : OpD} (ho : OTx o) (h : R (.ret (str (bs (txtO o)))) σ) : acall TP fn_spec_l9Text [.rop (encOp o) 0] σ R := by
  obtain ⟨n, hn, hk⟩ : ∃ n : Nat, n < 16 ∧ o.kind = (n : Int) + 1 := ⟨(o.kind - 1).toNat, by have := ho.kind; omega, by have := ho.kind; omega⟩
  have l0 : ∀ τ, lod (.rop (encOp o) 0) τ = some (iv o.kind) := fun _ => rfl
  have l5 : ∀ τ, lod (.rop (encOp o) 5) τ = some (str o.name) := fun _ => rfl
  have l6 : ∀ τ, lod (.rop (encOp o) 6) τ = some (roD o.data) := fun _ => rfl
  have hpt := txtO_part ho
  have hnl := numsN_le o.kind
  have hnums := ho.num
  have a0 : anil (.rop (encOp o) 0) = some (.rop (encOp o) 0) := rfl
  refine s_spec_l9Text_ok ?_
  unfold s_spec_l9Text
  refine bsl_frz (es := ([] :: kwL).map fun w => [str (bs w)]) rfl (by decide) rfl (fun c hc => by obtain ⟨x, _, rfl⟩ := List.mem_map.1 hc; rfl) ?_
  have hlt : n + 1 < (([] : List UInt8) :: kwL).length := by show n + 1 < 17; omega
  have ix : idx 1 (.ro ((([] : List UInt8) :: kwL).map fun w => [str (bs w)])) (iv o.kind) σ = some (.rop [str (bs ((([] : List UInt8) :: kwL)[n + 1]'hlt))] 0) := by
    rw [hk]
    exact idx_ro (enc := fun w => [str (bs w)]) (es := [] :: kwL) hlt fun _ => rfl
  have ew : (([] : List UInt8) :: kwL)[n + 1]'hlt = kwL.getD n [] := by
    have h2 : n < kwL.length := hn
    rw [List.getElem_cons_succ]
    simp [List.getD, h2]
  rw [ew] at ix
  have lw : ∀ τ, lod (.rop [str (bs (kwL.getD n []))] 0) τ = some (str (bs (kwL.getD n []))) := fun _ => rfl
  have ekw : (o.kind - 1).toNat = n := by omega
  have hk10 := kw_len n
  simp only [a0, l0, ix, lw, RR]
  refine jn_by (P := fun z τ => σ = τ ∧ ∃ t, z = (.rop (encOp o) 0, str (bs t), ()) ∧ t.length ≤ 3000 ∧ ((dataB o.kind = false ∧ t = Lib.join (hdO o) [32]) ∨ (dataB o.kind = true ∧ t = kwL.getD n [] ∧ hdO o = [kwL.getD n [], writeD o.data o.data.length 0]))) ?_ ?_
  · rintro z _ ⟨rfl, t, rfl, ht, hc⟩
    refine jn_by (P := fun z τ1 => σ = τ1 ∧ z = (.rop (encOp o) 0, str (bs (Lib.join (hdO o) [32])), ())) ?_ ?_
    · rintro z _ ⟨rfl, rfl⟩
      refine c_spec_l9All ?_
      simp only [RR]
      refine lp_by (fun m y τ1 => ∃ j : Nat, y = (.rop (encOp o) 0, str (bs (Lib.join (hdO o ++ ((opL o).take j).map Lib.itoa) [32])), roN (opL o), iv (j : Int), ()) ∧ σ = τ1 ∧ numsN o.kind - j = m ∧ j ≤ numsN o.kind) (numsN o.kind) ⟨0, by rw [List.take_zero, List.map_nil, List.append_nil]; rfl, rfl, rfl, by omega⟩ ?_
      rintro m y _ ⟨j, rfl, rfl, rfl, hj⟩ R' hR'
      simp only [a0, l0, RR]
      refine c_spec_l9Nums ?_
      by_cases c : j < numsN o.kind
      · have g : (j : Int) < (numsN o.kind : Int) := by omega
        have hj4 : j < 4 := by omega
        have hm := hnums _ (List.getElem_mem (show j < (opL o).length from hj4))
        have lx : ∀ τ, lod (.rop [iv ((opL o)[j]'hj4)] 0) τ = some (iv ((opL o)[j]'hj4)) := fun _ => rfl
        have hp := hpt j
        have hp1 := hpt (j + 1)
        have es : (opL o).take (j + 1) = (opL o).take j ++ [(opL o)[j]'hj4] := List.take_succ_eq_append_getElem (show j < (opL o).length from hj4)
        have eJ : Lib.join (hdO o ++ ((opL o).take (j + 1)).map Lib.itoa) [32] = Lib.join (hdO o ++ ((opL o).take j).map Lib.itoa) [32] ++ [32] ++ Lib.itoa ((opL o)[j]'hj4) := by
          rw [es, List.map_append, ← List.append_assoc]
          have : ([(opL o)[j]'hj4].map Lib.itoa) = [Lib.itoa ((opL o)[j]'hj4)] := rfl
          rw [this, join_succ, if_neg (by unfold hdO; simp)]
          simp
        have hil := itoa_len (v := (opL o)[j]'hj4) (by omega) (by omega)
        have c1 := cat1 (a := Lib.join (hdO o ++ ((opL o).take j).map Lib.itoa) [32]) (b := [32]) (by simp only [List.length_cons, List.length_nil]; omega)
        have c2 := cat1 (a := Lib.join (hdO o ++ ((opL o).take j).map Lib.itoa) [32] ++ [32]) (b := Lib.itoa ((opL o)[j]'hj4)) (by simp only [List.length_append, List.length_cons, List.length_nil]; omega)
        change sbin .add _ (.val (.string ⟨#[32]⟩)) = _ at c1
        simp only [g, c1, idx_opL hj4, lx, RR]
        refine c_spec_l1Digits_int (by omega) (by omega) ?_
        change og (sbin .add _ (str (bs (Lib.itoa ((opL o)[j]'hj4))))) _
        simp only [c2, ibin_up c (by omega), RR]
        exact hR' _ _ (numsN o.kind - (j + 1)) _ (by omega) (.refl _) ⟨j + 1, by rw [eJ]; rfl, rfl, rfl, c⟩
      · have g : ¬ (j : Int) < (numsN o.kind : Int) := by omega
        obtain rfl : j = numsN o.kind := by omega
        simp only [g, RR]
        exact ret_here h
    · intro k hk2
      simp only [a0, l0, RR]
      refine c_spec_l9Const ?_
      rcases hc with ⟨cd, rfl⟩ | ⟨cd, rfl, e⟩
      · simp only [cd, RR]
        exact hk2 _ _ ⟨rfl, rfl⟩
      · have hd := ho.data cd
        have hwl := writeD_sm (DOk.of hd) (DTx.of hd) o.data.length 0 (by have := (DOk.of hd).len; omega)
        have c1 := cat1 (a := kwL.getD n []) (b := [32]) (by simp only [List.length_cons, List.length_nil]; omega)
        have c2 := cat1 (a := kwL.getD n [] ++ [32]) (b := writeD o.data o.data.length 0) (by simp only [List.length_append, List.length_cons, List.length_nil]; omega)
        change sbin .add _ (.val (.string ⟨#[32]⟩)) = _ at c1
        simp only [cd, c1, a0, l6, RR]
        refine c_spec_l3Write (DOk.of hd) (DTx.of hd) o.data.length 0 (by have := (DOk.of hd).len; omega) (by omega) ?_
        simp only [c2, RR]
        refine hk2 _ _ ⟨rfl, ?_⟩
        have ej : Lib.join [kwL.getD n [], writeD o.data o.data.length 0] [32] = kwL.getD n [] ++ [32] ++ writeD o.data o.data.length 0 := by simp [join_tail]
        rw [e, ej]
        rfl
  · intro k hk2
    refine c_spec_l9Named ?_
    cases cn : namedB o.kind with
    | true =>
      have hnm := ho.name cn
      have e8 : o.name.size = (by8 o.name).length := size_by8 ..
      have c1 := cat1 (a := kwL.getD n []) (b := [32]) (by simp only [List.length_cons, List.length_nil]; omega)
      have c2 := cat1 (a := kwL.getD n [] ++ [32]) (b := by8 o.name) (by simp only [List.length_append, List.length_cons, List.length_nil]; omega)
      rw [bs_by8] at c2
      change sbin .add _ (.val (.string ⟨#[32]⟩)) = _ at c1
      simp only [c1, a0, l5, c2, RR]
      have eh : hdO o = [kwL.getD n [], by8 o.name] := by unfold hdO; rw [ekw, if_pos cn]
      exact hk2 _ _ ⟨rfl, _, rfl, by simp only [List.length_append, List.length_cons, List.length_nil]; omega, .inl ⟨named_data cn, by rw [eh]; simp [join_tail]⟩⟩
    | false =>
      simp only [RR]
      cases cd : dataB o.kind with
      | true => exact hk2 _ _ ⟨rfl, _, rfl, by omega, .inr ⟨cd, rfl, by unfold hdO; rw [ekw, if_neg (by rw [cn]; decide), if_pos cd]⟩⟩
      | false =>
        have eh : hdO o = [kwL.getD n []] := by unfold hdO; rw [ekw, if_neg (by rw [cn]; decide), if_neg (by rw [cd]; decide)]
        exact hk2 _ _ ⟨rfl, _, rfl, by omega, .inl ⟨cd, by rw [eh]; exact (Lib.join_one _ _).symm⟩⟩
/-- The reference's text: it stops behind the bound. -/
def Past (bs : List Blk) (a : List UInt8) : Prop := 6000 < a.length ∧ 6000 < (codeT bs bs.length).length
set_option maxHeartbeats 2000000 in
theorem c_spec_CodeText {bs' : List Blk} (hs : sC bs') (h : R (.ret (.agg [iv (btxt bs').1, str (bs (btxt bs').2)])) σ) : acall TP fn_spec_CodeText [roBk bs'] σ R := by
  refine s_spec_CodeText_ok ?_
  unfold s_spec_CodeText
  intro φ hφ
  refine c_spec_l9Fault hs ?_
  unfold btxt at h
  by_cases c0 : opsF bs' = 0
  case neg =>
    rw [if_pos c0] at h
    simp only [c0, (bldTx (opsF bs') ⟨#[]⟩).1, RR]
    exact fin_cell hφ rfl rfl (one2 rfl rfl) h
  rw [if_neg (by simpa using c0)] at h
  obtain ⟨hl, hb⟩ := opsF_blkF c0
  have hall := codeT_all c0
  simp only [c0, RR]
  refine lp_by (fun m y τ1 => ∃ (i : Nat) (a : List UInt8), y = (roBk bs', .ptr φ 0 0 0, str (bs a), iv (i : Int), ()) ∧ σ.set φ ⟨0, 2, [[iv 0, str ⟨#[]⟩]]⟩ = τ1 ∧ i ≤ bs'.length ∧ (a = codeT bs' i ∨ Past bs' a) ∧ bs'.length - i = m) bs'.length ⟨0, [], rfl, rfl, by omega, .inl rfl, rfl⟩ ?_
  rintro m y _ ⟨i, a, rfl, rfl, hi, ha, rfl⟩ R' hR'
  simp only [len_ro, RR]
  have fin : (i = bs'.length ∨ 6000 < a.length) → og (lenStr (str (bs a))) fun v69 =>
        og (ibin .gtr v69 (.val (.int .i64 6000))) fun v70 =>
        apick v70 (
          og (bld [(.val (.int .i64 0)), (.val (.string ⟨#[]⟩))] [(0, 1), (1, 1)] [(0, (.val (.int .i64 2)))]) fun v71 =>
          sto 2 (.ptr φ 0 0 0) v71 (σ.set φ ⟨0, 2, [[iv 0, str ⟨#[]⟩]]⟩) fun σ =>
          og (lodA 2 (.ptr φ 0 0 0) σ) fun r2 =>
          aret r2 σ R) (
          og (bld [(.val (.int .i64 0)), (.val (.string ⟨#[]⟩))] [(0, 1), (1, 1)] [(1, str (bs a))]) fun v73 =>
          sto 2 (.ptr φ 0 0 0) v73 (σ.set φ ⟨0, 2, [[iv 0, str ⟨#[]⟩]]⟩) fun σ =>
          og (lodA 2 (.ptr φ 0 0 0) σ) fun r2 =>
          aret r2 σ R) := fun hc => by
    by_cases g6 : 6000 < a.length
    · have hT : 6000 < (codeT bs' bs'.length).length := by
        rcases ha with rfl | ha
        · exact Nat.lt_of_lt_of_le g6 (codeT_le bs' hi)
        · exact ha.2
      rw [if_pos hT] at h
      have g : (6000 : Int) < (a.length : Int) := by omega
      simp only [size_bs, g, (bldTx 2 ⟨#[]⟩).1, RR]
      exact fin_cell hφ rfl rfl (one2 rfl rfl) h
    · have e : a = codeT bs' bs'.length := by
        rcases ha with rfl | ha
        · rcases hc with rfl | hc
          · rfl
          · exact absurd hc g6
        · exact absurd ha.1 g6
      subst e
      rw [if_neg g6] at h
      have g : ¬ (6000 : Int) < ((codeT bs' bs'.length).length : Int) := by omega
      simp only [size_bs, g, (bldTx 0 (bs (codeT bs' bs'.length))).2, RR]
      exact fin_cell hφ rfl rfl (one2 rfl rfl) h
  by_cases c1 : i < bs'.length
  case neg =>
    have g : ¬ (i : Int) < (bs'.length : Int) := by omega
    simp only [g, RR]
    exact fin (.inl (by omega))
  have g1 : (i : Int) < (bs'.length : Int) := by omega
  by_cases c2 : a.length ≤ 6000
  case neg =>
    have g2 : ¬ (a.length : Int) ≤ 6000 := by omega
    simp only [g1, size_bs, g2, RR]
    exact fin (.inr (by omega))
  have g2 : (a.length : Int) ≤ 6000 := by omega
  obtain rfl : a = codeT bs' i := by
    rcases ha with rfl | ha
    · rfl
    · have := ha.1; omega
  clear ha fin
  obtain ⟨hba, hbl, hbo⟩ := blkF_opF (hb i c1)
  have d1 := itoa_len (v := (i : Int)) (by omega) (by omega)
  have d2 := itoa_len (v := (bs'.getD i default).args) (by omega) (by omega)
  have e1 := cat1 (a := codeT bs' i) (b := [98, 108, 111, 99, 107, 32]) (by simp only [List.length_cons, List.length_nil]; omega)
  have e2 := cat1 (a := codeT bs' i ++ [98, 108, 111, 99, 107, 32]) (b := Lib.itoa (i : Int)) (by simp only [List.length_append, List.length_cons, List.length_nil]; omega)
  have e3 := cat1 (a := codeT bs' i ++ [98, 108, 111, 99, 107, 32] ++ Lib.itoa (i : Int)) (b := [32]) (by simp only [List.length_append, List.length_cons, List.length_nil]; omega)
  have e4 := cat1 (a := codeT bs' i ++ [98, 108, 111, 99, 107, 32] ++ Lib.itoa (i : Int) ++ [32]) (b := Lib.itoa (bs'.getD i default).args) (by simp only [List.length_append, List.length_cons, List.length_nil]; omega)
  have e5 := cat1 (a := codeT bs' i ++ [98, 108, 111, 99, 107, 32] ++ Lib.itoa (i : Int) ++ [32] ++ Lib.itoa (bs'.getD i default).args) (b := [10]) (by simp only [List.length_append, List.length_cons, List.length_nil]; omega)
  change sbin .add _ (.val (.string ⟨#[98, 108, 111, 99, 107, 32]⟩)) = _ at e1
  change sbin .add _ (.val (.string ⟨#[32]⟩)) = _ at e3
  change sbin .add _ (.val (.string ⟨#[10]⟩)) = _ at e5
  have lb0 : ∀ τ, lod (.rop (encBlk (bs'.getD i default)) 0) τ = some (iv (bs'.getD i default).args) := fun _ => rfl
  have lb1 : ∀ τ, lod (.rop (encBlk (bs'.getD i default)) 1) τ = some (roO (bs'.getD i default).ops) := fun _ => rfl
  simp only [g1, size_bs, g2, e1, idx_ro c1 len_encBlk, blk_at c1, lb0, RR]
  refine c_spec_l1Digits_int (by omega) (by omega) ?_
  simp only [lb0, idx_ro c1 len_encBlk, blk_at c1, true_and]
  change og (sbin .add _ (str (bs (Lib.itoa (i : Int))))) _
  simp only [e2, e3, RR]
  refine c_spec_l1Digits_int (by omega) (by omega) ?_
  change og (sbin .add _ (str (bs (Lib.itoa (bs'.getD i default).args)))) _
  simp only [e4, e5, RR]
  have eh : codeT bs' i ++ [98, 108, 111, 99, 107, 32] ++ Lib.itoa (i : Int) ++ [32] ++ Lib.itoa (bs'.getD i default).args ++ [10] = codeT bs' i ++ (headB i (bs'.getD i default).args ++ opsT (bs'.getD i default).ops 0) := by
    unfold headB opsT; simp
  rw [eh]
  clear e1 e2 e3 e4 e5 eh
  have hpl := fun k (hk : k ≤ (bs'.getD i default).ops.length) => part_le bs' c1 hk
  have eEnd : codeT bs' i ++ (headB i (bs'.getD i default).args ++ opsT (bs'.getD i default).ops (bs'.getD i default).ops.length) = codeT bs' (i + 1) := by rw [codeT_succ]; rfl
  generalize hbd : bs'.getD i default = b at *
  refine lp_by (fun m y τ1 => ∃ k : Nat, y = (roBk bs', .ptr φ 0 0 0, str (bs (codeT bs' i ++ (headB i b.args ++ opsT b.ops k))), iv (i : Int), iv (k : Int), ()) ∧ σ.set φ ⟨0, 2, [[iv 0, str ⟨#[]⟩]]⟩ = τ1 ∧ k ≤ b.ops.length ∧ b.ops.length - k = m) b.ops.length ⟨0, rfl, rfl, by omega, rfl⟩ ?_
  rintro m y _ ⟨k, rfl, rfl, hk, rfl⟩ R2 hR2
  have hbi : ∀ τ, idx 2 (roBk bs') (iv (i : Int)) τ = some (.rop (encBlk b) 0) := fun τ => by rw [idx_ro c1 len_encBlk, blk_at c1, hbd]
  have hp := hpl k hk
  have leave : (k = b.ops.length ∨ 6000 < (codeT bs' i ++ (headB i b.args ++ opsT b.ops k)).length) → og (ibin .add (iv (i : Int)) (.val (.int .i64 1))) fun v23 => R' (roBk bs', .ptr φ 0 0 0, str (bs (codeT bs' i ++ (headB i b.args ++ opsT b.ops k))), v23, ()) (σ.set φ ⟨0, 2, [[iv 0, str ⟨#[]⟩]]⟩) := fun hc => by
    simp only [ibin_up c1 (by omega), RR]
    refine hR' _ _ (bs'.length - (i + 1)) _ (by omega) (.refl _) ⟨i + 1, _, rfl, rfl, c1, ?_, rfl⟩
    rcases hc with rfl | hc
    · exact .inl eEnd
    · exact .inr ⟨hc, by omega⟩
  simp only [hbi, lb1, len_ro, RR]
  by_cases c3 : k < b.ops.length
  case neg =>
    have g : ¬ (k : Int) < (b.ops.length : Int) := by omega
    simp only [g, RR]
    exact leave (.inl (by omega))
  have g3 : (k : Int) < (b.ops.length : Int) := by omega
  by_cases c4 : (codeT bs' i ++ (headB i b.args ++ opsT b.ops k)).length ≤ 6000
  case neg =>
    have g4 : ¬ ((codeT bs' i ++ (headB i b.args ++ opsT b.ops k)).length : Int) ≤ 6000 := by omega
    simp only [g3, size_bs, g4, RR]
    exact leave (.inr (by omega))
  have g4 : ((codeT bs' i ++ (headB i b.args ++ opsT b.ops k)).length : Int) ≤ 6000 := by omega
  have hot := OTx.of (hbo k c3)
  have ht := txtO_len hot
  have d3 := itoa_len (v := (k : Int)) (by omega) (by omega)
  have hp1 := hpl (k + 1) c3
  have e1 := cat1 (a := codeT bs' i ++ (headB i b.args ++ opsT b.ops k)) (b := Lib.itoa (k : Int)) (by omega)
  have e2 := cat1 (a := codeT bs' i ++ (headB i b.args ++ opsT b.ops k) ++ Lib.itoa (k : Int)) (b := [58, 32]) (by rw [List.length_append]; simp only [List.length_cons, List.length_nil]; omega)
  have e3 := cat1 (a := codeT bs' i ++ (headB i b.args ++ opsT b.ops k) ++ Lib.itoa (k : Int) ++ [58, 32]) (b := txtO (b.ops.getD k default)) (by rw [List.length_append, List.length_append]; simp only [List.length_cons, List.length_nil]; omega)
  have e4 := cat1 (a := codeT bs' i ++ (headB i b.args ++ opsT b.ops k) ++ Lib.itoa (k : Int) ++ [58, 32] ++ txtO (b.ops.getD k default)) (b := [10]) (by rw [List.length_append, List.length_append, List.length_append]; simp only [List.length_cons, List.length_nil]; omega)
  change sbin .add _ (.val (.string ⟨#[58, 32]⟩)) = _ at e2
  change sbin .add _ (.val (.string ⟨#[10]⟩)) = _ at e4
  have eN : codeT bs' i ++ (headB i b.args ++ opsT b.ops k) ++ Lib.itoa (k : Int) ++ [58, 32] ++ txtO (b.ops.getD k default) ++ [10] = codeT bs' i ++ (headB i b.args ++ opsT b.ops (k + 1)) := by
    rw [opsT_succ]; unfold lineO; simp
  simp only [g3, size_bs, g4, hbi, lb1, idx_ro c3 len_encOp, op_at c3, RR]
  refine c_spec_l1Digits_int (by omega) (by omega) ?_
  simp only [hbi, lb1, idx_ro c3 len_encOp, op_at c3, true_and]
  change og (sbin .add _ (str (bs (Lib.itoa (k : Int))))) _
  simp only [e1, e2, RR]
  refine c_spec_l9Text hot ?_
  simp only [e3, e4, ibin_up c3 (by omega), true_and, RR]
  exact hR2 _ _ (b.ops.length - (k + 1)) _ (by omega) (.refl _) ⟨k + 1, by rw [eN]; rfl, rfl, c3, rfl⟩
end Go.Proofs.YtggnjjalfnhiiaaGreatDoor.E
/- Calls at a later world; code that is read out of the memory. -/
set_option linter.unusedSectionVars false
set_option linter.unusedSimpArgs false
set_option linter.unusedVariables false
namespace Go.Proofs.YtggnjjalfnhiiaaGreatDoor.E
open Go Go.RowKit
set_option maxRecDepth 100000
theorem VR.bw {κ κ' : Kap} (hρ : ∀ φ st r, κ.ρ φ st = some r → κ'.ρ φ st = some r) (hM : ∀ b o v, κ.M b o = some v → κ'.M b o = some v) {a : AV} {v : Value} (h : VR κ a v) : VR κ' a v := by
  induction h with
  | val v => exact .val v
  | agg hl h ih => exact .agg hl ih
  | tup hl h ih => exact .tup hl ih
  | roEnd a => exact .roEnd a
  | ro hc hz hm hv ih => exact .ro hc hz (fun i j hi hj => hM _ _ _ (hm i j hi hj)) ih
  | rop hm hv ih => exact .rop (fun j hj => hM _ _ _ (hm j hj)) ih
  | own h hlo hn => exact .own (hρ _ _ _ h) hlo hn
  | ownEnd h ho => exact .ownEnd (hρ _ _ _ h) ho
  | vw h hlo hn => exact .vw (hρ _ _ _ h) hlo hn
  | ptr h hlo => exact .ptr (hρ _ _ _ h) hlo
  | clo hl hl2 h h2 ih ih2 => exact .clo hl hl2 ih ih2
  | ifc h ih => exact .ifc ih
  | emp a => exact .emp a
  | any v => exact .any v
  | yld l => exact .yld l
theorem calls_own [L : Lam] {P : Program} {f : FuncId} {args : List AV} {vs : List Value} {v : Value} {κ : Kap} {w : World} (h : acall P f args ah0 (fun e _ => e = .ret (.val v))) (hr : Rel κ ah0 w) (hB : κ.B = w.heap.size) (hW : κ.W = w) (hv : VRs κ args vs) :
    Calls P f vs.toArray w fun e w' => e = .returned v ∧ Below w.heap.size w w' := by
  obtain ⟨fn, h1, h2, h3, h4⟩ := h
  refine (h4 _ w vs hr hv).mono ?_
  rintro e w' ⟨κ', ae, σ', rfl, hs, hE⟩
  have hb := hs.rel.bel
  rw [hs.ext.B, hs.ext.W, hB, hW] at hb
  cases e with
  | returned v => cases hE; exact ⟨rfl, hb⟩
  | _ => exact hE.elim
variable [L : Lam]
/-- A call's contract, at a world that has grown since. -/
theorem calls_at [K : Knows QP] {P : Program} {f : FuncId} {args : List AV} {vs : List Value} {v : Value} {κ : Kap} {σ : AH} {w w1 : World} (hr : Rel κ σ w) (hb : Below w.heap.size w w1)
    (h : @acall (lamQ QP) P f args ah0 (fun e _ => e = .ret (.val v))) (hv : VRs κ args vs) : Calls P f vs.toArray w1 fun e w' => e = .returned v ∧ Below w1.heap.size w1 w' := by
  have hq : QP w1 := (QP_at hr).below hb (Nat.le_refl _)
  have hr1 : @Rel (lamQ QP) ⟨κ.ρ, fun b o => w1.cell? ⟨b, o, none⟩, w1.heap.size, w1⟩ ah0 w1 := by
    obtain ⟨N, hN⟩ := hr.fin
    exact @Rel.mk (lamQ QP) ⟨κ.ρ, fun b o => w1.cell? ⟨b, o, none⟩, w1.heap.size, w1⟩ ah0 w1 (fun _ _ h => by cases h) (fun _ _ _ _ _ _ h => by cases h) (fun _ _ _ h => h) (fun _ _ _ h => by cases h) (fun _ _ _ h => by cases h) ⟨N, fun φ h => ⟨rfl, (hN φ h).2⟩⟩ (Below.refl _ _) (Nat.le_refl _) (fun _ _ h => by cases h) ⟨hq, Nat.le_refl _⟩
  exact @calls_own (lamQ QP) P f args vs v ⟨κ.ρ, fun b o => w1.cell? ⟨b, o, none⟩, w1.heap.size, w1⟩ w1 h hr1 rfl rfl ⟨hv.1, fun i hi => VR.bw (κ := κ) (κ' := ⟨κ.ρ, fun b o => w1.cell? ⟨b, o, none⟩, w1.heap.size, w1⟩) (fun _ _ _ h => h) (fun b o v h => cell_below (hr.mem _ _ _ h) hb (Nat.le_refl _)) (hv.2 i hi)⟩
theorem vr_blks {κ : Kap} {xs : List Blk} {v : Value} (hv : VR κ (roBk xs) v) : (xs = [] ∧ ∃ a, v = .slice a 0 0) ∨ ∃ b off cap, v = .slice (some ⟨b, off, none⟩) xs.length cap ∧ xs.length ≤ cap ∧
    ∀ i, i < xs.length → κ.M b (off + i * 2) = some (.int .i64 (xs.getD i default).args) ∧ ∃ u, κ.M b (off + i * 2 + 1) = some u ∧ VR κ (roO (xs.getD i default).ops) u := by
  generalize ha : roBk xs = a at hv
  cases hv with
  | roEnd a0 =>
    have : xs.map encBlk = [] := by injection ha
    exact .inl ⟨by simpa using this, a0, rfl⟩
  | @ro es b off cap sz vals hc hz hm hv =>
    have he : xs.map encBlk = es := by injection ha
    subst he
    right
    refine ⟨b, off, cap, by simp, by simpa using hc, fun i hi => ?_⟩
    have hi' : i < (xs.map encBlk).length := by simpa using hi
    have hg : (xs.map encBlk).getD i [] = encBlk (xs.getD i default) := by simp [List.getD, hi]
    have hs : sz = 2 := by have := hz i hi'; rw [hg] at this; exact this.symm
    subst hs
    have h0 := hm i 0 hi' (by omega)
    have h1 := hm i 1 hi' (by omega)
    have g0 := hv i 0 hi' (by omega)
    have g1 := hv i 1 hi' (by omega)
    rw [hg] at g0 g1
    have e0 : vals i 0 = .int .i64 (xs.getD i default).args := by
      have h3 : VR κ (iv (xs.getD i default).args) (vals i 0) := g0
      generalize vals i 0 = y at h3
      cases h3; rfl
    rw [e0] at h0
    exact ⟨h0, vals i 1, h1, g1⟩
  | _ => cases ha
theorem vr_ops {κ : Kap} {xs : List OpD} {v : Value} (hv : VR κ (roO xs) v) : (xs = [] ∧ ∃ a, v = .slice a 0 0) ∨ ∃ b off cap, v = .slice (some ⟨b, off, none⟩) xs.length cap ∧ xs.length ≤ cap ∧
    ∀ i, i < xs.length → κ.M b (off + i * 7) = some (.int .i64 (xs.getD i default).kind) ∧ κ.M b (off + i * 7 + 1) = some (.int .i64 (xs.getD i default).a) ∧ κ.M b (off + i * 7 + 2) = some (.int .i64 (xs.getD i default).b) ∧
      κ.M b (off + i * 7 + 3) = some (.int .i64 (xs.getD i default).c) ∧ κ.M b (off + i * 7 + 4) = some (.int .i64 (xs.getD i default).d) ∧ κ.M b (off + i * 7 + 5) = some (.string (xs.getD i default).name) ∧
      ∃ u, κ.M b (off + i * 7 + 6) = some u ∧ VR κ (roD (xs.getD i default).data) u := by
  generalize ha : roO xs = a at hv
  cases hv with
  | roEnd a0 =>
    have : xs.map encOp = [] := by injection ha
    exact .inl ⟨by simpa using this, a0, rfl⟩
  | @ro es b off cap sz vals hc hz hm hv =>
    have he : xs.map encOp = es := by injection ha
    subst he
    right
    refine ⟨b, off, cap, by simp, by simpa using hc, fun i hi => ?_⟩
    have hi' : i < (xs.map encOp).length := by simpa using hi
    have hg : (xs.map encOp).getD i [] = encOp (xs.getD i default) := by simp [List.getD, hi]
    have hs : sz = 7 := by have := hz i hi'; rw [hg] at this; exact this.symm
    subst hs
    have num : ∀ j n, j < 7 → (encOp (xs.getD i default)).getD j .any = iv n → κ.M b (off + i * 7 + j) = some (.int .i64 n) := fun j n hj e => by
      have h0 := hm i j hi' hj
      have g0 := hv i j hi' hj
      rw [hg, e] at g0
      generalize vals i j = y at h0 g0
      cases g0; exact h0
    refine ⟨num 0 _ (by omega) rfl, num 1 _ (by omega) rfl, num 2 _ (by omega) rfl, num 3 _ (by omega) rfl, num 4 _ (by omega) rfl, ?_, vals i 6, hm i 6 hi' (by omega), ?_⟩
    · have h0 := hm i 5 hi' (by omega)
      have g0 : VR κ (str (xs.getD i default).name) (vals i 5) := by have := hv i 5 hi' (by omega); rw [hg] at this; exact this
      generalize vals i 5 = y at h0 g0
      cases g0; exact h0
    · have := hv i 6 hi' (by omega)
      rw [hg] at this
      exact this
  | _ => cases ha
end Go.Proofs.YtggnjjalfnhiiaaGreatDoor.E
/- Code as a text: the program's text of an operation. -/
set_option linter.unusedSectionVars false
set_option linter.unusedSimpArgs false
set_option linter.unusedVariables false
namespace Go.Proofs.YtggnjjalfnhiiaaGreatDoor.E
open Go Go.RowKit
set_option maxRecDepth 100000
variable [L : Lam]
variable {σ τ τ' : AH} {R : AEnd → AH → Prop}
theorem kw_at {k : Nat} (hk : k < 16) : (kwL.map fun w => [str (bs w)]).getD k [] = [str (bs (kwL.getD k []))] := by
  have h : k < kwL.length := hk
  simp [List.getD, h]
theorem kw_idx {φ : Nat} {k : Nat} (hk : k < 16) (hF : τ φ = some ⟨0, 1, kwL.map fun w => [str (bs w)]⟩) : ∃ p, idx 1 (.own φ 0 0 16) (iv (k : Int)) τ = some p ∧ lod p τ = some (str (bs (kwL.getD k []))) := by
  have hl : (kwL.map fun w => [str (bs w)]).length = 16 := rfl
  have ix := idx_own (st := 0) (off := 0) hF (show k < (kwL.map fun w => [str (bs w)]).length by rw [hl]; exact hk)
  rw [hl] at ix
  refine ⟨_, ix, ?_⟩
  rw [Nat.zero_add]
  exact lod_at hF rfl (by rw [kw_at hk]; rfl)
theorem slc_roT {xs : List Int} {k : Nat} (hk : k ≤ xs.length) : slc 1 (roN xs) none (some (iv (k : Nat))) none σ = some (roN (xs.take k)) := by
  have e : abd (some (iv (k : Nat))) (xs.map fun x => [iv x]).length = some k := abd_nat _ _
  have e2 : abd none 0 = some 0 := rfl
  have e3 : abd none (xs.map fun x => [iv x]).length = some (xs.map fun x => [iv x]).length := rfl
  simp only [slc, e, e2, e3]
  rw [if_pos ⟨by omega, by simpa using hk, Nat.le_refl _, by simp, by rw [List.all_eq_true]; intro c hc; obtain ⟨x, _, rfl⟩ := List.mem_map.1 hc; rfl⟩]
  rw [List.drop_zero, ← List.map_take]
set_option maxHeartbeats 1000000 in
theorem c_impl_Op_text [K : Knows QP] {o : OpD} (ho : OTx o) (h : R (.ret (str (bs (txtO o)))) σ) : acall TP fn_impl_Op_text [.agg (encOp o)] σ R := by
  obtain ⟨n, hn, hk⟩ : ∃ n : Nat, n < 16 ∧ o.kind = (n : Int) + 1 := ⟨(o.kind - 1).toNat, by have := ho.kind; omega, by have := ho.kind; omega⟩
  have l0 : ∀ τ, lod (.rop (encOp o) 0) τ = some (iv o.kind) := fun _ => rfl
  have l1 : ∀ τ, lod (.rop (encOp o) 1) τ = some (iv o.a) := fun _ => rfl
  have l2 : ∀ τ, lod (.rop (encOp o) 2) τ = some (iv o.b) := fun _ => rfl
  have l3 : ∀ τ, lod (.rop (encOp o) 3) τ = some (iv o.c) := fun _ => rfl
  have l4 : ∀ τ, lod (.rop (encOp o) 4) τ = some (iv o.d) := fun _ => rfl
  have l5 : ∀ τ, lod (.rop (encOp o) 5) τ = some (str o.name) := fun _ => rfl
  have l6 : ∀ τ, lod (.rop (encOp o) 6) τ = some (roD o.data) := fun _ => rfl
  have hsm := txtO_len ho
  have hnl := numsN_le o.kind
  have hnums := ho.nums
  have e40 : bslR 1 [(.val (.int .i64 0))] 4 [(0, iv o.a), (1, iv o.b), (2, iv o.c), (3, iv o.d)] = some (roN (opL o)) := rfl
  refine s_impl_Op_text_ok ?_
  unfold s_impl_Op_text
  refine box_frz rfl ?_
  refine bsl_new (es := kwL.map fun w => [str (bs w)]) rfl (by omega) (by omega) fun ψ hψ => ?_
  have hs0 : AH.Sub σ (σ.set ψ ⟨0, 1, kwL.map fun w => [str (bs w)]⟩) := .set (.refl σ) _ hψ
  obtain ⟨p, p1, p2⟩ := kw_idx hn (AH.set_same σ ψ ⟨0, 1, kwL.map fun w => [str (bs w)]⟩)
  have e1 : ibin .sub (iv o.kind) (.val (.int .i64 1)) = some (iv (n : Int)) := by
    rw [ibin_sub (by omega) (by omega), hk]
    exact congrArg (fun x => some (iv x)) (by omega)
  simp only [l0, e1, p1, p2, RR]
  generalize σ.set ψ ⟨0, 1, kwL.map fun w => [str (bs w)]⟩ = σ1 at hs0
  refine bsl1 (row := [str (bs (kwL.getD n []))]) rfl (by omega) fun φ hφ => ?_
  have hs1 : AH.Sub σ (σ1.set φ ⟨0, 1, [[str (bs (kwL.getD n []))]]⟩) := hs0.trans (.set (.refl σ1) _ hφ)
  have hB1 : Buf (σ1.set φ ⟨0, 1, [[str (bs (kwL.getD n []))]]⟩) 1 (.own φ 0 0 1) [[str (bs (kwL.getD n []))]] := .inr ⟨φ, 0, rfl, AH.set_same ..⟩
  have hf1 : ∀ χ, χ ∈ famL (AV.own φ 0 0 1) → σ χ = none := fun χ c => by
    have : χ = φ := by simpa [famL] using c
    rw [this]; exact hs0.none hφ
  generalize σ1.set φ ⟨0, 1, [[str (bs (kwL.getD n []))]]⟩ = σ2 at hs1 hB1
  have ekw : (o.kind - 1).toNat = n := by omega
  refine jn_by (P := fun z τ => ∃ u, z = (.rop (encOp o) 0, u, ()) ∧ Buf τ 1 u (((hdO o).map bs).map fun s => [str s]) ∧ AH.Sub σ τ ∧ ∀ χ, χ ∈ famL u → σ χ = none) ?_ ?_
  · rintro z τ ⟨u, rfl, hB, hs, hf⟩
    simp only [l1, l2, l3, l4, e40, l0, RR]
    refine c_impl_opNums ?_
    simp only [l1, l2, l3, l4, slc_roT (xs := opL o) (k := numsN o.kind) hnl, RR, true_and, and_true]
    have hnl2 : ((opL o).take (numsN o.kind)).length = numsN o.kind := by rw [List.length_take, len_opL]; omega
    have hhl : (hdO o).length ≤ 2 := by unfold hdO; cases namedB o.kind <;> cases dataB o.kind <;> simp
    have eL : lenS (roN ((opL o).take (numsN o.kind))) = some (iv (numsN o.kind : Int)) := by
      have : lenS (roN ((opL o).take (numsN o.kind))) = some (iv ((((opL o).take (numsN o.kind)).map fun x => [iv x]).length : Int)) := rfl
      rw [this, List.length_map, hnl2]
    unfold txtO wordsO at h hsm
    generalize (opL o).take (numsN o.kind) = ks at h hsm hnums hnl2 eL ⊢
    generalize hdO o = hd at h hsm hB hhl
    simp only [eL, RR]
    refine lp_by (fun m y τ => ∃ (j : Nat) (u : AV), y = (u, roN ks, iv (numsN o.kind : Int), iv (j : Int), ()) ∧ Buf τ 1 u (((hd ++ (ks.take j).map Lib.itoa).map bs).map fun s => [str s]) ∧ AH.Sub σ τ ∧ (∀ χ, χ ∈ famL u → σ χ = none) ∧ numsN o.kind - j = m ∧ j ≤ numsN o.kind) (numsN o.kind) ⟨0, u, rfl, by simpa using hB, hs, hf, rfl, by omega⟩ ?_
    rintro m y τ ⟨j, u, rfl, hB, hs, hf, rfl, hj⟩ R' hR'
    by_cases c : j < numsN o.kind
    · have g : (j : Int) < (numsN o.kind : Int) := by omega
      have hjl : j < ks.length := by omega
      have hm := hnums _ (List.getElem_mem hjl)
      have ix : idx 1 (roN ks) (iv (j : Int)) τ = some (.rop [iv ks[j]] 0) := idx_ro (enc := fun x => [iv x]) (es := ks) hjl fun _ => rfl
      have lx : ∀ τ, lod (.rop [iv ks[j]] 0) τ = some (iv ks[j]) := fun _ => rfl
      simp only [g, ix, lx, RR]
      refine c_impl_dec (by omega) (by omega) ?_
      simp only [RR]
      refine push_row (row := [str (bs (Lib.itoa ks[j]))]) hB rfl (by omega) rfl (fun y hy => by obtain rfl := List.mem_singleton.1 hy; rfl) (by simp; omega) fun u' τ' hB' hK hfam => ?_
      simp only [ibin_up c (by omega), RR]
      refine hR' _ _ (numsN o.kind - (j + 1)) τ' (by omega) (.refl _) ⟨j + 1, u', rfl, ?_, hK.sub hs hf, (fun χ hχ => (hfam χ hχ).elim (hf χ) fun d => hs.none d), rfl, c⟩
      have e : hd ++ (ks.take (j + 1)).map Lib.itoa = (hd ++ (ks.take j).map Lib.itoa) ++ [Lib.itoa ks[j]] := by rw [List.take_succ_eq_append_getElem hjl, List.map_append, List.append_assoc]; rfl
      rw [e, List.map_append, List.map_append]
      exact hB'
    · have g : ¬ (j : Int) < (numsN o.kind : Int) := by omega
      obtain rfl : j = ks.length := by omega
      rw [List.take_length] at hB
      simp only [g, RR]
      refine acall_frz (args' := [roS ((hd ++ ks.map Lib.itoa).map bs), str ⟨#[32]⟩]) hs rfl (fun i hi => ?_) ?_
      · match i, hi with
        | 0, _ => exact fz_row hB hf rfl (by intro c hc; obtain ⟨o, _, rfl⟩ := List.mem_map.1 hc; rfl) fun _ _ _ _ => .same _
        | 1, _ => exact .same _
      refine c_strings_Join (by simp; omega) (by rw [map_by8]; omega) ?_
      rw [map_by8]
      simp only [RR]
      exact ret_here h
  · intro k hk2
    have plain : ∀ (mid : List (List UInt8)) u τ, hdO o = kwL.getD n [] :: mid → Buf τ 1 u (((kwL.getD n [] :: mid).map bs).map fun s => [str s]) → AH.Sub σ τ → (∀ χ, χ ∈ famL u → σ χ = none) → k (.rop (encOp o) 0, u, ()) τ := fun mid u τ e hB hs hf => hk2 _ _ ⟨u, rfl, by rw [e]; exact hB, hs, hf⟩
    have push : ∀ (w : List UInt8), hdO o = [kwL.getD n [], w] → bsl 1 [(.val (.string ⟨#[]⟩))] 1 [(0, str (bs w))] σ2 fun v σ => E.app 1 (.own φ 0 0 1) v σ fun v2 σ => k (.rop (encOp o) 0, v2, ()) σ := fun w e => by
      refine push_row (row := [str (bs w)]) hB1 rfl (by omega) rfl (fun y hy => by obtain rfl := List.mem_singleton.1 hy; rfl) (by simp) fun u' τ' hB' hK hfam => ?_
      exact plain [w] _ _ e hB' (hK.sub hs1 hf1) fun χ hχ => (hfam χ hχ).elim (hf1 χ) fun d => hs1.none d
    refine c_impl_opNamed ?_
    cases cn : namedB o.kind with
    | true =>
      simp only [l5, RR]
      have := push (by8 o.name) (by unfold hdO; rw [ekw, if_pos cn])
      rw [bs_by8] at this
      exact this
    | false =>
      simp only [l0, RR]
      refine c_impl_opData ?_
      cases cd : dataB o.kind with
      | true =>
        have hd := ho.data cd
        simp only [l6, RR]
        refine c_impl_written (DOk.of hd) (DTx.of hd) o.data.length 0 (by have := (DOk.of hd).len; omega) (by omega) ?_
        simp only [RR]
        exact push _ (by unfold hdO; rw [ekw, if_neg (by rw [cn]; decide), if_pos cd])
      | false =>
        simp only [RR]
        exact plain [] _ _ (by unfold hdO; rw [ekw, if_neg (by rw [cn]; decide), if_neg (by rw [cd]; decide)]) hB1 hs1 hf1
end Go.Proofs.YtggnjjalfnhiiaaGreatDoor.E
/- Code as a text: the program's way, walked. -/
set_option linter.unusedSectionVars false
set_option linter.unusedSimpArgs false
set_option linter.unusedVariables false
namespace Go.Proofs.YtggnjjalfnhiiaaGreatDoor.E
open Go Go.RowKit
set_option maxRecDepth 100000
theorem hidT {p : Prop} (h : p) : Hid p := h
theorem owns_below {w w' : World} {B : Nat} {e : TypeId} {v : Value} {n : Nat} {xs : List Value} (h : w.ownsRowF B e 1 v n xs) (hb : Below w.heap.size w w') : w'.ownsRowF B e 1 v n xs := by
  refine ⟨h.1, ?_⟩
  rcases h.2 with hn | ⟨g, cap, cur, fz, hv, hbg, hg, rest⟩
  · exact .inl hn
  · refine .inr ⟨g, cap, cur, fz, hv, hbg, ?_, rest⟩
    rw [hb.block g (Array.getElem?_eq_some_iff.1 hg).1]; exact hg
theorem bldAt_below {w w' : World} {T e : TypeId} {B b : Nat} {p : Value} {xs : List Value} (h : Lib.BuilderAtF T e B b p xs w) (hb : Below w.heap.size w w') : Lib.BuilderAtF T e B b p xs w' := by
  obtain ⟨hB, v, hk, hown, hne⟩ := h
  exact ⟨hB, v, by rw [hb.block b (Array.getElem?_eq_some_iff.1 hk).1]; exact hk, owns_below hown hb, hne⟩
theorem bld_below {w w' : World} {T e : TypeId} {B b : Nat} {xs : List Value} (h : Lib.IsBuilderF T e B b xs w) (hb : Below w.heap.size w w') : Lib.IsBuilderF T e B b xs w' := h.imp (fun h => bldAt_below h hb) fun h => bldAt_below h hb
variable [L : Lam]
section
variable [K : Knows QP] {κ : Kap} {σ : AH} {w : World}
theorem at_opsFault {bs' : List Blk} {v : Value} (hr : Rel κ σ w) (hv : VR κ (roBk bs') v) (w1 : World) (hb : Below w.heap.size w w1) : Calls Tryz.prog 25 #[v] w1 fun e w' => e = .returned (.int .i64 (opsF bs')) ∧ Below w1.heap.size w1 w' :=
  calls_at (args := [roBk bs']) (vs := [v]) hr hb (@c_impl_opsFault (lamQ QP) _ _ _ rfl) (.cons hv (.nil κ))
theorem at_dec {n : Int} (h0 : -9223372036854775808 ≤ n) (h1 : n ≤ 9223372036854775807) (hr : Rel κ σ w) (w1 : World) (hb : Below w.heap.size w w1) : Calls Tryz.prog 27 #[.int .i64 n] w1 fun e w' => e = .returned (.string (bs (Lib.itoa n))) ∧ Below w1.heap.size w1 w' :=
  w_dec n h0 h1 w1 ((QP_at hr).below hb (Nat.le_refl _))
theorem at_text {o : OpD} (ho : OTx o) {d : Value} (hr : Rel κ σ w) (hd : VR κ (roD o.data) d) (w1 : World) (hb : Below w.heap.size w w1) :
    Calls Tryz.prog 28 #[.agg #[.int .i64 o.kind, .int .i64 o.a, .int .i64 o.b, .int .i64 o.c, .int .i64 o.d, .string o.name, d]] w1 fun e w' => e = .returned (.string (bs (txtO o))) ∧ Below w1.heap.size w1 w' :=
  calls_at (args := [.agg (encOp o)]) (vs := [.agg #[.int .i64 o.kind, .int .i64 o.a, .int .i64 o.b, .int .i64 o.c, .int .i64 o.d, .string o.name, d]]) hr hb (@c_impl_Op_text (lamQ QP) _ _ (knowsQ QP) _ ho rfl) (.cons (by
    show VR κ (.agg (encOp o)) (.agg [Value.int .i64 o.kind, .int .i64 o.a, .int .i64 o.b, .int .i64 o.c, .int .i64 o.d, .string o.name, d].toArray)
    refine .agg rfl fun i hi => ?_
    match i, hi with
    | 0, _ => exact .val _
    | 1, _ => exact .val _
    | 2, _ => exact .val _
    | 3, _ => exact .val _
    | 4, _ => exact .val _
    | 5, _ => exact .val _
    | 6, _ => exact hd) (.nil κ))
end
end Go.Proofs.YtggnjjalfnhiiaaGreatDoor.E
/- Code as a text: the program's way, walked. -/
set_option linter.unusedSectionVars false
set_option linter.unusedSimpArgs false
set_option linter.unusedVariables false
namespace Go.Proofs.YtggnjjalfnhiiaaGreatDoor.E
open Go Go.RowKit
set_option maxRecDepth 100000
variable [L : Lam]
section
variable [K : Knows QP] {κ : Kap} {σ : AH} {w : World}
set_option maxHeartbeats 4000000 in
theorem w_CodeText_bad {bs' : List Blk} {v : Value} (hr : Rel κ σ w) (hv : VR κ (roBk bs') v) (h0 : opsF bs' ≠ 0) :
    Calls Tryz.prog 9 #[v] w fun e w' => e = .returned (.agg #[.int .i64 (opsF bs'), .string ⟨#[]⟩]) ∧ Below w.heap.size w w' := by
  have b0 : Below w.heap.size w (w.alloc (.cells #[.int .i64 0, .string ⟨#[]⟩] 25)) := (Below.refl w.heap.size w).alloc (Nat.le_refl _) _
  have cF := at_opsFault hr hv _ b0
  go_enter Tryz.func9, Tryz.ntmps9
  go_wp2_with (go_at_call 25; refine cF.mono ?_)
  rintro e w1 ⟨rfl, hb1⟩
  have hrr := below_res hb1
  have hc0 : w1.cell? ⟨w.heap.size, 0, none⟩ = some (.int .i64 0) := by simp [World.cell?, hrr]
  have hc1 : w1.cell? ⟨w.heap.size, 1, none⟩ = some (.string ⟨#[]⟩) := by simp [World.cell?, hrr]
  have hf0 : w1.frozen? ⟨w.heap.size, 0, none⟩ = false := by simp [World.frozen?, hrr]
  have hf1 : w1.frozen? ⟨w.heap.size, 1, none⟩ = false := by simp [World.frozen?, hrr]
  go_wp2
  (try simp only [Exit.inBlock, Exit.then])
  refine bodyPost_ret (results_cell_row Tryz.results9 _ _ w.heap.size 25 _ (0, 0) _ rfl (set_res hrr) Tryz.underlying25 rfl rfl) rfl ?_
  exact ⟨rfl, .setCell (.setCell (b0.trans (hb1.mono (by simp))) (Nat.le_refl _) _) (Nat.le_refl _) _⟩
theorem code_at {bs' : List Blk} {v : Value} (hr : Rel κ σ w) (hv : VR κ (roBk bs') v) : ∃ ao cap, v = .slice ao bs'.length cap ∧ ∀ i, i < bs'.length → ∃ b off, ao = some ⟨b, off, none⟩ ∧ bs'.length ≤ cap ∧
    (∀ wr, Below w.heap.size w wr → wr.cell? ⟨b, off + i * 2, none⟩ = some (.int .i64 (bs'.getD i default).args)) ∧ ∃ u, (∀ wr, Below w.heap.size w wr → wr.cell? ⟨b, off + i * 2 + 1, none⟩ = some u) ∧ VR κ (roO (bs'.getD i default).ops) u := by
  rcases vr_blks hv with ⟨rfl, a, rfl⟩ | ⟨b, off, cap, rfl, hc, h⟩
  · exact ⟨a, 0, rfl, fun i hi => absurd hi (Nat.not_lt_zero _)⟩
  · refine ⟨_, cap, rfl, fun i hi => ⟨b, off, rfl, hc, ?_⟩⟩
    obtain ⟨h1, u, h2, h3⟩ := h i hi
    exact ⟨fun wr hb => cell_below (hr.mem _ _ _ h1) hb (Nat.le_refl _), u, fun wr hb => cell_below (hr.mem _ _ _ h2) hb (Nat.le_refl _), h3⟩
theorem ops_at {os : List OpD} {v : Value} (hr : Rel κ σ w) (hv : VR κ (roO os) v) : ∃ ao cap, v = .slice ao os.length cap ∧ ∀ i, i < os.length → ∃ b off d, ao = some ⟨b, off, none⟩ ∧ os.length ≤ cap ∧ VR κ (roD (os.getD i default).data) d ∧
    ∀ wr, Below w.heap.size w wr → wr.cell? ⟨b, off + i * 7, none⟩ = some (.int .i64 (os.getD i default).kind) ∧ wr.cell? ⟨b, off + i * 7 + 1, none⟩ = some (.int .i64 (os.getD i default).a) ∧ wr.cell? ⟨b, off + i * 7 + 2, none⟩ = some (.int .i64 (os.getD i default).b) ∧
      wr.cell? ⟨b, off + i * 7 + 3, none⟩ = some (.int .i64 (os.getD i default).c) ∧ wr.cell? ⟨b, off + i * 7 + 4, none⟩ = some (.int .i64 (os.getD i default).d) ∧ wr.cell? ⟨b, off + i * 7 + 5, none⟩ = some (.string (os.getD i default).name) ∧ wr.cell? ⟨b, off + i * 7 + 6, none⟩ = some d := by
  rcases vr_ops hv with ⟨rfl, a, rfl⟩ | ⟨b, off, cap, rfl, hc, h⟩
  · exact ⟨a, 0, rfl, fun i hi => absurd hi (Nat.not_lt_zero _)⟩
  · refine ⟨_, cap, rfl, fun i hi => ?_⟩
    obtain ⟨h0, h1, h2, h3, h4, h5, u, h6, h7⟩ := h i hi
    exact ⟨b, off, u, rfl, hc, h7, fun wr hb => ⟨cell_below (hr.mem _ _ _ h0) hb (Nat.le_refl _), cell_below (hr.mem _ _ _ h1) hb (Nat.le_refl _), cell_below (hr.mem _ _ _ h2) hb (Nat.le_refl _), cell_below (hr.mem _ _ _ h3) hb (Nat.le_refl _), cell_below (hr.mem _ _ _ h4) hb (Nat.le_refl _), cell_below (hr.mem _ _ _ h5) hb (Nat.le_refl _), cell_below (hr.mem _ _ _ h6) hb (Nat.le_refl _)⟩⟩
theorem fresh2 {wr : World} {x y : Value} {t : TypeId} : (wr.alloc (.cells #[x, y] t)).cell? ⟨wr.heap.size, 0, none⟩ = some x ∧ (wr.alloc (.cells #[x, y] t)).cell? ⟨wr.heap.size, 1, none⟩ = some y ∧ wr.heap.size < (wr.alloc (.cells #[x, y] t)).heap.size :=
  ⟨Lib.cell_of_heap (heap_alloc_new wr _) 0, Lib.cell_of_heap (heap_alloc_new wr _) 1, by show wr.heap.size < (wr.heap.push _).size; rw [Array.size_push]; omega⟩
theorem bld_lt {w : World} {B b : Nat} {xs : List Value} (h : Lib.IsBuilderF 61 5 B b xs w) : b < w.heap.size := by
  rcases h with ⟨_, v, hk, _⟩ | ⟨_, v, hk, _⟩
  · exact (Array.getElem?_eq_some_iff.1 hk).1
  · exact (Array.getElem?_eq_some_iff.1 hk).1
theorem vr_sl {κ : Kap} {es : List (List AV)} {v : Value} (h : VR κ (.ro es) v) : ∃ a n c, v = .slice a n c := by
  cases h with
  | roEnd a => exact ⟨a, 0, 0, rfl⟩
  | ro hc hz hm hv => exact ⟨_, _, _, rfl⟩
/-- A text is put behind what a builder holds. -/
theorem at_write {B : Nat} {acc t : List UInt8} {s : ByteArray} {w : World} (hB : Lib.IsBuilderF 61 5 B B (Lib.byteCells acc) w) (hs : s = bs t) (hl : acc.length + t.length ≤ 1000000000) :
    Calls Tryz.prog 26 #[.pointer (some ⟨B, 0, none⟩), .string s] w fun e w' => e = .returned (.tuple #[.int .i64 s.size, .nilIface]) ∧ (Lib.IsBuilderF 61 5 B B (Lib.byteCells (acc ++ t)) w' ∧ Below B w w' ∧ Lib.OthersKept 5 (some B) w w') := by
  have hb := bld_lt hB
  have e1 : s.data.toList = t := by rw [hs]
  have e2 : s.size = t.length := by rw [hs, size_bs]
  refine (sh_Builder_WriteString_k B B _ s w hB (by rw [Lib.byteCells_length, e2]; omega) (Nat.le_of_lt hb)).mono ?_
  rintro e w' ⟨rfl, h1, h2, h3⟩
  rw [Lib.strCells_eq, e1, ← Lib.byteCells_append] at h1
  exact ⟨rfl, .inr h1, h2, h3⟩
theorem at_len {B : Nat} {acc : List UInt8} {w : World} (hB : Lib.IsBuilderF 61 5 B B (Lib.byteCells acc) w) : Calls Tryz.prog 29 #[.pointer (some ⟨B, 0, none⟩)] w fun e w' => e = .returned (.int .i64 (acc.length : Nat)) ∧ w' = w := by
  have := sh_Builder_Len_f B B _ w hB
  rwa [Lib.byteCells_length] at this
theorem at_string {B : Nat} {acc : List UInt8} {w : World} (hB : Lib.IsBuilderF 61 5 B B (Lib.byteCells acc) w) : Calls Tryz.prog 30 #[.pointer (some ⟨B, 0, none⟩)] w fun e w' => e = .returned (.string (bs acc)) ∧ Below B w w' :=
  (sh_Builder_String_any_f B B acc w hB (Nat.le_of_lt (bld_lt hB))).mono fun e w' ⟨h1, _, h3⟩ => ⟨h1, h3⟩
/-- A block of another type than bytes stays. -/
theorem kept_cells {B k : Nat} {cs : Array Value} {t : TypeId} {w w' : World} (h : Lib.OthersKept 5 (some B) w w') (hk : w.heap[k]? = some (.cells cs t)) (hne : k ≠ B) (ht : t ≠ 5) : w'.heap[k]? = some (.cells cs t) :=
  h k _ hk (fun e => hne (Option.some.inj e)) fun c fz e => by injection e with _ e2 _; exact ht e2
theorem cells7 {w : World} {b : Nat} {x0 x1 x2 x3 x4 x5 x6 : Value} {t : TypeId} (h : w.heap[b]? = some (.cells #[x0, x1, x2, x3, x4, x5, x6] t)) : w.cell? ⟨b, 0, none⟩ = some x0 ∧ w.cell? ⟨b, 1, none⟩ = some x1 ∧ w.cell? ⟨b, 2, none⟩ = some x2 ∧ w.cell? ⟨b, 3, none⟩ = some x3 ∧ w.cell? ⟨b, 4, none⟩ = some x4 ∧ w.cell? ⟨b, 5, none⟩ = some x5 ∧ w.cell? ⟨b, 6, none⟩ = some x6 :=
  ⟨Lib.cell_of_heap h 0, Lib.cell_of_heap h 1, Lib.cell_of_heap h 2, Lib.cell_of_heap h 3, Lib.cell_of_heap h 4, Lib.cell_of_heap h 5, Lib.cell_of_heap h 6⟩
theorem btxt_many {bs' : List Blk} (h0 : opsF bs' = 0) (h : 6000 < (codeT bs' bs'.length).length) : btxt bs' = (2, []) := by unfold btxt; rw [if_neg (by simpa using h0), if_pos h]
theorem btxt_all {bs' : List Blk} (h0 : opsF bs' = 0) (h : ¬ 6000 < (codeT bs' bs'.length).length) : btxt bs' = (0, codeT bs' bs'.length) := by unfold btxt; rw [if_neg (by simpa using h0), if_neg h]
/-- What is known of the result's cells. -/
theorem res_at {w w' : World} {b B : Nat} {x y : Value} {t : TypeId} (h : w.heap[b]? = some (.cells #[x, y] t)) (hb : Below B w w') (hB : b < B) : w'.heap[b]? = some (.cells #[x, y] t) ∧ w'.cell? ⟨b, 0, none⟩ = some x ∧ w'.cell? ⟨b, 1, none⟩ = some y ∧ w'.frozen? ⟨b, 0, none⟩ = false ∧ w'.frozen? ⟨b, 1, none⟩ = false := by
  have hk := (hb.block b hB).trans h
  exact ⟨hk, Lib.cell_of_heap hk 0, Lib.cell_of_heap hk 1, by simp [World.frozen?, hk], by simp [World.frozen?, hk]⟩
/-- Two texts, one behind the other. -/
theorem cat_run {a b : List UInt8} (h : a.length + b.length ≤ 1000000000) (w : World) : (Op.stringOp .add (bs a) (bs b)).run Tryz.prog w = .ok (.string (bs (a ++ b))) w := by
  rw [run_string_add_sum w _ _ (by rw [size_bs, size_bs]; omega), bs_append]
set_option maxHeartbeats 8000000 in
theorem w_CodeText_good {bs' : List Blk} {v : Value} (hr : Rel κ σ w) (hv : VR κ (roBk bs') v) (h0 : opsF bs' = 0) :
    Calls Tryz.prog 9 #[v] w fun e w' => e = .returned (.agg #[.int .i64 (btxt bs').1, .string (bs (btxt bs').2)]) ∧ Below w.heap.size w w' := by
  have b0 : Below w.heap.size w (w.alloc (.cells #[.int .i64 0, .string ⟨#[]⟩] 25)) := (Below.refl w.heap.size w).alloc (Nat.le_refl _) _
  have cF := at_opsFault hr hv _ b0
  rw [h0] at cF
  have hR := hidT hr
  have hV := hidT (code_at hr hv)
  clear hv hr
  obtain ⟨ao, cap, rfl, hao⟩ := hV.out
  have hA := hidT hao
  have hH := hidT h0
  clear hao hV h0
  go_enter Tryz.func9, Tryz.ntmps9
  go_wp2_with (go_at_call 25; refine cF.mono ?_)
  rintro e w1 ⟨rfl, hb1⟩
  clear cF
  have hrr := hidT (below_res hb1)
  have B1 := hidT (b0.trans (hb1.mono (by simp)))
  have HB0 := hidT (Lib.IsBuilderF.of (Lib.fresh_isBuilder 61 5 w1))
  have HW0 := hidT ((Below.refl w1.heap.size w1).alloc (Nat.le_refl _) (.cells #[.pointer none, .slice none 0 0] 61))
  clear hb1 b0
  go_wp2
  go_loopw [19] (fun i wr => ∃ k : Nat, k ≤ bs'.length ∧ i = .int .i64 k ∧ Hid (Lib.IsBuilderF 61 5 w1.heap.size w1.heap.size (Lib.byteCells (codeT bs' k)) wr) ∧ Hid (Below w1.heap.size w1 wr)) (fun i _ => bs'.length - (intOf i).toNat)
  case atStart => exact ⟨0, Nat.zero_le _, rfl, HB0, HW0⟩
  case round =>
    obtain ⟨k, hk, rfl, HB, HW⟩ := hrel
    by_cases hlt : k < bs'.length
    · obtain ⟨b, off, rfl, hcap, hc0, u, hc1, hu⟩ := hA.out k hlt
      obtain ⟨bk, hbk⟩ : ∃ bk, bk = bs'.getD k default := ⟨_, rfl⟩
      rw [← hbk] at hc0 hu
      have hBK := hidT hbk
      have hq := blkF_opF ((opsF_blkF hH.out).2 k hlt)
      rw [← hbk] at hq
      have hal := (opsF_blkF hH.out).1
      obtain ⟨hargs, hol, hop⟩ := hq
      have hOP := hidT hop
      clear hbk hop
      have c0 := hc0 _ (B1.out.trans (HW.out.mono B1.out.size))
      have c1 := hc1 _ (B1.out.trans (HW.out.mono B1.out.size))
      obtain ⟨ao2, cap2, rfl, hao2⟩ := ops_at hR.out hu
      have hO := hidT hao2
      clear hao2 hu hc0 hc1
      go_wp2
      have hW8 := hidT ((Below.refl wr.heap.size wr).alloc (Nat.le_refl _) (.cells #[.int .i64 bk.args, .slice ao2 bk.ops.length cap2] 51))
      generalize hw8 : wr.alloc (.cells #[.int .i64 bk.args, .slice ao2 bk.ops.length cap2] 51) = w8 at hW8 ⊢
      have hf2 := fresh2 (wr := wr) (x := .int .i64 bk.args) (y := .slice ao2 bk.ops.length cap2) (t := 51)
      have hk8 := heap_alloc_new wr (.cells #[.int .i64 bk.args, .slice ao2 bk.ops.length cap2] 51)
      rw [hw8] at hf2 hk8
      obtain ⟨c6, c7, hl8⟩ := hf2
      clear hw8
      have d1 := itoa_len (v := (k : Int)) (by omega) (by omega)
      have d2 := itoa_len (v := bk.args) (by omega) (by omega)
      have q1 := cat_run (a := [98, 108, 111, 99, 107, 32]) (b := Lib.itoa (k : Int)) (by simp only [List.length_cons, List.length_nil]; omega)
      have q2 := cat_run (a := [98, 108, 111, 99, 107, 32] ++ Lib.itoa (k : Int)) (b := [32]) (by simp only [List.length_append, List.length_cons, List.length_nil]; omega)
      have q3 := cat_run (a := [98, 108, 111, 99, 107, 32] ++ Lib.itoa (k : Int) ++ [32]) (b := Lib.itoa bk.args) (by simp only [List.length_append, List.length_cons, List.length_nil]; omega)
      have q4 := cat_run (a := [98, 108, 111, 99, 107, 32] ++ Lib.itoa (k : Int) ++ [32] ++ Lib.itoa bk.args) (b := [10]) (by simp only [List.length_append, List.length_cons, List.length_nil]; omega)
      change ∀ w, (Op.stringOp .add (⟨#[98, 108, 111, 99, 107, 32]⟩ : ByteArray) _).run Tryz.prog w = _ at q1
      change ∀ w, (Op.stringOp .add _ (⟨#[32]⟩ : ByteArray)).run Tryz.prog w = _ at q2
      change ∀ w, (Op.stringOp .add _ (⟨#[10]⟩ : ByteArray)).run Tryz.prog w = _ at q4
      have cD : ∀ (n : Int) (S : ByteArray), S = bs (Lib.itoa n) → 0 ≤ n → n ≤ 1000 → ∀ wX, Below w8.heap.size w8 wX → Calls Tryz.prog 27 #[.int .i64 n] wX fun e w' => e = .returned (.string S) ∧ (Below w8.heap.size w8 w' ∧ w'.cell? ⟨wr.heap.size, 0, none⟩ = some (.int .i64 bk.args)) := fun n S hS h0 h1 wX hX =>
        (at_dec (n := n) (by omega) (by omega) hR.out wX (((B1.out.trans (HW.out.mono B1.out.size)).trans (hW8.out.mono (Nat.le_trans B1.out.size HW.out.size))).trans (hX.mono (Nat.le_trans (Nat.le_trans B1.out.size HW.out.size) hW8.out.size)))).mono (by
          rintro e w' ⟨rfl, hb⟩
          have h2 := hX.trans (hb.mono hX.size)
          exact ⟨by rw [hS], h2, (h2.cell (p := ⟨wr.heap.size, 0, none⟩) hl8).trans c6⟩)
      have H0 := (Below.refl w8.heap.size w8).drew
      have eX : [98, 108, 111, 99, 107, 32] ++ Lib.itoa (k : Int) ++ [32] ++ Lib.itoa bk.args ++ [10] = headB k bk.args := by unfold headB; simp
      rw [eX] at q4
      have hhl : (headB k bk.args).length ≤ 40 := headB_len (by omega) hargs.1 hargs.2
      have cS1 := cD k _ rfl (by omega) (by omega)
      have cS2 := cD bk.args _ rfl hargs.1 (by omega)
      clear cD
      generalize bs (Lib.itoa (k : Int)) = S1 at q1 cS1
      generalize bs (Lib.itoa bk.args) = S2 at q3 cS2
      generalize bs ([98, 108, 111, 99, 107, 32] ++ Lib.itoa (k : Int)) = X1 at q1 q2
      generalize bs ([98, 108, 111, 99, 107, 32] ++ Lib.itoa (k : Int) ++ [32]) = X2 at q2 q3
      generalize bs ([98, 108, 111, 99, 107, 32] ++ Lib.itoa (k : Int) ++ [32] ++ Lib.itoa bk.args) = X3 at q3 q4
      obtain ⟨X4, hX4⟩ : ∃ X4, Hid (X4 = bs (headB k bk.args)) := ⟨_, rfl⟩
      rw [← hX4.out] at q4
      have hcl := hidT (codeT_le bs' (Nat.le_of_lt hlt))
      have hall := hidT (codeT_all hH.out)
      have cW : ∀ wX, Below w8.heap.size w8 wX → Calls Tryz.prog 26 #[.pointer (some ⟨w1.heap.size, 0, none⟩), .string X4] wX fun e w' => e = .returned (.tuple #[.int .i64 X4.size, .nilIface]) ∧ (Hid (Lib.IsBuilderF 61 5 w1.heap.size w1.heap.size (Lib.byteCells (codeT bs' k ++ (headB k bk.args ++ opsT bk.ops 0))) w') ∧ Hid (Below w1.heap.size w1 w') ∧ w'.cell? ⟨wr.heap.size, 1, none⟩ = some (.slice ao2 bk.ops.length cap2)) := fun wX hX => by
        have hb := bld_below HB.out (hW8.out.trans (hX.mono hW8.out.size))
        have hlt1 := bld_lt HB.out
        have := hcl.out
        have := hall.out
        refine (at_write hb hX4.out (by omega)).mono ?_
        rintro e w' ⟨rfl, h1, h2, h3⟩
        refine ⟨rfl, ?_, ((HW.out.trans (hW8.out.mono HW.out.size)).trans (hX.mono (Nat.le_trans HW.out.size hW8.out.size))).trans h2, ?_⟩
        · have : opsT bk.ops 0 = [] := rfl
          rw [this, List.append_nil]; exact h1
        · have hk := (hX.block _ hl8).trans hk8
          exact Lib.cell_of_heap (kept_cells h3 hk (by omega) (by decide)) 1
      clear eX d1 d2 hcl hall
      go_region_with (first
        | (go_at_call_of 27 (k : Int); refine (cS1 _ (by assumption)).mono ?_; rintro e w' ⟨rfl, hX, hc6⟩)
        | (go_at_call_of 27 bk.args; refine (cS2 _ (by assumption)).mono ?_; rintro e w' ⟨rfl, hX, hc6⟩)
        | (go_at_call 26; refine (cW _ (by assumption)).mono ?_; rintro e w' ⟨rfl, HB', HW', c7'⟩))
      clear cS1 cS2 cW q1 q2 q3 q4 c6 c7 H0 HB hX4
      all_goals (
        go_wp2
        go_loopw [38] (fun j wi => ∃ m : Nat, m ≤ bk.ops.length ∧ j = .int .i64 m ∧ Hid (Lib.IsBuilderF 61 5 w1.heap.size w1.heap.size (Lib.byteCells (codeT bs' k ++ (headB k bk.args ++ opsT bk.ops m))) wi) ∧ Hid (Below w1.heap.size w1 wi)) (fun j _ => bk.ops.length - (intOf j).toNat)
        case atStart => exact ⟨0, Nat.zero_le _, rfl, HB', HW'⟩
        case round =>
          obtain ⟨m, hm, rfl, HB, HW⟩ := hrel
          by_cases hlm : m < bk.ops.length
          · obtain ⟨b2, off2, d, rfl, hcap2, hd, hcs⟩ := hO.out m hlm
            obtain ⟨ad, nd, cd, rfl⟩ := vr_sl hd
            have hop := hOP.out m hlm
            obtain ⟨o, ho⟩ : ∃ o, o = bk.ops.getD m default := ⟨_, rfl⟩
            rw [← ho] at hd hcs hop
            have hOT := hidT (OTx.of hop)
            have hOo := hidT ho
            have hDd := hidT hd
            obtain ⟨k0, k1, k2, k3, k4, k5, k6⟩ := hcs _ (B1.out.trans (HW.out.mono B1.out.size))
            clear hcs hop ho hd
            go_wp2
            have hW8 := hidT ((Below.refl wr.heap.size wr).alloc (Nat.le_refl _) (.cells #[.int .i64 o.kind, .int .i64 o.a, .int .i64 o.b, .int .i64 o.c, .int .i64 o.d, .string o.name, .slice ad nd cd] 56))
            have hk8 := heap_alloc_new wr (.cells #[.int .i64 o.kind, .int .i64 o.a, .int .i64 o.b, .int .i64 o.c, .int .i64 o.d, .string o.name, .slice ad nd cd] 56)
            generalize wr.alloc (.cells #[.int .i64 o.kind, .int .i64 o.a, .int .i64 o.b, .int .i64 o.c, .int .i64 o.d, .string o.name, .slice ad nd cd] 56) = w8 at hW8 hk8 ⊢
            have hl8 := (Array.getElem?_eq_some_iff.1 hk8).1
            obtain ⟨f0, f1, f2, f3, f4, f5, f6⟩ := cells7 hk8
            have hwi := Nat.le_trans B1.out.size HW.out.size
            have hBw := hidT ((B1.out.trans (HW.out.mono B1.out.size)).trans (hW8.out.mono hwi))
            have d1 := itoa_len (v := (m : Int)) (by omega) (by omega)
            have d2 := txtO_len hOT.out
            have q1 := cat_run (a := Lib.itoa (m : Int)) (b := [58, 32]) (by simp only [List.length_cons, List.length_nil]; omega)
            have q2 := cat_run (a := Lib.itoa (m : Int) ++ [58, 32]) (b := txtO o) (by simp only [List.length_append, List.length_cons, List.length_nil]; omega)
            have q3 := cat_run (a := Lib.itoa (m : Int) ++ [58, 32] ++ txtO o) (b := [10]) (by simp only [List.length_append, List.length_cons, List.length_nil]; omega)
            change ∀ w, (Op.stringOp .add _ (⟨#[58, 32]⟩ : ByteArray)).run Tryz.prog w = _ at q1
            change ∀ w, (Op.stringOp .add _ (⟨#[10]⟩ : ByteArray)).run Tryz.prog w = _ at q3
            have cS : ∀ wX, Below w8.heap.size w8 wX → Calls Tryz.prog 27 #[.int .i64 (m : Int)] wX fun e w' => e = .returned (.string (bs (Lib.itoa (m : Int)))) ∧ (Below w8.heap.size w8 w' ∧ w'.heap[wr.heap.size]? = some (.cells #[.int .i64 o.kind, .int .i64 o.a, .int .i64 o.b, .int .i64 o.c, .int .i64 o.d, .string o.name, .slice ad nd cd] 56)) := fun wX hX =>
              (at_dec (by omega) (by omega) hR.out wX (hBw.out.trans (hX.mono (Nat.le_trans hwi hW8.out.size)))).mono (by
                rintro e w' ⟨rfl, hb⟩
                have h2 := hX.trans (hb.mono hX.size)
                exact ⟨rfl, h2, (h2.block _ hl8).trans hk8⟩)
            have cT : ∀ wX, Below w8.heap.size w8 wX → Calls Tryz.prog 28 #[.agg #[.int .i64 o.kind, .int .i64 o.a, .int .i64 o.b, .int .i64 o.c, .int .i64 o.d, .string o.name, .slice ad nd cd]] wX fun e w' => e = .returned (.string (bs (txtO o))) ∧ Below w8.heap.size w8 w' := fun wX hX =>
              (at_text hOT.out hR.out hDd.out wX (hBw.out.trans (hX.mono (Nat.le_trans hwi hW8.out.size)))).mono (by
                rintro e w' ⟨rfl, hb⟩
                exact ⟨rfl, hX.trans (hb.mono hX.size)⟩)
            have H0 := (Below.refl w8.heap.size w8).drew
            have eX : Lib.itoa (m : Int) ++ [58, 32] ++ txtO o ++ [10] = lineO m o := by unfold lineO; simp
            rw [eX] at q3
            have hll : (lineO m o).length ≤ 3400 := lineO_len hOT.out (by omega)
            have hpl := hidT (part_le bs' hlt (k := m) (by rw [← hBK.out]; exact hm))
            have hpl1 := hidT (part_le bs' hlt (k := m + 1) (by rw [← hBK.out]; exact hlm))
            rw [← hBK.out] at hpl hpl1
            have hall := hidT (codeT_all hH.out)
            generalize bs (Lib.itoa (m : Int)) = S1 at q1 cS
            generalize bs (txtO o) = S2 at q2 cT
            generalize bs (Lib.itoa (m : Int) ++ [58, 32]) = X1 at q1 q2
            generalize bs (Lib.itoa (m : Int) ++ [58, 32] ++ txtO o) = X2 at q2 q3
            obtain ⟨X4, hX4⟩ : ∃ X4, Hid (X4 = bs (lineO m o)) := ⟨_, rfl⟩
            rw [← hX4.out] at q3
            have cW : ∀ wX, Below w8.heap.size w8 wX → Calls Tryz.prog 26 #[.pointer (some ⟨w1.heap.size, 0, none⟩), .string X4] wX fun e w' => e = .returned (.tuple #[.int .i64 X4.size, .nilIface]) ∧ (Hid (Lib.IsBuilderF 61 5 w1.heap.size w1.heap.size (Lib.byteCells (codeT bs' k ++ (headB k bk.args ++ opsT bk.ops (m + 1)))) w') ∧ Hid (Below w1.heap.size w1 w')) := fun wX hX => by
              have hb := bld_below HB.out (hW8.out.trans (hX.mono hW8.out.size))
              have h1 := hpl.out
              have h2 := hall.out
              refine (at_write hb hX4.out (by omega)).mono ?_
              rintro e w' ⟨rfl, h1, h2, h3⟩
              refine ⟨rfl, ?_, ((HW.out.trans (hW8.out.mono HW.out.size)).trans (hX.mono (Nat.le_trans HW.out.size hW8.out.size))).trans h2⟩
              rw [opsT_succ, ← hOo.out]
              rw [List.append_assoc, List.append_assoc] at h1
              exact h1
            clear eX d1 d2 hpl hall hll HB HB' HW' hcap2 k0 k1 k2 k3 k4 k5 k6
            go_region_with (first
              | (go_at_call 27; refine (cS _ (by assumption)).mono ?_; rintro e w' ⟨rfl, hX, hk⟩; obtain ⟨g0, g1, g2, g3, g4, g5, g6⟩ := cells7 hk)
              | (go_at_call 28; refine (cT _ (by assumption)).mono ?_; rintro e w' ⟨rfl, hX⟩)
              | (go_at_call 26; refine (cW _ (by assumption)).mono ?_; rintro e w' ⟨rfl, HB', HW'⟩))
            all_goals (
              clear cS cT cW q1 q2 q3 f0 f1 f2 f3 f4 f5 f6 H0 hX4
              have cL := at_len HB'.out
              obtain ⟨hr0, hc0, hc1, hf0, hf1⟩ := res_at hrr.out HW'.out (Array.getElem?_eq_some_iff.1 hrr.out).1
              obtain ⟨ln, hln⟩ : ∃ ln : Nat, Hid (ln = (codeT bs' k ++ (headB k bk.args ++ opsT bk.ops (m + 1))).length) := ⟨_, rfl⟩
              rw [← hln.out] at cL
              by_cases g6 : (6000 : Int) < (ln : Int)
              · go_wp2_with (go_at_call 29; refine cL.mono ?_; rintro e w'' ⟨rfl, rfl⟩)
                (try simp only [Exit.inBlock, Exit.then])
                refine bodyPost_ret (results_cell_row Tryz.results9 _ _ w.heap.size 25 _ (0, 0) _ rfl (set_res hr0) Tryz.underlying25 rfl rfl) rfl ?_
                refine ⟨?_, .setCell (.setCell (B1.out.trans (HW'.out.mono B1.out.size)) (Nat.le_refl _) _) (Nat.le_refl _) _⟩
                rw [btxt_many hH.out (by have h1 := hpl1.out; have h2 := hln.out; omega)]
              · go_wp2_with (go_at_call 29; refine cL.mono ?_; rintro e w'' ⟨rfl, rfl⟩)
                exact ⟨⟨m + 1, by omega, by go_num, HB', HW'⟩, by simp [intOf]; omega⟩)
          · have hme : m = bk.ops.length := by omega
            subst hme
            have eE : codeT bs' k ++ (headB k bk.args ++ opsT bk.ops bk.ops.length) = codeT bs' (k + 1) := by rw [codeT_succ, ← hBK.out]; rfl
            rw [eE] at HB
            clear eE HB' HW'
            go_wp2
            exact ⟨⟨k + 1, by omega, by go_num, HB, HW⟩, by simp [intOf]; omega⟩)
    · have hke : k = bs'.length := by omega
      subst hke
      have cL := at_len HB.out
      have cG := at_string HB.out
      obtain ⟨hr0, hc0, hc1, hf0, hf1⟩ := res_at hrr.out HW.out (Array.getElem?_eq_some_iff.1 hrr.out).1
      obtain ⟨ln, hln⟩ : ∃ ln : Nat, Hid (ln = (codeT bs' bs'.length).length) := ⟨_, rfl⟩
      rw [← hln.out] at cL
      by_cases g6 : (6000 : Int) < (ln : Int)
      · go_wp2_with (go_at_call 29; refine cL.mono ?_; rintro e w'' ⟨rfl, rfl⟩)
        (try simp only [Exit.inBlock, Exit.then])
        refine bodyPost_ret (results_cell_row Tryz.results9 _ _ w.heap.size 25 _ (0, 0) _ rfl (set_res hr0) Tryz.underlying25 rfl rfl) rfl ?_
        refine ⟨?_, .setCell (.setCell (B1.out.trans (HW.out.mono B1.out.size)) (Nat.le_refl _) _) (Nat.le_refl _) _⟩
        rw [btxt_many hH.out (by have h2 := hln.out; omega)]
      · clear hc0 hc1 hf0 hf1
        go_wp2_with (first
          | (go_at_call 29; refine cL.mono ?_; rintro e w'' ⟨rfl, rfl⟩)
          | (go_at_call 30; refine cG.mono ?_; rintro e w'' ⟨rfl, hb2⟩; obtain ⟨hr1, hc0, hc1, hf0, hf1⟩ := res_at hr0 hb2 (Array.getElem?_eq_some_iff.1 hrr.out).1))
        (try simp only [Exit.inBlock, Exit.then])
        refine bodyPost_ret (results_cell_row Tryz.results9 _ _ w.heap.size 25 _ (0, 0) _ rfl (set_res hr1) Tryz.underlying25 rfl rfl) rfl ?_
        refine ⟨?_, .setCell (.setCell ((B1.out.trans (HW.out.mono B1.out.size)).trans (hb2.mono B1.out.size)) (Nat.le_refl _) _) (Nat.le_refl _) _⟩
        rw [btxt_all hH.out (by have h2 := hln.out; omega)]
end
end Go.Proofs.YtggnjjalfnhiiaaGreatDoor.E
/- Code as a text: the program's way. -/
set_option linter.unusedSectionVars false
set_option linter.unusedSimpArgs false
set_option linter.unusedVariables false
namespace Go.Proofs.YtggnjjalfnhiiaaGreatDoor.E
open Go Go.RowKit
set_option maxRecDepth 100000
variable [L : Lam]
theorem c_impl_CodeText [K : Knows QP] {σ : AH} {R : AEnd → AH → Prop} {bs' : List Blk} (h : R (.ret (.agg [iv (btxt bs').1, str (bs (btxt bs').2)])) σ) : acall TP fn_impl_CodeText [roBk bs'] σ R := by
  refine ⟨_, Tryz.func9, rfl, by decide, fun κ w vs hr hv => ?_⟩
  obtain ⟨v, rfl⟩ : ∃ v, vs = [v] := by
    have := hv.1
    match vs, this with
    | [a], _ => exact ⟨a, rfl⟩
  have hx : VR κ (roBk bs') v := hv.2 0 (by simp)
  have key : Calls Tryz.prog 9 #[v] w fun e w' => e = .returned (.agg #[.int .i64 (btxt bs').1, .string (bs (btxt bs').2)]) ∧ Below w.heap.size w w' := by
    by_cases c : opsF bs' = 0
    · exact w_CodeText_good hr hx c
    · have e : btxt bs' = (opsF bs', []) := by unfold btxt; rw [if_pos c]
      rw [e]
      exact w_CodeText_bad hr hx c
  refine key.mono ?_
  rintro e w' ⟨rfl, hw⟩
  refine ⟨κ, _, σ, h, .below hr hw, ?_⟩
  show VR κ (.agg [iv (btxt bs').1, str (bs (btxt bs').2)]) (.agg [Value.int .i64 (btxt bs').1, Value.string (bs (btxt bs').2)].toArray)
  refine .agg rfl fun i hi => ?_
  match i, hi with
  | 0, _ => exact .val _
  | 1, _ => exact .val _
end Go.Proofs.YtggnjjalfnhiiaaGreatDoor.E
/- Code as a text: the law. -/
set_option linter.unusedSectionVars false
set_option linter.unusedSimpArgs false
set_option linter.unusedVariables false
namespace Go.Proofs.YtggnjjalfnhiiaaGreatDoor.E
open Go Go.RowKit
set_option maxRecDepth 100000
variable [L : Lam]
variable {σ : AH} {R : AEnd → AH → Prop}
theorem c_eqText {c : Int} {s : ByteArray} (h : R (.ret (bv true)) σ) : acall TP fn_laws_eqTextResult [.agg [iv c, str s], .agg [iv c, str s]] σ R := by
  refine s_laws_eqTextResult_ok ?_
  unfold s_laws_eqTextResult
  refine box2_frz rfl rfl ?_
  have e0 : ∀ τ, lod (.rop [iv c, str s] 0) τ = some (iv c) := fun _ => rfl
  have e1 : ∀ τ, lod (.rop [iv c, str s] 1) τ = some (str s) := fun _ => rfl
  simp only [RR, e0, e1, sbin_neq', dec_self]
  exact ret_here h
variable [K : Knows QP]
theorem c_laws_FnExactCodeText {bs : List Blk} (hb0 : bC 9223372036854775807 bs) {R : AEnd → AH → Prop} (h : ∀ σ, R (.ret (bv true)) σ) : acall TP fn_laws_FnExactCodeText [roBk bs] ah0 R := by
  have hret : ∀ σ, aret (bv true) σ R := fun σ => ret_here (h σ)
  refine s_laws_FnExactCodeText_ok ?_
  unfold s_laws_FnExactCodeText
  refine c_laws_szBlockS (by decide) (by decide) hb0 fun v _ _ hb1 => ?_
  simp only [RR]
  refine apick_cases (fun _ => hret _) (fun c => ?_)
  have hb := hb1 (by have := of_decide_eq_false c; omega)
  refine c_laws_toBlockS hb ?_
  refine c_spec_CodeText (bC_sC hb) ?_
  refine new_frz rfl rfl rfl (one2 rfl rfl) ?_
  refine c_laws_toBlockS hb ?_
  refine c_impl_CodeText ?_
  refine new_frz rfl rfl rfl (one2 rfl rfl) ?_
  simp only [lodA_all (cs := [_, _]) (n := 2) rfl, RR]
  refine c_eqText ?_
  simp only [RR]
  refine c_laws_toBlockS hb ?_
  refine c_laws_eqBlockS hb ?_
  simp only [RR]
  exact hret _
end Go.Proofs.YtggnjjalfnhiiaaGreatDoor.E
